/- Texts WBt3, WBt4, WBt5, WAChE, WAChS, WACh0, WACh1, WACh2, WAChP, Eng35, WACi1: what they show that this claim uses. -/
import Derived.Test.YtcplgmgpagekfaaGreatDoorP7
import Derived.Shelf.RegionOpenPlain
import Derived.Test.YtcplgmgpagekfaaGreatDoorP6
import Derived.LoopN
import Derived.Test.YtcplgmgpagekfaaGreatDoorP4
import Derived.Test.YtcplgmgpagekfaaGreatDoorChecked
import Derived.Test.YtcplgmgpagekfaaGreatDoorP5
set_option maxRecDepth 100000
set_option maxHeartbeats 1000000
set_option linter.unusedVariables false
set_option linter.unusedSimpArgs false
namespace Go.Proofs.YtcplgmgpagekfaaGreatDoor.Bld
open Go Go.Bld Go.RowKit
set_option maxHeartbeats 2000000
structure BV (b:Nat) (p v:Value) (bs:List Value) (w:World):Prop where
 blk:w.heap[b]? = some (.cells #[p,v] 175 (0,0))
 self:p=.pointer none ∨ p=.pointer (some ⟨b,0,none⟩)
 own:w.ownsRow 0 5 1 v bs.length bs
 ne:v.ownBlock ≠ some b
 nil:bs=[]→v=.slice none 0 0
structure Fr (b:Nat) (v:Value) (w w':World):Prop where
 os:w'.os=w.os
 output:w'.output=w.output
 tape:w'.tape=w.tape
 size:w.heap.size≤w'.heap.size
 block:∀ k,k < w.heap.size→k ≠ b→v.ownBlock ≠ some k→w'.heap[k]? = w.heap[k]?
theorem BV.lt {b:Nat}{p v:Value}{bs:List Value}{w:World}(h:BV b p v bs w):b < w.heap.size:=(Array.getElem?_eq_some_iff.1 h.blk).1
theorem Om {f:FuncId}(hb:Eng.DL Tryz.prog f=true):∀ args w,(callFunc f args).run Tryz.prog w=.ok (.enter f args) w:=by
 obtain ⟨fn,hfn,hbody,hname⟩:=Eng.Eh hb
 intro args w
 simp only [callFunc,Sem.run_bind,run_program,Result.andThen_ok,hfn,hname,hbody,Bool.false_eq_true,if_false,Sem.run_pure]
theorem e46:∀ args w,(callFunc 131 args).run Tryz.prog w=.ok (.enter 131 args) w:=Om (by kernel_rfl)
theorem abQ:Tryz.prog.follows .mixedOrders=true:=by kernel_rfl
theorem Yp:∃ i,Tryz.prog.info? 5=some i∧i.zero=some (.int .u8 0)∧i.size=1∧i.bytes=1:=by
 have h:(Tryz.prog.info? 5).map (fun i=>(i.zero,i.size,i.bytes))=some (some (.int .u8 0),1,1):=by kernel_rfl
 obtain ⟨i,hi,he⟩:=Option.map_eq_some_iff.1 h
 simp only [Prod.mk.injEq] at he
 exact ⟨i,hi,he⟩
theorem P0 (w:World) (a:Addr) (u:Value):(w.setCell a u).heap.size=w.heap.size:=by simp [World.setCell]
theorem aa5 {w:World}{b:Nat}{p v:Value}(h:w.heap[b]? = some (.cells #[p,v] 175 (0,0))) (u:Value):(w.setCell ⟨b,0,none⟩ u).heap[b]? = some (.cells #[u,v] 175 (0,0)):=by simp [World.setCell,Array.getElem?_modify,h]
theorem ajh {w:World}{b:Nat}{p v:Value}(h:w.heap[b]? = some (.cells #[p,v] 175 (0,0))) (u:Value):(w.setCell ⟨b,1,none⟩ u).heap[b]? = some (.cells #[p,u] 175 (0,0)):=by simp [World.setCell,Array.getElem?_modify,h]
theorem aci {b:Nat}{p v:Value}{bs:List Value}{w:World}(h:BV b p v bs w) :
  Calls Tryz.prog 131 #[.pointer (some ⟨b,0,none⟩)] w fun e w'=>e=.returned (.tuple #[])∧BV b (.pointer (some ⟨b,0,none⟩)) v bs w'∧Fr b (.pointer none) w w':=by
 have c0:w.cell? ⟨b,0,none⟩=some p:=by rw [Lib.cell_of_heap h.blk]; rfl
 rcases h.self with rfl | rfl
 ·refine (fresh b w c0 (by simp [World.shape?,h.blk]) (Lib.frozen_of_heap h.blk 0)).mono fun e w' ⟨he,hw⟩ => ?_
  subst hw
  exact ⟨he,⟨aa5 h.blk _,.inr rfl,ownsRow_setCell_other h.own h.ne _,h.ne,h.nil⟩,⟨rfl,rfl,rfl,Nat.le_of_eq (P0 ..).symm,fun k _ hk _=>Below.heap_setCell _ _ _ _ hk⟩⟩
 ·exact (ala b w c0).mono fun e w' ⟨he,hw⟩=>by
   subst hw
   exact ⟨he,h,⟨rfl,rfl,rfl,Nat.le_refl _,fun _ _ _ _=>rfl⟩⟩
theorem Fr.trans0 {b:Nat}{v:Value}{w w1 w2:World}(h:Fr b (.pointer none) w w1) (k:Fr b v w1 w2):Fr b v w w2:=
 ⟨k.os.trans h.os,k.output.trans h.output,k.tape.trans h.tape,Nat.le_trans h.size k.size,fun i hi hb hv=>(k.block i (Nat.lt_of_lt_of_le hi h.size) hb hv).trans (h.block i hi hb (by intro e; cases e))⟩
theorem Fr.of_grown {b:Nat}{v u:Value}{w w':World}(h:w.grownBy w' v.ownBlock):Fr b v w (w'.setCell ⟨b,1,none⟩ u):=
 ⟨h.os,h.output,h.tape,by rw [P0]; exact h.size,fun k hk hb hv=>(Below.heap_setCell _ _ _ _ hb).trans (h.block k hk fun e=>hv e.symm)⟩
theorem I1.of0 {w w1:World}{v v':Value}(h:I1 w1 v v') (hs:w.heap.size≤w1.heap.size):I1 w v v':=fun g hg=>(h g hg).imp id fun h=>Nat.le_trans hs h
theorem write {b:Nat}{p v:Value}{bs:List Value}{w:World}(h:BV b p v bs w) (s:ByteArray) (hl:bs.length+s.size≤1000000000) :
  Calls Tryz.prog 117 #[.pointer (some ⟨b,0,none⟩),.string s] w fun e w'=>e=.returned (.tuple #[.int .i64 s.size,.nilIface]) ∧
   ∃ v',BV b (.pointer (some ⟨b,0,none⟩)) v' (bs++Lib.strCells s) w'∧I1 w v v'∧Fr b v w w':=by
 obtain ⟨i0,hi,hz0,hz1,hz2⟩:=Yp
 have e46:=e46
 go_enter Tryz.func117,Tryz.ntmps117
 go_wp2_with (go_at_call 131; refine (aci h).mono ?_)
 rintro e w1 ⟨rfl,h1,f1⟩
 have c0:w1.cell? ⟨b,0,none⟩=some (.pointer (some ⟨b,0,none⟩)):=by rw [Lib.cell_of_heap h1.blk]; rfl
 have c1:w1.cell? ⟨b,1,none⟩=some v:=by rw [Lib.cell_of_heap h1.blk]; rfl
 have hown:=h1.own
 go_wp2_with (at_builtin; refine U5 rfl _ _ 59 9 rfl 0 5 i0 Tryz.underlying59 Tryz.underlying9 hi hz0 hz1 hz2 _ _ _ rfl hown s rfl ?c3 ?c4 ?c5 ?_)
 case c3=>unfold maxLen; omega
 case c4=>omega
 case c5=>exact Nat.zero_le _
 intro v' w2 hown' hgrow hlies hnil
 have hlt:=h1.lt
 have hb2:w2.heap[b]? = some (.cells #[.pointer (some ⟨b,0,none⟩),v] 175 (0,0)):=by
  rw [hgrow.block b hlt (fun e=>h1.ne e.symm)]
  exact h1.blk
 have d0:w2.cell? ⟨b,0,none⟩=some (.pointer (some ⟨b,0,none⟩)):=by rw [Lib.cell_of_heap hb2]; rfl
 have d1:w2.cell? ⟨b,1,none⟩=some v:=by rw [Lib.cell_of_heap hb2]; rfl
 have f11:w2.frozen? ⟨b,1,none⟩=false:=Lib.frozen_of_heap hb2 1
 obtain ⟨ao,n',cap,rfl⟩:∃ ao n' cap,v'=.slice ao n' cap:=by
  rcases hown'.2 with ⟨hv,_⟩ | ⟨g,cap,cur,hv,_⟩
  ·exact ⟨_,_,_,hv⟩
  ·exact ⟨_,_,_,hv⟩
 have hne':=Lib.ownBlock_ne hown' hb2 (by decide)
 go_wp2
 go_ret2
 refine ⟨rfl,_,⟨ajh hb2 _,.inr rfl,?_,hne',?nl⟩,I1.of0 hlies f1.size,f1.trans0 (Fr.of_grown hgrow)⟩
 case nl =>
  intro e
  have e1:=List.append_eq_nil_iff.1 e
  have hs0:s.size=0:=by rw [← Lib.strCells_length,e1.2]; rfl
  exact hnil (h1.nil e1.1) (by first | exact hs0 | simpa using hs0)
 have:=ownsRow_setCell_other hown' (a:=⟨b,1,none⟩) hne' (.slice ao n' cap)
 rwa [List.length_append,Lib.strCells_length]
theorem agY {b:Nat}{p v:Value}{bs:List Value}{w:World}(h:BV b p v bs w) (ad:Addr) (m c:Nat) (news:List Value) (hl:news.length=m) (hnews:∀ j u,news[j]? = some u→w.cell? (ad.add j)=some u) (hone:∀ u ∈ news,u.oneCell'=true)
  (hadb:ad.block ≠ b) (hadl:ad.block < w.heap.size) (hlen:bs.length+m≤1000000000) :
  Calls Tryz.prog 118 #[.pointer (some ⟨b,0,none⟩),.slice (some ad) m c] w fun e w'=>e=.returned (.tuple #[.int .i64 m,.nilIface]) ∧
   ∃ v',BV b (.pointer (some ⟨b,0,none⟩)) v' (bs++news) w'∧I1 w v v'∧Fr b v w w':=by
 obtain ⟨i0,hi,hz0,hz1,hz2⟩:=Yp
 have e46:=e46
 go_enter Tryz.func118,Tryz.ntmps118
 go_wp2_with (go_at_call 131; refine (aci h).mono ?_)
 rintro e w1 ⟨rfl,h1,f1⟩
 have c0:w1.cell? ⟨b,0,none⟩=some (.pointer (some ⟨b,0,none⟩)):=by rw [Lib.cell_of_heap h1.blk]; rfl
 have c1:w1.cell? ⟨b,1,none⟩=some v:=by rw [Lib.cell_of_heap h1.blk]; rfl
 have hown:=h1.own
 have hnews1:∀ j u,news[j]? = some u→w1.cell? (ad.add j)=some u:=fun j u hj=>by
  have hblk:(ad.add j).block=ad.block:=by unfold Addr.add; split <;> rfl
  have hk:=f1.block ad.block hadl hadb (by intro e; cases e)
  have h0:=hnews j u hj
  unfold World.cell? at h0 ⊢
  rw [hblk] at h0 ⊢
  rw [hk]
  exact h0
 go_wp2_with (at_builtin; refine agj rfl _ _ 59 rfl 0 5 i0 Tryz.underlying59 hi hz0 hz1 hz2 _ _ _ rfl hown ad m c news rfl hl hnews1 hone ?c3 ?c4 ?c5 ?_)
 case c3=>unfold maxLen; omega
 case c4=>omega
 case c5=>exact Nat.zero_le _
 intro v' w2 hown' hgrow hlies hnil
 have hlt:=h1.lt
 have hb2:w2.heap[b]? = some (.cells #[.pointer (some ⟨b,0,none⟩),v] 175 (0,0)):=by
  rw [hgrow.block b hlt (fun e=>h1.ne e.symm)]
  exact h1.blk
 have d0:w2.cell? ⟨b,0,none⟩=some (.pointer (some ⟨b,0,none⟩)):=by rw [Lib.cell_of_heap hb2]; rfl
 have d1:w2.cell? ⟨b,1,none⟩=some v:=by rw [Lib.cell_of_heap hb2]; rfl
 have f11:w2.frozen? ⟨b,1,none⟩=false:=Lib.frozen_of_heap hb2 1
 obtain ⟨ao,n',cap,rfl⟩:∃ ao n' cap,v'=.slice ao n' cap:=by
  rcases hown'.2 with ⟨hv,_⟩ | ⟨g,cap,cur,hv,_⟩
  ·exact ⟨_,_,_,hv⟩
  ·exact ⟨_,_,_,hv⟩
 have hne':=Lib.ownBlock_ne hown' hb2 (by decide)
 go_wp2
 go_ret2
 refine ⟨rfl,_,⟨ajh hb2 _,.inr rfl,?_,hne',?nl⟩,I1.of0 hlies f1.size,f1.trans0 (Fr.of_grown hgrow)⟩
 case nl =>
  intro e
  have e1:=List.append_eq_nil_iff.1 e
  exact hnil (h1.nil e1.1) (by rw [← hl,e1.2]; rfl)
 have:=ownsRow_setCell_other hown' (a:=⟨b,1,none⟩) hne' (.slice ao n' cap)
 rwa [List.length_append,hl]
structure Fz (v:Value) (w w':World):Prop where
 os:w'.os=w.os
 output:w'.output=w.output
 tape:w'.tape=w.tape
 size:w.heap.size≤w'.heap.size
 block:∀ k,k < w.heap.size→v.ownBlock ≠ some k→w'.heap[k]? = w.heap[k]?
theorem NO (w:World) (g n k:Nat) (h:k ≠ g):(w.freeze ⟨g,0,none⟩ n).heap[k]? = w.heap[k]?:=by
 unfold World.freeze
 split
 ·rfl
 ·show (w.heap.modify g _)[k]? = _
  rw [Array.getElem?_modify,if_neg (fun e=>h e.symm)]
theorem O6 (w:World) (a:Addr) (n:Nat):(w.freeze a n).heap.size=w.heap.size:=by
 unfold World.freeze
 split
 ·rfl
 ·simp
theorem IP (w:World) (a:Addr) (n:Nat):(w.freeze a n).os=w.os∧(w.freeze a n).output=w.output∧(w.freeze a n).tape=w.tape:=by
 unfold World.freeze
 split <;> exact ⟨rfl,rfl,rfl⟩
theorem aag {b:Nat}{p v:Value}{l:List UInt8}{w:World}(h:BV b p v (Lib.byteCells l) w) :
  Calls Tryz.prog 119 #[.pointer (some ⟨b,0,none⟩)] w fun e w'=>e=.returned (.string ⟨l.toArray⟩)∧Fz v w w':=by
 by_cases h0:l=[]
 ·subst h0
  have hv:=h.nil rfl
  subst hv
  have hUS:∀ (W:World) (q:Option Addr),(Builtin.unsafeString_ #[198,3] 9 #[.pointer q,.int .i64 0]).run Tryz.prog W=.ok (.string .empty) W:=fun W q=>Lib.run_unsafeString_none W _ _ _ q
  have hSD:∀ W:World,(Builtin.unsafeSliceData_ #[59] 198 #[.slice none 0 0]).run Tryz.prog W=.ok (.pointer none) W:=fun W=>rfl
  have c1:w.drew.cell? ⟨b,1,none⟩=some (.slice none 0 0):=by
   have:w.drew.heap[b]? = some (.cells #[p,.slice none 0 0] 175 (0,0)):=h.blk
   rw [Lib.cell_of_heap this]; rfl
  have mixed:=abQ
  go_enter Tryz.func119,Tryz.ntmps119
  go_wp2
  go_region_o
  all_goals (go_wp2; go_ret; exact ⟨rfl,⟨rfl,rfl,rfl,Nat.le_refl _,fun _ _ _=>rfl⟩⟩)
 ·have hl0:l.length ≠ 0:=by simpa using h0
  have hown:=h.own
  rw [Lib.byteCells_length] at hown
  obtain ⟨g,cap,cur,rfl,_,hg,hnc,hcm,hcs,htake⟩:∃ g cap cur,v=.slice (some ⟨g,0,none⟩) l.length cap∧0≤g∧w.heap[g]? = some (.cells cur 5 (0,0))∧l.length≤cap∧cap≤maxLen∧cur.size=cap * 1∧cur.toList.take (l.length * 1)=Lib.byteCells l:=by
   rcases hown.2 with ⟨_,hz⟩ | ⟨g,cap,cur,hv,r⟩
   ·exact absurd hz hl0
   ·exact ⟨g,cap,cur,hv,r⟩
  have c1:w.drew.cell? ⟨b,1,none⟩=some (.slice (some ⟨g,0,none⟩) l.length cap):=by
   have:w.drew.heap[b]? = some (.cells #[p,.slice (some ⟨g,0,none⟩) l.length cap] 175 (0,0)):=h.blk
   rw [Lib.cell_of_heap this]; rfl
  have t83:Tryz.prog.underlying 198=some (.pointer 5):=by kernel_rfl
  have hSD:(Builtin.unsafeSliceData_ #[59] 198 #[.slice (some ⟨g,0,none⟩) l.length cap]).run Tryz.prog w.drew=.ok (.pointer (some ⟨g,0,none⟩)) w.drew:=
   Lib.run_unsafeSliceData_row _ _ _ _ _ _ (by omega)
  have hUS:(Builtin.unsafeString_ #[198,3] 9 #[.pointer (some ⟨g,0,none⟩),.int .i64 l.length]).run Tryz.prog w.drew=.ok (.string ⟨l.toArray⟩) (w.drew.freeze ⟨g,0,none⟩ l.length):=by
   refine Lib.run_unsafeString_row w.drew 198 3 9 5 t83 (by kernel_rfl) g cur.size (by have hg':w.drew.heap[g]? = some (.cells cur 5 (0,0)):=hg; simp [World.shape?,hg']) l h0 (by omega) (by unfold maxLen at hcm; omega) ?_
   intro j x hx
   exact hown.cells (g:=g) rfl j (.int .u8 x.toNat) (by simp [Lib.byteCells,hx])
  have mixed:=abQ
  go_enter Tryz.func119,Tryz.ntmps119
  go_wp2
  go_region_o
  all_goals (go_wp2; go_ret; exact ⟨rfl,⟨(IP w.drew _ _).1,(IP w.drew _ _).2.1,(IP w.drew _ _).2.2,Nat.le_of_eq (O6 w.drew _ _).symm,fun k _ hk=>NO w.drew g l.length k (fun e=>hk (by simp [Value.ownBlock,e]))⟩⟩)
end Go.Proofs.YtcplgmgpagekfaaGreatDoor.Bld
namespace Go.Proofs.YtcplgmgpagekfaaGreatDoor.Bld
open Go Go.Bld Go.RowKit
set_option maxHeartbeats 2000000
def BB (n:UInt64):List UInt8:=(List.range 8).map fun i=>(Eng.Ad n (8 * i)).toUInt8
theorem SC (n:UInt64):(Eng.Au Tryz.prog Eng.Bn (Pol.mask 72) 100 72 [.u64 n] [] Tryz.prog.globals.size).map (·.1)=some (.str (BB n)):=by kernel_rfl
theorem Qm (n:UInt64) (w:World):Calls Tryz.prog 72 #[.int .u64 n.toNat] w fun e w'=>e=.returned (.string ⟨(BB n).toArray⟩)∧Fz (.slice none 0 0) w w':=by
 have h:=Eng.Ac (Eng.A7 _) abQ (SC n) rfl rfl
 have hH:Eng.HRel (Eng.YC Tryz.prog) (Eng.Aa []) w:=⟨fun n o h=>by simp [Eng.Aa] at h,fun n m o o' p q h=>by simp [Eng.Aa] at h⟩
 refine (h (Eng.YC Tryz.prog) #[.int .u64 n.toNat] [] w Tryz.prog.globals.size (.str (BB n)) [] (.cons (.u64 n) (.nil _)) (Eng.afD _) hH rfl (fun j hj=>by unfold Eng.YC; rw [if_neg (by omega)])).mono fun e w' ⟨σ',v',he,hv,_,hf,_⟩ => ?_
 cases hv
 exact ⟨he,⟨hf.os,hf.output,hf.tape,hf.size,fun k hk _=>(hf.old k hk (fun ⟨m,o,p,a,_⟩=>by simp [Eng.Aa] at a)).1⟩⟩
theorem Db {w:World}{v:Value}{n:Nat}{bs:List Value}(h:w.ownsRow 0 5 1 v n bs){g:Nat}(hg:v.ownBlock=some g):g < w.heap.size:=by
 rcases h.2 with ⟨rfl,_⟩ | ⟨g',cap,cur,rfl,_,hb,_⟩
 ·cases hg
 ·cases hg
  exact (Array.getElem?_eq_some_iff.1 hb).1
theorem Nk {w w':World}{v:Value}{n:Nat}{bs:List Value}(h:w.ownsRow 0 5 1 v n bs) (hk:∀ g,v.ownBlock=some g→w'.heap[g]? = w.heap[g]?):w'.ownsRow 0 5 1 v n bs:=by
 refine ⟨h.1,?_⟩
 rcases h.2 with h2 | ⟨g,cap,cur,rfl,hg,hb,r⟩
 ·exact .inl h2
 ·exact .inr ⟨g,cap,cur,rfl,hg,(hk g rfl).trans hb,r⟩
theorem BV.keep {b:Nat}{p v:Value}{bs:List Value}{w w':World}(h:BV b p v bs w) (h1:w'.heap[b]? = w.heap[b]?) (h2:∀ g,v.ownBlock=some g→w'.heap[g]? = w.heap[g]?):BV b p v bs w':=
 ⟨h1.trans h.blk,h.self,Nk h.own h2,h.ne,h.nil⟩
structure Two (w0:World) (b c:Nat) (p q v u:Value) (bs cs:List Value) (w:World):Prop where
 hb:BV b p v bs w
 hc:BV c q u cs w
 ne:b ≠ c
 vc:v.ownBlock ≠ some c
 ub:u.ownBlock ≠ some b
 vu:∀ g,v.ownBlock=some g→u.ownBlock ≠ some g
 nb:w0.heap.size≤b
 nc:w0.heap.size≤c
 nv:∀ g,v.ownBlock=some g→w0.heap.size≤g
 nu:∀ g,u.ownBlock=some g→w0.heap.size≤g
 fr:Fz (.slice none 0 0) w0 w
theorem Two.swap {w0:World}{b c:Nat}{p q v u:Value}{bs cs:List Value}{w:World}(h:Two w0 b c p q v u bs cs w):Two w0 c b q p u v cs bs w:=
 ⟨h.hc,h.hb,h.ne.symm,h.ub,h.vc,fun g h1 h2=>h.vu g h2 h1,h.nc,h.nb,h.nu,h.nv,h.fr⟩
theorem Two.step {w0:World}{b c:Nat}{p q v u p' v':Value}{bs cs bs':List Value}{w w':World}(h:Two w0 b c p q v u bs cs w) (hb:BV b p' v' bs' w') (hl:I1 w v v') (hf:Fr b v w w'):Two w0 b c p' q v' u bs' cs w':=by
 have hcl:=h.hc.lt
 have hs:=h.fr.size
 refine ⟨hb,h.hc.keep (hf.block c hcl h.ne.symm h.vc) (fun g hg=>hf.block g (Db h.hc.own hg) (fun e=>h.ub (e ▸ hg)) (fun e=>h.vu g e hg)),h.ne,?_,h.ub,?_,h.nb,h.nc,?_,h.nu,?_⟩
 ·intro e
  rcases hl c e with e1 | e1
  ·exact h.vc e1
  ·omega
 ·intro g hg hu
  rcases hl g hg with e1 | e1
  ·exact h.vu g e1 hu
  ·have:=Db h.hc.own hu
   omega
 ·intro g hg
  rcases hl g hg with e1 | e1
  ·exact h.nv g e1
  ·omega
 ·exact ⟨hf.os.trans h.fr.os,hf.output.trans h.fr.output,hf.tape.trans h.fr.tape,Nat.le_trans hs hf.size,fun k hk _ =>
   (hf.block k (by omega) (by have:=h.nb; omega) (fun e=>by have:=h.nv k e; omega)).trans (h.fr.block k hk (by intro e; cases e))⟩
theorem Two.calm {w0:World}{b c:Nat}{p q v u:Value}{bs cs:List Value}{w w':World}(h:Two w0 b c p q v u bs cs w) (hf:Fz (.slice none 0 0) w w'):Two w0 b c p q v u bs cs w':=by
 have k:∀ g,g < w.heap.size→w'.heap[g]? = w.heap[g]?:=fun g hg=>hf.block g hg (by intro e; cases e)
 refine ⟨h.hb.keep (k _ h.hb.lt) (fun g hg=>k g (Db h.hb.own hg)),h.hc.keep (k _ h.hc.lt) (fun g hg=>k g (Db h.hc.own hg)),h.ne,h.vc,h.ub,h.vu,h.nb,h.nc,h.nv,h.nu,?_⟩
 exact ⟨hf.os.trans h.fr.os,hf.output.trans h.fr.output,hf.tape.trans h.fr.tape,Nat.le_trans h.fr.size hf.size,fun j hj _ =>
  (k j (Nat.lt_of_lt_of_le hj h.fr.size)).trans (h.fr.block j hj (by intro e; cases e))⟩
theorem Two.read {w0:World}{b c:Nat}{p q v u:Value}{bs cs:List Value}{w w':World}(h:Two w0 b c p q v u bs cs w) (hf:Fz v w w'):BV c q u cs w'∧Fz (.slice none 0 0) w0 w':=by
 refine ⟨h.hc.keep (hf.block c h.hc.lt h.vc) (fun g hg=>hf.block g (Db h.hc.own hg) (fun e=>h.vu g e hg)),?_⟩
 exact ⟨hf.os.trans h.fr.os,hf.output.trans h.fr.output,hf.tape.trans h.fr.tape,Nat.le_trans h.fr.size hf.size,fun j hj _ =>
  (hf.block j (Nat.lt_of_lt_of_le hj h.fr.size) (fun e=>by have:=h.nv j e; omega)).trans (h.fr.block j hj (by intro e; cases e))⟩
theorem Two.new (w:World):Two w w.heap.size (w.heap.size+1) (.pointer none) (.pointer none) (.slice none 0 0) (.slice none 0 0) [] [] ((w.alloc (.cells #[.pointer none,.slice none 0 0] 175)).alloc (.cells #[.pointer none,.slice none 0 0] 175)):=by
 have e0:((w.alloc (.cells #[.pointer none,.slice none 0 0] 175)).alloc (.cells #[.pointer none,.slice none 0 0] 175)).heap[w.heap.size]? = some (.cells #[.pointer none,.slice none 0 0] 175 (0,0)):=by
  show ((w.heap.push _).push _)[w.heap.size]? = _
  rw [Array.getElem?_push,if_neg (by simp),Array.getElem?_push,if_pos rfl]
 have e1:((w.alloc (.cells #[.pointer none,.slice none 0 0] 175)).alloc (.cells #[.pointer none,.slice none 0 0] 175)).heap[w.heap.size+1]? = some (.cells #[.pointer none,.slice none 0 0] 175 (0,0)):=by
  show ((w.heap.push _).push _)[w.heap.size+1]? = _
  rw [Array.getElem?_push,if_pos (by simp)]
 refine ⟨⟨e0,.inl rfl,World.ownsRow_nil _ 0 5 1,(by intro e; cases e),fun _=>rfl⟩,⟨e1,.inl rfl,World.ownsRow_nil _ 0 5 1,(by intro e; cases e),fun _=>rfl⟩,by omega,by (intro e; cases e),by (intro e; cases e),(fun g e=>by cases e),Nat.le_refl _,by omega,(fun g e=>by cases e),(fun g e=>by cases e),⟨rfl,rfl,rfl,?_,fun k hk _ => ?_⟩⟩
 ·show w.heap.size≤((w.heap.push _).push _).size
  simp
  omega
 ·show ((w.heap.push _).push _)[k]? = _
  rw [Array.getElem?_push,if_neg (by simp; omega),Array.getElem?_push,if_neg (by omega)]
end Go.Proofs.YtcplgmgpagekfaaGreatDoor.Bld
namespace Go.Proofs.YtcplgmgpagekfaaGreatDoor.Bld
open Go Go.Bld Go.RowKit
set_option maxHeartbeats 4000000
theorem e36:∀ args w,(callFunc 117 args).run Tryz.prog w=.ok (.enter 117 args) w:=Om (by kernel_rfl)
theorem e37:∀ args w,(callFunc 118 args).run Tryz.prog w=.ok (.enter 118 args) w:=Om (by kernel_rfl)
theorem e38:∀ args w,(callFunc 119 args).run Tryz.prog w=.ok (.enter 119 args) w:=Om (by kernel_rfl)
theorem e19:∀ args w,(callFunc 72 args).run Tryz.prog w=.ok (.enter 72 args) w:=Om (by kernel_rfl)
theorem Ol {w w':World}(h:Fz (.slice none 0 0) w w'){b o:Nat}(hb:b < w.heap.size):w'.cell? ⟨b,o,none⟩=w.cell? ⟨b,o,none⟩:=by
 unfold World.cell?
 show (match w'.heap[b]? with | _=>_)=_
 rw [h.block b hb (by intro e; cases e)]
theorem WH (n:Nat) (hn:n < 18446744073709551616) (w:World):Calls Tryz.prog 72 #[.int .u64 (n:Int)] w fun e w'=>e=.returned (.string ⟨(BB (UInt64.ofNat n)).toArray⟩)∧Fz (.slice none 0 0) w w':=by
 have h:=Qm (UInt64.ofNat n) w
 have e:(UInt64.ofNat n).toNat=n:=by rw [UInt64.toNat_ofNat']; exact Nat.mod_eq_of_lt hn
 rw [e] at h
 exact h
theorem Er (n:UInt64):(BB n).length=8:=by unfold BB; simp
theorem ES (n:UInt64):((⟨(BB n).toArray⟩:ByteArray)).size=8:=by show (BB n).toArray.size=8; simp [Er]
theorem aku (n:Nat):∃ m:Nat,-((n:Int) % 16) % 16=(m:Int)∧(16 - n % 16) % 16=m∧m < 16:=⟨(16 - n % 16) % 16,by omega,rfl,by omega⟩
theorem Fz.of_grown {w w':World}(h:w.grownBy w' none):Fz (.slice none 0 0) w w':=⟨h.os,h.output,h.tape,h.size,fun k hk _=>h.block k hk (by intro e; cases e)⟩
def zrs (n:Nat):List Value:=Lib.byteCells (List.replicate n 0)
theorem EP (n:Nat):(zrs n).length=n:=by unfold zrs; rw [Lib.byteCells_length,List.length_replicate]
theorem X7 {n j:Nat}{u:Value}(h:(zrs n)[j]? = some u):j < n∧u=.int .u8 0:=by
 have hj:j < n:=by rw [← EP n]; exact (List.getElem?_eq_some_iff.1 h).1
 refine ⟨hj,?_⟩
 unfold zrs Lib.byteCells at h
 rw [List.getElem?_map,List.getElem?_replicate,if_pos hj] at h
 exact (Option.some.inj h).symm
theorem P3 (n:Nat):(madeCells (Value.int .u8 0).cells (n * 1)).toList=zrs n:=by
 have e:(Value.int IntKind.u8 0).cells = #[.int .u8 0]:=rfl
 rw [e,Nat.mul_one]
 apply List.ext_getElem
 ·rw [EP]; simp [madeCells]
 ·intro i h1 h2
  have hu:=X7 (List.getElem?_eq_getElem h2)
  rw [hu.2]
  simp [madeCells,Nat.mod_one]
theorem OD {w0 w w3:World}{b c:Nat}{p q v u:Value}{bs cs:List Value}{n:Nat}(T:Two w0 b c p q v u bs cs w) (hg:w.grownBy w3 none) (ho:w3.ownsRow 0 5 1 (.slice (some ⟨w.heap.size,0,none⟩) n n) n (zrs n)) (hl:bs.length+n≤1000000000) :
  Two w0 b c p q v u bs cs w3∧(Calls Tryz.prog 118 #[.pointer (some ⟨b,0,none⟩),.slice (some ⟨w.heap.size,0,none⟩) n n] w3 fun e w'=>e=.returned (.tuple #[.int .i64 n,.nilIface]) ∧
   ∃ v',BV b (.pointer (some ⟨b,0,none⟩)) v' (bs++zrs n) w'∧I1 w3 v v'∧Fr b v w3 w'):=by
 have T2:=T.calm (Fz.of_grown hg)
 have hs:w.heap.size < w3.heap.size:=Db ho (g:=w.heap.size) rfl
 refine ⟨T2,agY T2.hb ⟨w.heap.size,0,none⟩ n n (zrs n) (EP n) (fun j u hj=>ho.cells (g:=w.heap.size) rfl j u hj) (fun u hu => ?_) (fun e => ?_) hs hl⟩
 ·obtain ⟨j,hj⟩:=List.mem_iff_getElem?.1 hu
  rw [(X7 hj).2]; rfl
 ·have:=T.hb.lt
  have e':w.heap.size=b:=e
  omega
def I3 (n:Nat):List UInt8:=List.replicate ((16 - n % 16) % 16) 0
def Ja (a c:List UInt8):List UInt8:=a++I3 a.length++c++I3 c.length++(BB (UInt64.ofNat a.length)++BB (UInt64.ofNat c.length))
theorem MQ (s:ByteArray):Lib.strCells s=Lib.byteCells s.data.toList:=rfl
theorem L5 (n:UInt64):Lib.strCells ⟨(BB n).toArray⟩=Lib.byteCells (BB n):=rfl
theorem Pm (s:ByteArray):s.data.toList.length=s.size:=Array.length_toList
theorem Ob (a c:ByteArray) (ha:a.size≤200000) (hc:c.size≤200000) (sb so cap:Nat) (w:World) (h0:w.cell? ⟨sb,so,none⟩=some (.string a)) (h1:w.cell? ⟨sb,so+1,none⟩=some (.string c)) (hsb:sb < w.heap.size) :
  Calls Tryz.prog 99 #[.slice (some ⟨sb,so,none⟩) 2 cap] w fun e w'=>e=.returned (.string ⟨(Ja a.data.toList c.data.toList).toArray⟩)∧Fz (.slice none 0 0) w w':=by
 have mixed:=abQ
 have e36:=e36
 have e37:=e37
 have e38:=e38
 have e19:=e19
 obtain ⟨i0,hi,hz0,hz1,hz2⟩:=Yp
 have T:=Two.new w
 go_enter Tryz.func99,Tryz.ntmps99
 go_wp2
 obtain ⟨w1,hw1⟩:∃ w1,w1=((w.alloc (.cells #[.pointer none,.slice none 0 0] 175)).alloc (.cells #[.pointer none,.slice none 0 0] 175)):=⟨_,rfl⟩
 rw [← hw1] at T ⊢
 clear hw1
 obtain ⟨b1,hb1⟩:∃ b1,b1=w.heap.size:=⟨_,rfl⟩
 obtain ⟨b2,hb2⟩:∃ b2,b2=w.heap.size+1:=⟨_,rfl⟩
 rw [← hb2] at T ⊢
 rw [← hb1] at T ⊢
 clear hb1 hb2
 have g0:w1.cell? ⟨sb,so,none⟩=some (.string a):=(Ol T.fr hsb).trans h0
 have g1:w1.cell? ⟨sb,so+1,none⟩=some (.string c):=(Ol T.fr hsb).trans h1
 refine wp_loop_rounds 3 ?_
 rw [rounds_succ]
 go_wp2_with (go_at_call 117; refine (write T.hb a (by simp [EP,Lib.strCells_length]; omega)).mono ?_)
 rintro e w12 ⟨rfl,v11,H11,L11,F11⟩
 have T11:=T.step H11 L11 F11
 go_wp2
 obtain ⟨n1,hn1,hm1,hl1⟩:=aku a.size
 rw [hn1]
 obtain ⟨w13,hk1,ho1,hg1⟩:=run_make_full w12 0 59 5 i0 (.int .u8 0) 1 Tryz.underlying59 hi hz0 hz1 .i64 .i64 n1 (by rw [hz2]; omega) (by unfold maxLen; omega) (Nat.zero_le _)
 rw [P3] at ho1
 rw [hk1]
 simp only [Result.andThen]
 rw [Oper.upon_value]
 obtain ⟨T12,C12⟩:=OD T11 hg1 ho1 (by simp [EP,Lib.strCells_length]; omega)
 clear hk1 hg1 ho1 hn1
 have hm1':Eng.AVal.int .i64 n1=.int .i64 ((16 - a.size % 16) % 16:Nat):=by rw [hm1]
 clear hm1
 go_wp2_with (go_at_call 118; refine C12.mono ?_)
 rintro e w14 ⟨rfl,v12,H12,L12,F12⟩
 have T13:=T12.step H12 L12 F12
 go_wp2_with (go_at_call 72; refine (WH a.size (by omega) w14).mono ?_)
 rintro e w15 ⟨rfl,G1⟩
 have T14:=(T13.calm G1).swap
 go_wp2_with (go_at_call 117; refine (write T14.hb ⟨(BB (UInt64.ofNat a.size)).toArray⟩ (by rw [ES]; simp [Lib.strCells_length,ES])).mono ?_)
 rintro e w16 ⟨rfl,u1,H13,L13,F13⟩
 have T15:=(T14.step H13 L13 F13).swap
 go_wp2
 have g2:w16.cell? ⟨sb,so+1,none⟩=some (.string c):=(Ol T15.fr hsb).trans h1
 rw [rounds_succ]
 go_wp2_with (go_at_call 117; refine (write T15.hb c (by simp [EP,Lib.strCells_length]; omega)).mono ?_)
 rintro e w22 ⟨rfl,v21,H21,L21,F21⟩
 have T21:=T15.step H21 L21 F21
 go_wp2
 obtain ⟨n2,hn2,hm2,hl2⟩:=aku c.size
 rw [hn2]
 obtain ⟨w23,hk2,ho2,hg2⟩:=run_make_full w22 0 59 5 i0 (.int .u8 0) 1 Tryz.underlying59 hi hz0 hz1 .i64 .i64 n2 (by rw [hz2]; omega) (by unfold maxLen; omega) (Nat.zero_le _)
 rw [P3] at ho2
 rw [hk2]
 simp only [Result.andThen]
 rw [Oper.upon_value]
 obtain ⟨T22,C22⟩:=OD T21 hg2 ho2 (by simp [EP,Lib.strCells_length]; omega)
 clear hk2 hg2 ho2 hn2
 have hm2':Eng.AVal.int .i64 n2=.int .i64 ((16 - c.size % 16) % 16:Nat):=by rw [hm2]
 clear hm2
 go_wp2_with (go_at_call 118; refine C22.mono ?_)
 rintro e w24 ⟨rfl,v22,H22,L22,F22⟩
 have T23:=T22.step H22 L22 F22
 go_wp2_with (go_at_call 72; refine (WH c.size (by omega) w24).mono ?_)
 rintro e w25 ⟨rfl,G2⟩
 have T24:=(T23.calm G2).swap
 go_wp2_with (go_at_call 117; refine (write T24.hb ⟨(BB (UInt64.ofNat c.size)).toArray⟩ (by rw [ES]; simp [Lib.strCells_length,ES])).mono ?_)
 rintro e w26 ⟨rfl,u2,H23,L23,F23⟩
 have T25:=(T24.step H23 L23 F23).swap
 go_wp2
 rw [rounds_succ]
 have E1:[]++Lib.strCells a++zrs n1++Lib.strCells c++zrs n2=Lib.byteCells (a.data.toList++List.replicate n1 0++c.data.toList++List.replicate n2 0):=by
  unfold zrs
  rw [MQ,MQ,List.nil_append,← Lib.byteCells_append,← Lib.byteCells_append,← Lib.byteCells_append]
 have E2:[]++Lib.strCells ⟨(BB (UInt64.ofNat a.size)).toArray⟩++Lib.strCells ⟨(BB (UInt64.ofNat c.size)).toArray⟩=Lib.byteCells (BB (UInt64.ofNat a.size)++BB (UInt64.ofNat c.size)):=by
  rw [L5,L5,List.nil_append,← Lib.byteCells_append]
 rw [E1,E2] at T25
 go_wp2_with (go_at_call 119; refine (aag T25.hb).mono ?_)
 rintro e w7 ⟨rfl,Z1⟩
 obtain ⟨Y2,Z2⟩:=T25.read Z1
 go_wp2_with (go_at_call 119; refine (aag Y2).mono ?_)
 rintro e w8 ⟨rfl,Z3⟩
 go_wp2
 ·rename_i hbig
  exfalso
  rw [Er,Er] at hbig
  omega
 have m1:n1=(16 - a.size % 16) % 16:=by injection hm1' with _ h; exact Int.ofNat_inj.1 h
 have m2:n2=(16 - c.size % 16) % 16:=by injection hm2' with _ h; exact Int.ofNat_inj.1 h
 have fin:Fz (.slice none 0 0) w w8:=⟨Z3.os.trans Z2.os,Z3.output.trans Z2.output,Z3.tape.trans Z2.tape,Nat.le_trans Z2.size Z3.size,fun k hk hh =>
  (Z3.block k (Nat.lt_of_lt_of_le hk Z2.size) (fun e=>by have:=T25.nu k e; omega)).trans (Z2.block k hk hh)⟩
 go_ret
 refine ⟨?_,fin⟩
 show Ending.returned (Value.string _)=_
 congr 2
 apply ByteArray.ext
 unfold Ja I3
 rw [Pm,Pm,← m1,← m2,ByteArray.data_append]
 simp
end Go.Proofs.YtcplgmgpagekfaaGreatDoor.Bld
namespace Go.Eng
open Go
def AH (f:Func):Code:=f.body.getD .skip
end Go.Eng
namespace Go.Cha
open Go Go.Eng
def N2 (x:UInt32) (k:Nat):UInt32:=AD x k ||| Ay x (32 - k)
def A9 (x:List UInt32) (a b c d:Nat):List UInt32:=
 let x:=x.set a (x.getD a 0+x.getD b 0)
 let x:=x.set d (N2 (x.getD d 0 ^^^ x.getD a 0) 16)
 let x:=x.set c (x.getD c 0+x.getD d 0)
 let x:=x.set b (N2 (x.getD b 0 ^^^ x.getD c 0) 12)
 let x:=x.set a (x.getD a 0+x.getD b 0)
 let x:=x.set d (N2 (x.getD d 0 ^^^ x.getD a 0) 8)
 let x:=x.set c (x.getD c 0+x.getD d 0)
 x.set b (N2 (x.getD b 0 ^^^ x.getD c 0) 7)
theorem Kb (x:List UInt32) (a b c d:Nat):(A9 x a b c d).length=x.length:=by simp [A9]
def BA (x:List UInt32):List UInt32:=
 let x:=A9 x 0 4 8 12
 let x:=A9 x 1 5 9 13
 let x:=A9 x 2 6 10 14
 let x:=A9 x 3 7 11 15
 let x:=A9 x 0 5 10 15
 let x:=A9 x 1 6 11 12
 let x:=A9 x 2 7 8 13
 A9 x 3 4 9 14
theorem LW (x:List UInt32):(BA x).length=x.length:=by simp [BA,Kb]
def rounds (x:List UInt32):Nat→List UInt32
 | 0=>x
 | n+1=>BA (rounds x n)
theorem BO (x:List UInt32):∀ n,(rounds x n).length=x.length
 | 0=>rfl
 | n+1=>by rw [rounds,LW,BO x n]
def AZ (a b c d:UInt8):UInt32:=a.toUInt32 ||| AD b.toUInt32 8 ||| AD c.toUInt32 16 ||| AD d.toUInt32 24
def AJ (a b c d:UInt8):UInt32:=0 ||| AD a.toUInt32 0 ||| AD b.toUInt32 8 ||| AD c.toUInt32 16 ||| AD d.toUInt32 24
theorem XF (a b c d:UInt8):AJ a b c d=AZ a b c d:=by
 have h:AD a.toUInt32 0=a.toUInt32:=by
  apply UInt32.toNat_inj.1
  simp [AD,Nat.ble]
 simp only [AJ,AZ,h,UInt32.zero_or]
def Lo (l:List UInt8):AVal:=.agg (l.map .u8)
def TO:List UInt8→List UInt32
 | a::b::c::d::l=>AZ a b c d::TO l
 | _=>[]
def ak2 (n:UInt32):List UInt8:=[n.toUInt8,(Ay n 8).toUInt8,(Ay n 16).toUInt8,(Ay n 24).toUInt8]
def akb:List UInt8:=[101,120,112,97,110,100,32,51,50,45,98,121,116,101,32,107]
def R6 (key nonce:List UInt8) (n:UInt32):List UInt8:=akb++key++ak2 n++nonce
def Bh (x y:List UInt32):List UInt8:=(List.range 64).map fun i=>(Ay (x.getD (i / 4) 0+y.getD (i / 4) 0) (8 * (i % 4))).toUInt8
def block (key nonce:List UInt8) (n:UInt32):List UInt8:=
 let x:=TO (R6 key nonce n)
 Bh x (rounds x 10)
theorem D2 {α:Type}{x:List α}(h:x.length=16):∃ x0 x1 x2 x3 x4 x5 x6 x7 x8 x9 x10 x11 x12 x13 x14 x15,x=[x0,x1,x2,x3,x4,x5,x6,x7,x8,x9,x10,x11,x12,x13,x14,x15]:=by
 match x,h with
 | [x0,x1,x2,x3,x4,x5,x6,x7,x8,x9,x10,x11,x12,x13,x14,x15],_=>exact ⟨_,_,_,_,_,_,_,_,_,_,_,_,_,_,_,_,rfl⟩
theorem Xw {α:Type}{x:List α}(h:x.length=12):∃ x0 x1 x2 x3 x4 x5 x6 x7 x8 x9 x10 x11,x=[x0,x1,x2,x3,x4,x5,x6,x7,x8,x9,x10,x11]:=by
 match x,h with
 | [x0,x1,x2,x3,x4,x5,x6,x7,x8,x9,x10,x11],_=>exact ⟨_,_,_,_,_,_,_,_,_,_,_,_,rfl⟩
theorem Ms {α:Type}{x:List α}(h:x.length=32):∃ x0 x1 x2 x3 x4 x5 x6 x7 x8 x9 x10 x11 x12 x13 x14 x15 x16 x17 x18 x19 x20 x21 x22 x23 x24 x25 x26 x27 x28 x29 x30 x31,x=[x0,x1,x2,x3,x4,x5,x6,x7,x8,x9,x10,x11,x12,x13,x14,x15,x16,x17,x18,x19,x20,x21,x22,x23,x24,x25,x26,x27,x28,x29,x30,x31]:=by
 match x,h with
 | [x0,x1,x2,x3,x4,x5,x6,x7,x8,x9,x10,x11,x12,x13,x14,x15,x16,x17,x18,x19,x20,x21,x22,x23,x24,x25,x26,x27,x28,x29,x30,x31],_=>exact ⟨_,_,_,_,_,_,_,_,_,_,_,_,_,_,_,_,_,_,_,_,_,_,_,_,_,_,_,_,_,_,_,_,rfl⟩
end Go.Cha
namespace Go.Proofs.YtcplgmgpagekfaaGreatDoor.Cha
open Go Go.Eng Go.Cha
def mask:FuncId→Nat:=fun f=>match f with | 2=>0 | 3=>456719261672553301917578507439996708271150858015 | 4=>101412048018405926072328081030095 | 5=>7 | 6=>19342813113834066795816939 | 7=>157 | 8=>39614081257132168801067301919 | 9=>9671480343897734874315807 | 10=>1479 | 11=>2475880078570760550066961351 | 12=>9904729535286590813598185415 | 13=>36893488149633726407 | 14=>9009398282484687 | 15=>288230376290125811 | 16=>288300753485964279 | 17=>5 | 18=>324518553658426744799753561702387 | 19=>115 | 20=>157 | 21=>3 | 22=>67125703 | 23=>2163 | 24=>115 | 25=>23 | 26=>526287 | 27=>119 | 28=>2163 | 29=>1049079 | 30=>29 | 31=>537005511 | 32=>13 | 33=>5 | 34=>5 | 35=>1151 | 36=>8959 | 37=>31 | 38=>7 | 39=>159 | 40=>13 | 41=>549755821491 | 42=>2113651 | 43=>60398112711 | 44=>4303411983 | 45=>5 | 46=>5 | 47=>2113651 | 48=>8423183 | 49=>5 | 50=>144115222574037775 | 51=>8796244086543 | 52=>1116103 | 53=>8522227 | 54=>19816712040022917843543179263 | 55=>95 | 56=>4125 | 57=>39 | 58=>1050743 | 59=>33267 | 60=>132039 | 61=>157 | 62=>157 | 63=>5 | 64=>131071 | 65=>442938030551212031999 | 66=>31 | 67=>2147484479 | 68=>1116103 | 69=>19 | 70=>609885634319 | 71=>528143 | 72=>125 | 73=>4722366487267960168391 | 74=>19 | 75=>283602206479 | 76=>783 | 77=>157 | 78=>14451 | 79=>65727 | 80=>39 | 81=>1535 | 82=>1099511758963 | 83=>34029619 | 84=>25769836669 | 85=>125 | 86=>543 | 87=>255 | 88=>6297727 | 89=>975 | 90=>7 | 91=>247 | 92=>2097335 | 93=>6442696815 | 94=>307 | 95=>19 | 96=>127 | 97=>4551 | 98=>309513344275821599845253107 | 99=>2013 | 100=>1 | 101=>45671926166590716193865151621903026828528189215 | 102=>590296091842272313287 | 103=>39614081552298092776981266419 | 104=>5 | 105=>1 | 106=>2090694862423093148849536486400876297056199 | 107=>16371 | 109=>247 | 110=>269353199 | 111=>928456800891898357834874823 | 112=>281475043836915 | 113=>95 | 114=>511 | 115=>4313087 | 116=>34359787583 | 117=>51 | 118=>51 | 119=>5 | 120=>262781 | 121=>16639 | 122=>5 | 123=>1087 | 124=>9671406628976826459979775 | 125=>4503599627442175 | 126=>2147516543 | 127=>129087 | 128=>51 | 129=>116767 | 130=>1073742391 | 131=>524353 | 132=>19 | 155=>0 | _=>0
theorem AB:Tryz.prog.follows .mixedOrders=true:=by kernel_rfl
noncomputable def cs0:CS:=inl Tryz.prog mask 100 Bn 3
theorem Cm:Ai Tryz.prog cs0:=Q6 AB (A7 _) 3
theorem rq0 (x0 x1 x2 x3 x4 x5 x6 x7 x8 x9 x10 x11 x12 x13 x14 x15:UInt32):(Au Tryz.prog cs0 (mask 123) 100 123 [.agg ([x0,x1,x2,x3,x4,x5,x6,x7,x8,x9,x10,x11,x12,x13,x14,x15].map .u32),.int .i64 0,.int .i64 4,.int .i64 8,.int .i64 12] [] Tryz.prog.globals.size).map (·.1)=some (.agg ((A9 [x0,x1,x2,x3,x4,x5,x6,x7,x8,x9,x10,x11,x12,x13,x14,x15] 0 4 8 12).map .u32)):=by kernel_rfl
theorem pq0 (x0 x1 x2 x3 x4 x5 x6 x7 x8 x9 x10 x11 x12 x13 x14 x15:UInt32):(Au Tryz.prog cs0 (mask 129) 100 129 [.ptr Tryz.prog.globals.size 0,.int .i64 0,.int .i64 4,.int .i64 8,.int .i64 12] [(Tryz.prog.globals.size,.cells false ([x0,x1,x2,x3,x4,x5,x6,x7,x8,x9,x10,x11,x12,x13,x14,x15].map .u32))] (Tryz.prog.globals.size+1)).map (fun r=>(r.1,Aa r.2.1 Tryz.prog.globals.size))=some (.tup [],some (.cells false ((A9 [x0,x1,x2,x3,x4,x5,x6,x7,x8,x9,x10,x11,x12,x13,x14,x15] 0 4 8 12).map .u32))):=by kernel_rfl
theorem rq1 (x0 x1 x2 x3 x4 x5 x6 x7 x8 x9 x10 x11 x12 x13 x14 x15:UInt32):(Au Tryz.prog cs0 (mask 123) 100 123 [.agg ([x0,x1,x2,x3,x4,x5,x6,x7,x8,x9,x10,x11,x12,x13,x14,x15].map .u32),.int .i64 1,.int .i64 5,.int .i64 9,.int .i64 13] [] Tryz.prog.globals.size).map (·.1)=some (.agg ((A9 [x0,x1,x2,x3,x4,x5,x6,x7,x8,x9,x10,x11,x12,x13,x14,x15] 1 5 9 13).map .u32)):=by kernel_rfl
theorem pq1 (x0 x1 x2 x3 x4 x5 x6 x7 x8 x9 x10 x11 x12 x13 x14 x15:UInt32):(Au Tryz.prog cs0 (mask 129) 100 129 [.ptr Tryz.prog.globals.size 0,.int .i64 1,.int .i64 5,.int .i64 9,.int .i64 13] [(Tryz.prog.globals.size,.cells false ([x0,x1,x2,x3,x4,x5,x6,x7,x8,x9,x10,x11,x12,x13,x14,x15].map .u32))] (Tryz.prog.globals.size+1)).map (fun r=>(r.1,Aa r.2.1 Tryz.prog.globals.size))=some (.tup [],some (.cells false ((A9 [x0,x1,x2,x3,x4,x5,x6,x7,x8,x9,x10,x11,x12,x13,x14,x15] 1 5 9 13).map .u32))):=by kernel_rfl
theorem rq2 (x0 x1 x2 x3 x4 x5 x6 x7 x8 x9 x10 x11 x12 x13 x14 x15:UInt32):(Au Tryz.prog cs0 (mask 123) 100 123 [.agg ([x0,x1,x2,x3,x4,x5,x6,x7,x8,x9,x10,x11,x12,x13,x14,x15].map .u32),.int .i64 2,.int .i64 6,.int .i64 10,.int .i64 14] [] Tryz.prog.globals.size).map (·.1)=some (.agg ((A9 [x0,x1,x2,x3,x4,x5,x6,x7,x8,x9,x10,x11,x12,x13,x14,x15] 2 6 10 14).map .u32)):=by kernel_rfl
theorem pq2 (x0 x1 x2 x3 x4 x5 x6 x7 x8 x9 x10 x11 x12 x13 x14 x15:UInt32):(Au Tryz.prog cs0 (mask 129) 100 129 [.ptr Tryz.prog.globals.size 0,.int .i64 2,.int .i64 6,.int .i64 10,.int .i64 14] [(Tryz.prog.globals.size,.cells false ([x0,x1,x2,x3,x4,x5,x6,x7,x8,x9,x10,x11,x12,x13,x14,x15].map .u32))] (Tryz.prog.globals.size+1)).map (fun r=>(r.1,Aa r.2.1 Tryz.prog.globals.size))=some (.tup [],some (.cells false ((A9 [x0,x1,x2,x3,x4,x5,x6,x7,x8,x9,x10,x11,x12,x13,x14,x15] 2 6 10 14).map .u32))):=by kernel_rfl
theorem rq3 (x0 x1 x2 x3 x4 x5 x6 x7 x8 x9 x10 x11 x12 x13 x14 x15:UInt32):(Au Tryz.prog cs0 (mask 123) 100 123 [.agg ([x0,x1,x2,x3,x4,x5,x6,x7,x8,x9,x10,x11,x12,x13,x14,x15].map .u32),.int .i64 3,.int .i64 7,.int .i64 11,.int .i64 15] [] Tryz.prog.globals.size).map (·.1)=some (.agg ((A9 [x0,x1,x2,x3,x4,x5,x6,x7,x8,x9,x10,x11,x12,x13,x14,x15] 3 7 11 15).map .u32)):=by kernel_rfl
theorem pq3 (x0 x1 x2 x3 x4 x5 x6 x7 x8 x9 x10 x11 x12 x13 x14 x15:UInt32):(Au Tryz.prog cs0 (mask 129) 100 129 [.ptr Tryz.prog.globals.size 0,.int .i64 3,.int .i64 7,.int .i64 11,.int .i64 15] [(Tryz.prog.globals.size,.cells false ([x0,x1,x2,x3,x4,x5,x6,x7,x8,x9,x10,x11,x12,x13,x14,x15].map .u32))] (Tryz.prog.globals.size+1)).map (fun r=>(r.1,Aa r.2.1 Tryz.prog.globals.size))=some (.tup [],some (.cells false ((A9 [x0,x1,x2,x3,x4,x5,x6,x7,x8,x9,x10,x11,x12,x13,x14,x15] 3 7 11 15).map .u32))):=by kernel_rfl
theorem rq4 (x0 x1 x2 x3 x4 x5 x6 x7 x8 x9 x10 x11 x12 x13 x14 x15:UInt32):(Au Tryz.prog cs0 (mask 123) 100 123 [.agg ([x0,x1,x2,x3,x4,x5,x6,x7,x8,x9,x10,x11,x12,x13,x14,x15].map .u32),.int .i64 0,.int .i64 5,.int .i64 10,.int .i64 15] [] Tryz.prog.globals.size).map (·.1)=some (.agg ((A9 [x0,x1,x2,x3,x4,x5,x6,x7,x8,x9,x10,x11,x12,x13,x14,x15] 0 5 10 15).map .u32)):=by kernel_rfl
theorem pq4 (x0 x1 x2 x3 x4 x5 x6 x7 x8 x9 x10 x11 x12 x13 x14 x15:UInt32):(Au Tryz.prog cs0 (mask 129) 100 129 [.ptr Tryz.prog.globals.size 0,.int .i64 0,.int .i64 5,.int .i64 10,.int .i64 15] [(Tryz.prog.globals.size,.cells false ([x0,x1,x2,x3,x4,x5,x6,x7,x8,x9,x10,x11,x12,x13,x14,x15].map .u32))] (Tryz.prog.globals.size+1)).map (fun r=>(r.1,Aa r.2.1 Tryz.prog.globals.size))=some (.tup [],some (.cells false ((A9 [x0,x1,x2,x3,x4,x5,x6,x7,x8,x9,x10,x11,x12,x13,x14,x15] 0 5 10 15).map .u32))):=by kernel_rfl
theorem rq5 (x0 x1 x2 x3 x4 x5 x6 x7 x8 x9 x10 x11 x12 x13 x14 x15:UInt32):(Au Tryz.prog cs0 (mask 123) 100 123 [.agg ([x0,x1,x2,x3,x4,x5,x6,x7,x8,x9,x10,x11,x12,x13,x14,x15].map .u32),.int .i64 1,.int .i64 6,.int .i64 11,.int .i64 12] [] Tryz.prog.globals.size).map (·.1)=some (.agg ((A9 [x0,x1,x2,x3,x4,x5,x6,x7,x8,x9,x10,x11,x12,x13,x14,x15] 1 6 11 12).map .u32)):=by kernel_rfl
theorem pq5 (x0 x1 x2 x3 x4 x5 x6 x7 x8 x9 x10 x11 x12 x13 x14 x15:UInt32):(Au Tryz.prog cs0 (mask 129) 100 129 [.ptr Tryz.prog.globals.size 0,.int .i64 1,.int .i64 6,.int .i64 11,.int .i64 12] [(Tryz.prog.globals.size,.cells false ([x0,x1,x2,x3,x4,x5,x6,x7,x8,x9,x10,x11,x12,x13,x14,x15].map .u32))] (Tryz.prog.globals.size+1)).map (fun r=>(r.1,Aa r.2.1 Tryz.prog.globals.size))=some (.tup [],some (.cells false ((A9 [x0,x1,x2,x3,x4,x5,x6,x7,x8,x9,x10,x11,x12,x13,x14,x15] 1 6 11 12).map .u32))):=by kernel_rfl
theorem rq6 (x0 x1 x2 x3 x4 x5 x6 x7 x8 x9 x10 x11 x12 x13 x14 x15:UInt32):(Au Tryz.prog cs0 (mask 123) 100 123 [.agg ([x0,x1,x2,x3,x4,x5,x6,x7,x8,x9,x10,x11,x12,x13,x14,x15].map .u32),.int .i64 2,.int .i64 7,.int .i64 8,.int .i64 13] [] Tryz.prog.globals.size).map (·.1)=some (.agg ((A9 [x0,x1,x2,x3,x4,x5,x6,x7,x8,x9,x10,x11,x12,x13,x14,x15] 2 7 8 13).map .u32)):=by kernel_rfl
theorem pq6 (x0 x1 x2 x3 x4 x5 x6 x7 x8 x9 x10 x11 x12 x13 x14 x15:UInt32):(Au Tryz.prog cs0 (mask 129) 100 129 [.ptr Tryz.prog.globals.size 0,.int .i64 2,.int .i64 7,.int .i64 8,.int .i64 13] [(Tryz.prog.globals.size,.cells false ([x0,x1,x2,x3,x4,x5,x6,x7,x8,x9,x10,x11,x12,x13,x14,x15].map .u32))] (Tryz.prog.globals.size+1)).map (fun r=>(r.1,Aa r.2.1 Tryz.prog.globals.size))=some (.tup [],some (.cells false ((A9 [x0,x1,x2,x3,x4,x5,x6,x7,x8,x9,x10,x11,x12,x13,x14,x15] 2 7 8 13).map .u32))):=by kernel_rfl
theorem rq7 (x0 x1 x2 x3 x4 x5 x6 x7 x8 x9 x10 x11 x12 x13 x14 x15:UInt32):(Au Tryz.prog cs0 (mask 123) 100 123 [.agg ([x0,x1,x2,x3,x4,x5,x6,x7,x8,x9,x10,x11,x12,x13,x14,x15].map .u32),.int .i64 3,.int .i64 4,.int .i64 9,.int .i64 14] [] Tryz.prog.globals.size).map (·.1)=some (.agg ((A9 [x0,x1,x2,x3,x4,x5,x6,x7,x8,x9,x10,x11,x12,x13,x14,x15] 3 4 9 14).map .u32)):=by kernel_rfl
theorem pq7 (x0 x1 x2 x3 x4 x5 x6 x7 x8 x9 x10 x11 x12 x13 x14 x15:UInt32):(Au Tryz.prog cs0 (mask 129) 100 129 [.ptr Tryz.prog.globals.size 0,.int .i64 3,.int .i64 4,.int .i64 9,.int .i64 14] [(Tryz.prog.globals.size,.cells false ([x0,x1,x2,x3,x4,x5,x6,x7,x8,x9,x10,x11,x12,x13,x14,x15].map .u32))] (Tryz.prog.globals.size+1)).map (fun r=>(r.1,Aa r.2.1 Tryz.prog.globals.size))=some (.tup [],some (.cells false ((A9 [x0,x1,x2,x3,x4,x5,x6,x7,x8,x9,x10,x11,x12,x13,x14,x15] 3 4 9 14).map .u32))):=by kernel_rfl
def okq:Int→Int→Int→Int→Bool
 | 0,4,8,12=>true
 | 1,5,9,13=>true
 | 2,6,10,14=>true
 | 3,7,11,15=>true
 | 0,5,10,15=>true
 | 1,6,11,12=>true
 | 2,7,8,13=>true
 | 3,4,9,14=>true
 | _,_,_,_=>false
theorem okq_cases {a b c d:Int}(h:okq a b c d=true):(a=0∧b=4∧c=8∧d=12) ∨ (a=1∧b=5∧c=9∧d=13) ∨ (a=2∧b=6∧c=10∧d=14) ∨ (a=3∧b=7∧c=11∧d=15) ∨ (a=0∧b=5∧c=10∧d=15) ∨ (a=1∧b=6∧c=11∧d=12) ∨ (a=2∧b=7∧c=8∧d=13) ∨ (a=3∧b=4∧c=9∧d=14):=by
 unfold okq at h
 split at h <;> first | (cases h; done) | simp
theorem Dv {α β:Type}{x:Option α}{g:α→β}{y:β}(h:x.map g=some y):∃ r,x=some r∧g r=y:=by
 cases x with
 | none=>cases h
 | some r=>exact ⟨r,rfl,Option.some.inj h⟩
theorem agw {x:List UInt32}(hx:x.length=16){a b c d:Int}(h:okq a b c d=true):∃ r,Au Tryz.prog cs0 (mask 123) 100 123 [.agg (x.map .u32),.int .i64 a,.int .i64 b,.int .i64 c,.int .i64 d] [] Tryz.prog.globals.size=some r∧r.1=.agg ((A9 x a.toNat b.toNat c.toNat d.toNat).map .u32):=by
 obtain ⟨x0,x1,x2,x3,x4,x5,x6,x7,x8,x9,x10,x11,x12,x13,x14,x15,rfl⟩:=D2 hx
 rcases okq_cases h with ⟨rfl,rfl,rfl,rfl⟩ | ⟨rfl,rfl,rfl,rfl⟩ | ⟨rfl,rfl,rfl,rfl⟩ | ⟨rfl,rfl,rfl,rfl⟩ | ⟨rfl,rfl,rfl,rfl⟩ | ⟨rfl,rfl,rfl,rfl⟩ | ⟨rfl,rfl,rfl,rfl⟩ | ⟨rfl,rfl,rfl,rfl⟩
 ·exact Dv (rq0 x0 x1 x2 x3 x4 x5 x6 x7 x8 x9 x10 x11 x12 x13 x14 x15)
 ·exact Dv (rq1 x0 x1 x2 x3 x4 x5 x6 x7 x8 x9 x10 x11 x12 x13 x14 x15)
 ·exact Dv (rq2 x0 x1 x2 x3 x4 x5 x6 x7 x8 x9 x10 x11 x12 x13 x14 x15)
 ·exact Dv (rq3 x0 x1 x2 x3 x4 x5 x6 x7 x8 x9 x10 x11 x12 x13 x14 x15)
 ·exact Dv (rq4 x0 x1 x2 x3 x4 x5 x6 x7 x8 x9 x10 x11 x12 x13 x14 x15)
 ·exact Dv (rq5 x0 x1 x2 x3 x4 x5 x6 x7 x8 x9 x10 x11 x12 x13 x14 x15)
 ·exact Dv (rq6 x0 x1 x2 x3 x4 x5 x6 x7 x8 x9 x10 x11 x12 x13 x14 x15)
 ·exact Dv (rq7 x0 x1 x2 x3 x4 x5 x6 x7 x8 x9 x10 x11 x12 x13 x14 x15)
theorem agP {x:List UInt32}(hx:x.length=16){a b c d:Int}(h:okq a b c d=true):∃ r,Au Tryz.prog cs0 (mask 129) 100 129 [.ptr Tryz.prog.globals.size 0,.int .i64 a,.int .i64 b,.int .i64 c,.int .i64 d] [(Tryz.prog.globals.size,.cells false (x.map .u32))] (Tryz.prog.globals.size+1)=some r∧(r.1,Aa r.2.1 Tryz.prog.globals.size)=(.tup [],some (.cells false ((A9 x a.toNat b.toNat c.toNat d.toNat).map .u32))):=by
 obtain ⟨x0,x1,x2,x3,x4,x5,x6,x7,x8,x9,x10,x11,x12,x13,x14,x15,rfl⟩:=D2 hx
 rcases okq_cases h with ⟨rfl,rfl,rfl,rfl⟩ | ⟨rfl,rfl,rfl,rfl⟩ | ⟨rfl,rfl,rfl,rfl⟩ | ⟨rfl,rfl,rfl,rfl⟩ | ⟨rfl,rfl,rfl,rfl⟩ | ⟨rfl,rfl,rfl,rfl⟩ | ⟨rfl,rfl,rfl,rfl⟩ | ⟨rfl,rfl,rfl,rfl⟩
 ·exact Dv (pq0 x0 x1 x2 x3 x4 x5 x6 x7 x8 x9 x10 x11 x12 x13 x14 x15)
 ·exact Dv (pq1 x0 x1 x2 x3 x4 x5 x6 x7 x8 x9 x10 x11 x12 x13 x14 x15)
 ·exact Dv (pq2 x0 x1 x2 x3 x4 x5 x6 x7 x8 x9 x10 x11 x12 x13 x14 x15)
 ·exact Dv (pq3 x0 x1 x2 x3 x4 x5 x6 x7 x8 x9 x10 x11 x12 x13 x14 x15)
 ·exact Dv (pq4 x0 x1 x2 x3 x4 x5 x6 x7 x8 x9 x10 x11 x12 x13 x14 x15)
 ·exact Dv (pq5 x0 x1 x2 x3 x4 x5 x6 x7 x8 x9 x10 x11 x12 x13 x14 x15)
 ·exact Dv (pq6 x0 x1 x2 x3 x4 x5 x6 x7 x8 x9 x10 x11 x12 x13 x14 x15)
 ·exact Dv (pq7 x0 x1 x2 x3 x4 x5 x6 x7 x8 x9 x10 x11 x12 x13 x14 x15)
def q15 (c:List AVal) (a b c' d:Int):Option EffA:=
 match EH c with
 | some x=>cond (Nat.beq x.length 16 && okq a b c' d) (some (.pure (.agg ((A9 x a.toNat b.toNat c'.toNat d.toNat).map .u32)))) none
 | none=>none
def q17 (n:Nat) (a b c d:Int):EffA:=
 .eff fun _ η=>match η n with
  | some (.cells false cs)=>match EH cs with
   | some x=>cond (Nat.beq x.length 16 && okq a b c d) (some (.tup [],[(n,some (.cells false ((A9 x a.toNat b.toNat c.toNat d.toNat).map .u32)))])) none
   | none=>none
  | _=>none
def csQ:CS:=fun f args=>match Nat.beq f 123 with
 | true=>match args with
  | [.agg c,.int .i64 a,.int .i64 b,.int .i64 c',.int .i64 d]=>q15 c a b c' d
  | _=>none
 | false=>match Nat.beq f 129 with
  | true=>match args with
   | [.ptr n 0,.int .i64 a,.int .i64 b,.int .i64 c',.int .i64 d]=>some (q17 n a b c' d)
   | _=>none
  | false=>none
theorem agn:Ai Tryz.prog csQ:=by
 intro f args e h
 unfold csQ at h
 split at h
 ·rename_i hf
  have hf:=Nat.eq_of_beq_eq_true hf
  subst hf
  split at h
  ·rename_i c a b c' d
   unfold q15 at h
   split at h
   ·rename_i x hx
    cases hb:(Nat.beq x.length 16 && okq a b c' d) <;> rw [hb] at h <;> simp only [cond_true,cond_false,Option.some.injEq] at h
    ·cases h
    ·subst h
     simp only [Bool.and_eq_true] at hb
     have hl:=Nat.eq_of_beq_eq_true hb.1
     rw [G5 hx]
     obtain ⟨r,h1,h2⟩:=agw hl hb.2
     rw [← h2]
     refine E3 Cm AB h1 ?_ ?_
     ·simp only [C0,ltV,Hv,ltS,cond_true]
     ·rw [h2]; exact Hv 0 _
   ·cases h
  ·cases h
 ·split at h
  ·rename_i hf
   have hf:=Nat.eq_of_beq_eq_true hf
   subst hf
   split at h
   ·rename_i n a b c d
    cases h
    refine (KR Cm AB (nn:=mask 129) (F:=100) (f:=129) (n:=n) (off:=0) (rest:=[.int .i64 a,.int .i64 b,.int .i64 c,.int .i64 d]) rfl).less fun base H r hr => ?_
    simp only [q17,EffA.app] at hr
    cases hn:Aa H n with
    | none=>rw [hn] at hr; cases hr
    | some ob =>
     rw [hn] at hr
     cases ob with
     | cells ro cs =>
      cases ro with
      | true=>cases hr
      | false =>
       simp only at hr
       cases hx:EH cs with
       | none=>rw [hx] at hr; cases hr
       | some x =>
        rw [hx] at hr
        simp only at hr
        cases hb:(Nat.beq x.length 16 && okq a b c d) <;> rw [hb] at hr <;> simp only [cond_true,cond_false,Bo] at hr
        ·cases hr
        ·cases hr
         simp only [Bool.and_eq_true] at hb
         have hl:=Nat.eq_of_beq_eq_true hb.1
         obtain ⟨r,h1,h2⟩:=agP hl hb.2
         rw [Prod.mk.injEq] at h2
         have hcs:=G5 hx
         subst hcs
         exact XG hn (Hv 0 x) h1 h2.1 h2.2 rfl (Hv 0 _)
   ·cases h
  ·cases h
noncomputable def cs1:CS:=inl Tryz.prog mask 100 csQ 3
theorem Xr:Ai Tryz.prog cs1:=Q6 AB agn 3
end Go.Proofs.YtcplgmgpagekfaaGreatDoor.Cha
namespace Go.Proofs.YtcplgmgpagekfaaGreatDoor.Cha
open Go Go.Eng Go.Cha
noncomputable def p9:List Code:=Aw (AH Tryz.f102)
noncomputable def b9:Code:=A6 (p9.getD 7 .skip)
def I9 (key nonce all:List UInt8) (n:UInt32) (a0 a1 a2 a3:UInt8) (x0 x1 x2 x3 x4 x5 x6 x7 x8 x9 x10 x11 x12 x13 x14 x15:UInt32) (k:Nat) (y:List UInt32):SA:=⟨[(0,.str key),(1,.str nonce),(2,.u32 n),(6,.str []),(7,.str all),(8,.ptr 161 0),(9,.int .i64 16),(33,.bool false),(10,.ptr 201 0),(11,.int .i64 k)],[(113,.cells false [.u8 a0,.u8 a1,.u8 a2,.u8 a3]),(161,.cells false ([x0,x1,x2,x3,x4,x5,x6,x7,x8,x9,x10,x11,x12,x13,x14,x15].map .u32)),(201,.cells false (y.map .u32))],225⟩
def J9 (key nonce all:List UInt8) (n:UInt32) (a0 a1 a2 a3:UInt8) (x0 x1 x2 x3 x4 x5 x6 x7 x8 x9 x10 x11 x12 x13 x14 x15:UInt32) (y:List UInt32):SA:=⟨[(0,.str key),(1,.str nonce),(2,.u32 n),(6,.str []),(7,.str all),(8,.ptr 161 0),(9,.int .i64 16),(33,.bool false),(10,.ptr 201 0),(11,.int .i64 10),(48,.bool false)],[(113,.cells false [.u8 a0,.u8 a1,.u8 a2,.u8 a3]),(161,.cells false ([x0,x1,x2,x3,x4,x5,x6,x7,x8,x9,x10,x11,x12,x13,x14,x15].map .u32)),(201,.cells false (y.map .u32))],241⟩
theorem anP (key nonce all:List UInt8) (n:UInt32) (a0 a1 a2 a3:UInt8) (x0 x1 x2 x3 x4 x5 x6 x7 x8 x9 x10 x11 x12 x13 x14 x15:UInt32) (y0 y1 y2 y3 y4 y5 y6 y7 y8 y9 y10 y11 y12 y13 y14 y15:UInt32):AU (evC Tryz.prog cs1 Tryz.f102.ntmps (mask 102) 100 Tryz.prog.globals.size b9) (AW Tryz.prog Tryz.prog.globals.size (I9 key nonce all n a0 a1 a2 a3 x0 x1 x2 x3 x4 x5 x6 x7 x8 x9 x10 x11 x12 x13 x14 x15 0 (rounds [x0,x1,x2,x3,x4,x5,x6,x7,x8,x9,x10,x11,x12,x13,x14,x15] 0))) (I9 key nonce all n a0 a1 a2 a3 x0 x1 x2 x3 x4 x5 x6 x7 x8 x9 x10 x11 x12 x13 x14 x15 0 [y0,y1,y2,y3,y4,y5,y6,y7,y8,y9,y10,y11,y12,y13,y14,y15])=some (I9 key nonce all n a0 a1 a2 a3 x0 x1 x2 x3 x4 x5 x6 x7 x8 x9 x10 x11 x12 x13 x14 x15 1 (BA [y0,y1,y2,y3,y4,y5,y6,y7,y8,y9,y10,y11,y12,y13,y14,y15])):=by kernel_rfl
theorem amo (key nonce all:List UInt8) (n:UInt32) (a0 a1 a2 a3:UInt8) (x0 x1 x2 x3 x4 x5 x6 x7 x8 x9 x10 x11 x12 x13 x14 x15:UInt32) (y0 y1 y2 y3 y4 y5 y6 y7 y8 y9 y10 y11 y12 y13 y14 y15:UInt32):AU (evC Tryz.prog cs1 Tryz.f102.ntmps (mask 102) 100 Tryz.prog.globals.size b9) (AW Tryz.prog Tryz.prog.globals.size (I9 key nonce all n a0 a1 a2 a3 x0 x1 x2 x3 x4 x5 x6 x7 x8 x9 x10 x11 x12 x13 x14 x15 0 (rounds [x0,x1,x2,x3,x4,x5,x6,x7,x8,x9,x10,x11,x12,x13,x14,x15] 0))) (I9 key nonce all n a0 a1 a2 a3 x0 x1 x2 x3 x4 x5 x6 x7 x8 x9 x10 x11 x12 x13 x14 x15 1 [y0,y1,y2,y3,y4,y5,y6,y7,y8,y9,y10,y11,y12,y13,y14,y15])=some (I9 key nonce all n a0 a1 a2 a3 x0 x1 x2 x3 x4 x5 x6 x7 x8 x9 x10 x11 x12 x13 x14 x15 2 (BA [y0,y1,y2,y3,y4,y5,y6,y7,y8,y9,y10,y11,y12,y13,y14,y15])):=by kernel_rfl
theorem am3 (key nonce all:List UInt8) (n:UInt32) (a0 a1 a2 a3:UInt8) (x0 x1 x2 x3 x4 x5 x6 x7 x8 x9 x10 x11 x12 x13 x14 x15:UInt32) (y0 y1 y2 y3 y4 y5 y6 y7 y8 y9 y10 y11 y12 y13 y14 y15:UInt32):AU (evC Tryz.prog cs1 Tryz.f102.ntmps (mask 102) 100 Tryz.prog.globals.size b9) (AW Tryz.prog Tryz.prog.globals.size (I9 key nonce all n a0 a1 a2 a3 x0 x1 x2 x3 x4 x5 x6 x7 x8 x9 x10 x11 x12 x13 x14 x15 0 (rounds [x0,x1,x2,x3,x4,x5,x6,x7,x8,x9,x10,x11,x12,x13,x14,x15] 0))) (I9 key nonce all n a0 a1 a2 a3 x0 x1 x2 x3 x4 x5 x6 x7 x8 x9 x10 x11 x12 x13 x14 x15 2 [y0,y1,y2,y3,y4,y5,y6,y7,y8,y9,y10,y11,y12,y13,y14,y15])=some (I9 key nonce all n a0 a1 a2 a3 x0 x1 x2 x3 x4 x5 x6 x7 x8 x9 x10 x11 x12 x13 x14 x15 3 (BA [y0,y1,y2,y3,y4,y5,y6,y7,y8,y9,y10,y11,y12,y13,y14,y15])):=by kernel_rfl
theorem am2 (key nonce all:List UInt8) (n:UInt32) (a0 a1 a2 a3:UInt8) (x0 x1 x2 x3 x4 x5 x6 x7 x8 x9 x10 x11 x12 x13 x14 x15:UInt32) (y0 y1 y2 y3 y4 y5 y6 y7 y8 y9 y10 y11 y12 y13 y14 y15:UInt32):AU (evC Tryz.prog cs1 Tryz.f102.ntmps (mask 102) 100 Tryz.prog.globals.size b9) (AW Tryz.prog Tryz.prog.globals.size (I9 key nonce all n a0 a1 a2 a3 x0 x1 x2 x3 x4 x5 x6 x7 x8 x9 x10 x11 x12 x13 x14 x15 0 (rounds [x0,x1,x2,x3,x4,x5,x6,x7,x8,x9,x10,x11,x12,x13,x14,x15] 0))) (I9 key nonce all n a0 a1 a2 a3 x0 x1 x2 x3 x4 x5 x6 x7 x8 x9 x10 x11 x12 x13 x14 x15 3 [y0,y1,y2,y3,y4,y5,y6,y7,y8,y9,y10,y11,y12,y13,y14,y15])=some (I9 key nonce all n a0 a1 a2 a3 x0 x1 x2 x3 x4 x5 x6 x7 x8 x9 x10 x11 x12 x13 x14 x15 4 (BA [y0,y1,y2,y3,y4,y5,y6,y7,y8,y9,y10,y11,y12,y13,y14,y15])):=by kernel_rfl
theorem als (key nonce all:List UInt8) (n:UInt32) (a0 a1 a2 a3:UInt8) (x0 x1 x2 x3 x4 x5 x6 x7 x8 x9 x10 x11 x12 x13 x14 x15:UInt32) (y0 y1 y2 y3 y4 y5 y6 y7 y8 y9 y10 y11 y12 y13 y14 y15:UInt32):AU (evC Tryz.prog cs1 Tryz.f102.ntmps (mask 102) 100 Tryz.prog.globals.size b9) (AW Tryz.prog Tryz.prog.globals.size (I9 key nonce all n a0 a1 a2 a3 x0 x1 x2 x3 x4 x5 x6 x7 x8 x9 x10 x11 x12 x13 x14 x15 0 (rounds [x0,x1,x2,x3,x4,x5,x6,x7,x8,x9,x10,x11,x12,x13,x14,x15] 0))) (I9 key nonce all n a0 a1 a2 a3 x0 x1 x2 x3 x4 x5 x6 x7 x8 x9 x10 x11 x12 x13 x14 x15 4 [y0,y1,y2,y3,y4,y5,y6,y7,y8,y9,y10,y11,y12,y13,y14,y15])=some (I9 key nonce all n a0 a1 a2 a3 x0 x1 x2 x3 x4 x5 x6 x7 x8 x9 x10 x11 x12 x13 x14 x15 5 (BA [y0,y1,y2,y3,y4,y5,y6,y7,y8,y9,y10,y11,y12,y13,y14,y15])):=by kernel_rfl
theorem ang (key nonce all:List UInt8) (n:UInt32) (a0 a1 a2 a3:UInt8) (x0 x1 x2 x3 x4 x5 x6 x7 x8 x9 x10 x11 x12 x13 x14 x15:UInt32) (y0 y1 y2 y3 y4 y5 y6 y7 y8 y9 y10 y11 y12 y13 y14 y15:UInt32):AU (evC Tryz.prog cs1 Tryz.f102.ntmps (mask 102) 100 Tryz.prog.globals.size b9) (AW Tryz.prog Tryz.prog.globals.size (I9 key nonce all n a0 a1 a2 a3 x0 x1 x2 x3 x4 x5 x6 x7 x8 x9 x10 x11 x12 x13 x14 x15 0 (rounds [x0,x1,x2,x3,x4,x5,x6,x7,x8,x9,x10,x11,x12,x13,x14,x15] 0))) (I9 key nonce all n a0 a1 a2 a3 x0 x1 x2 x3 x4 x5 x6 x7 x8 x9 x10 x11 x12 x13 x14 x15 5 [y0,y1,y2,y3,y4,y5,y6,y7,y8,y9,y10,y11,y12,y13,y14,y15])=some (I9 key nonce all n a0 a1 a2 a3 x0 x1 x2 x3 x4 x5 x6 x7 x8 x9 x10 x11 x12 x13 x14 x15 6 (BA [y0,y1,y2,y3,y4,y5,y6,y7,y8,y9,y10,y11,y12,y13,y14,y15])):=by kernel_rfl
theorem ani (key nonce all:List UInt8) (n:UInt32) (a0 a1 a2 a3:UInt8) (x0 x1 x2 x3 x4 x5 x6 x7 x8 x9 x10 x11 x12 x13 x14 x15:UInt32) (y0 y1 y2 y3 y4 y5 y6 y7 y8 y9 y10 y11 y12 y13 y14 y15:UInt32):AU (evC Tryz.prog cs1 Tryz.f102.ntmps (mask 102) 100 Tryz.prog.globals.size b9) (AW Tryz.prog Tryz.prog.globals.size (I9 key nonce all n a0 a1 a2 a3 x0 x1 x2 x3 x4 x5 x6 x7 x8 x9 x10 x11 x12 x13 x14 x15 0 (rounds [x0,x1,x2,x3,x4,x5,x6,x7,x8,x9,x10,x11,x12,x13,x14,x15] 0))) (I9 key nonce all n a0 a1 a2 a3 x0 x1 x2 x3 x4 x5 x6 x7 x8 x9 x10 x11 x12 x13 x14 x15 6 [y0,y1,y2,y3,y4,y5,y6,y7,y8,y9,y10,y11,y12,y13,y14,y15])=some (I9 key nonce all n a0 a1 a2 a3 x0 x1 x2 x3 x4 x5 x6 x7 x8 x9 x10 x11 x12 x13 x14 x15 7 (BA [y0,y1,y2,y3,y4,y5,y6,y7,y8,y9,y10,y11,y12,y13,y14,y15])):=by kernel_rfl
theorem ans (key nonce all:List UInt8) (n:UInt32) (a0 a1 a2 a3:UInt8) (x0 x1 x2 x3 x4 x5 x6 x7 x8 x9 x10 x11 x12 x13 x14 x15:UInt32) (y0 y1 y2 y3 y4 y5 y6 y7 y8 y9 y10 y11 y12 y13 y14 y15:UInt32):AU (evC Tryz.prog cs1 Tryz.f102.ntmps (mask 102) 100 Tryz.prog.globals.size b9) (AW Tryz.prog Tryz.prog.globals.size (I9 key nonce all n a0 a1 a2 a3 x0 x1 x2 x3 x4 x5 x6 x7 x8 x9 x10 x11 x12 x13 x14 x15 0 (rounds [x0,x1,x2,x3,x4,x5,x6,x7,x8,x9,x10,x11,x12,x13,x14,x15] 0))) (I9 key nonce all n a0 a1 a2 a3 x0 x1 x2 x3 x4 x5 x6 x7 x8 x9 x10 x11 x12 x13 x14 x15 7 [y0,y1,y2,y3,y4,y5,y6,y7,y8,y9,y10,y11,y12,y13,y14,y15])=some (I9 key nonce all n a0 a1 a2 a3 x0 x1 x2 x3 x4 x5 x6 x7 x8 x9 x10 x11 x12 x13 x14 x15 8 (BA [y0,y1,y2,y3,y4,y5,y6,y7,y8,y9,y10,y11,y12,y13,y14,y15])):=by kernel_rfl
theorem al5 (key nonce all:List UInt8) (n:UInt32) (a0 a1 a2 a3:UInt8) (x0 x1 x2 x3 x4 x5 x6 x7 x8 x9 x10 x11 x12 x13 x14 x15:UInt32) (y0 y1 y2 y3 y4 y5 y6 y7 y8 y9 y10 y11 y12 y13 y14 y15:UInt32):AU (evC Tryz.prog cs1 Tryz.f102.ntmps (mask 102) 100 Tryz.prog.globals.size b9) (AW Tryz.prog Tryz.prog.globals.size (I9 key nonce all n a0 a1 a2 a3 x0 x1 x2 x3 x4 x5 x6 x7 x8 x9 x10 x11 x12 x13 x14 x15 0 (rounds [x0,x1,x2,x3,x4,x5,x6,x7,x8,x9,x10,x11,x12,x13,x14,x15] 0))) (I9 key nonce all n a0 a1 a2 a3 x0 x1 x2 x3 x4 x5 x6 x7 x8 x9 x10 x11 x12 x13 x14 x15 8 [y0,y1,y2,y3,y4,y5,y6,y7,y8,y9,y10,y11,y12,y13,y14,y15])=some (I9 key nonce all n a0 a1 a2 a3 x0 x1 x2 x3 x4 x5 x6 x7 x8 x9 x10 x11 x12 x13 x14 x15 9 (BA [y0,y1,y2,y3,y4,y5,y6,y7,y8,y9,y10,y11,y12,y13,y14,y15])):=by kernel_rfl
theorem ald (key nonce all:List UInt8) (n:UInt32) (a0 a1 a2 a3:UInt8) (x0 x1 x2 x3 x4 x5 x6 x7 x8 x9 x10 x11 x12 x13 x14 x15:UInt32) (y0 y1 y2 y3 y4 y5 y6 y7 y8 y9 y10 y11 y12 y13 y14 y15:UInt32):AU (evC Tryz.prog cs1 Tryz.f102.ntmps (mask 102) 100 Tryz.prog.globals.size b9) (AW Tryz.prog Tryz.prog.globals.size (I9 key nonce all n a0 a1 a2 a3 x0 x1 x2 x3 x4 x5 x6 x7 x8 x9 x10 x11 x12 x13 x14 x15 0 (rounds [x0,x1,x2,x3,x4,x5,x6,x7,x8,x9,x10,x11,x12,x13,x14,x15] 0))) (I9 key nonce all n a0 a1 a2 a3 x0 x1 x2 x3 x4 x5 x6 x7 x8 x9 x10 x11 x12 x13 x14 x15 9 [y0,y1,y2,y3,y4,y5,y6,y7,y8,y9,y10,y11,y12,y13,y14,y15])=some (I9 key nonce all n a0 a1 a2 a3 x0 x1 x2 x3 x4 x5 x6 x7 x8 x9 x10 x11 x12 x13 x14 x15 10 (BA [y0,y1,y2,y3,y4,y5,y6,y7,y8,y9,y10,y11,y12,y13,y14,y15])):=by kernel_rfl
theorem adP (key nonce all:List UInt8) (n:UInt32) (a0 a1 a2 a3:UInt8) (x0 x1 x2 x3 x4 x5 x6 x7 x8 x9 x10 x11 x12 x13 x14 x15:UInt32) (y0 y1 y2 y3 y4 y5 y6 y7 y8 y9 y10 y11 y12 y13 y14 y15:UInt32):evC Tryz.prog cs1 Tryz.f102.ntmps (mask 102) 100 Tryz.prog.globals.size b9 (I9 key nonce all n a0 a1 a2 a3 x0 x1 x2 x3 x4 x5 x6 x7 x8 x9 x10 x11 x12 x13 x14 x15 10 [y0,y1,y2,y3,y4,y5,y6,y7,y8,y9,y10,y11,y12,y13,y14,y15])=some (.exit 2,J9 key nonce all n a0 a1 a2 a3 x0 x1 x2 x3 x4 x5 x6 x7 x8 x9 x10 x11 x12 x13 x14 x15 [y0,y1,y2,y3,y4,y5,y6,y7,y8,y9,y10,y11,y12,y13,y14,y15]):=by kernel_rfl
theorem anH (k0 k1 k2 k3 k4 k5 k6 k7 k8 k9 k10 k11 k12 k13 k14 k15 k16 k17 k18 k19 k20 k21 k22 k23 k24 k25 k26 k27 k28 k29 k30 k31 m0 m1 m2 m3 m4 m5 m6 m7 m8 m9 m10 m11:UInt8) (n:UInt32):evS Tryz.prog cs1 Tryz.f102.ntmps (mask 102) 100 Tryz.prog.globals.size ((p9.drop 0).take 7) ⟨AY [.str [k0,k1,k2,k3,k4,k5,k6,k7,k8,k9,k10,k11,k12,k13,k14,k15,k16,k17,k18,k19,k20,k21,k22,k23,k24,k25,k26,k27,k28,k29,k30,k31],.str [m0,m1,m2,m3,m4,m5,m6,m7,m8,m9,m10,m11],.u32 n] 0,[],1⟩=some (.normal,I9 [k0,k1,k2,k3,k4,k5,k6,k7,k8,k9,k10,k11,k12,k13,k14,k15,k16,k17,k18,k19,k20,k21,k22,k23,k24,k25,k26,k27,k28,k29,k30,k31] [m0,m1,m2,m3,m4,m5,m6,m7,m8,m9,m10,m11] (R6 [k0,k1,k2,k3,k4,k5,k6,k7,k8,k9,k10,k11,k12,k13,k14,k15,k16,k17,k18,k19,k20,k21,k22,k23,k24,k25,k26,k27,k28,k29,k30,k31] [m0,m1,m2,m3,m4,m5,m6,m7,m8,m9,m10,m11] n) n n.toUInt8 (Ay n 8).toUInt8 (Ay n 16).toUInt8 (Ay n 24).toUInt8 (AZ (101) (120) (112) (97)) (AZ (110) (100) (32) (51)) (AZ (50) (45) (98) (121)) (AZ (116) (101) (32) (107)) (AZ (k0) (k1) (k2) (k3)) (AZ (k4) (k5) (k6) (k7)) (AZ (k8) (k9) (k10) (k11)) (AZ (k12) (k13) (k14) (k15)) (AZ (k16) (k17) (k18) (k19)) (AZ (k20) (k21) (k22) (k23)) (AZ (k24) (k25) (k26) (k27)) (AZ (k28) (k29) (k30) (k31)) (AZ (n.toUInt8) ((Ay n 8).toUInt8) ((Ay n 16).toUInt8) ((Ay n 24).toUInt8)) (AZ (m0) (m1) (m2) (m3)) (AZ (m4) (m5) (m6) (m7)) (AZ (m8) (m9) (m10) (m11)) 0 (rounds [(AZ (101) (120) (112) (97)),(AZ (110) (100) (32) (51)),(AZ (50) (45) (98) (121)),(AZ (116) (101) (32) (107)),(AZ (k0) (k1) (k2) (k3)),(AZ (k4) (k5) (k6) (k7)),(AZ (k8) (k9) (k10) (k11)),(AZ (k12) (k13) (k14) (k15)),(AZ (k16) (k17) (k18) (k19)),(AZ (k20) (k21) (k22) (k23)),(AZ (k24) (k25) (k26) (k27)),(AZ (k28) (k29) (k30) (k31)),(AZ (n.toUInt8) ((Ay n 8).toUInt8) ((Ay n 16).toUInt8) ((Ay n 24).toUInt8)),(AZ (m0) (m1) (m2) (m3)),(AZ (m4) (m5) (m6) (m7)),(AZ (m8) (m9) (m10) (m11))] 0)):=by kernel_rfl
theorem al0 (key nonce all:List UInt8) (n:UInt32) (a0 a1 a2 a3:UInt8) (x0 x1 x2 x3 x4 x5 x6 x7 x8 x9 x10 x11 x12 x13 x14 x15:UInt32) (y0 y1 y2 y3 y4 y5 y6 y7 y8 y9 y10 y11 y12 y13 y14 y15:UInt32):CM Tryz.prog Tryz.f102 (evS Tryz.prog cs1 Tryz.f102.ntmps (mask 102) 100 Tryz.prog.globals.size (p9.drop 8) (J9 key nonce all n a0 a1 a2 a3 x0 x1 x2 x3 x4 x5 x6 x7 x8 x9 x10 x11 x12 x13 x14 x15 [y0,y1,y2,y3,y4,y5,y6,y7,y8,y9,y10,y11,y12,y13,y14,y15]))=some (.str (Bh [x0,x1,x2,x3,x4,x5,x6,x7,x8,x9,x10,x11,x12,x13,x14,x15] [y0,y1,y2,y3,y4,y5,y6,y7,y8,y9,y10,y11,y12,y13,y14,y15])):=by kernel_rfl
theorem aik (key nonce all:List UInt8) (n:UInt32) (a0 a1 a2 a3:UInt8) (x0 x1 x2 x3 x4 x5 x6 x7 x8 x9 x10 x11 x12 x13 x14 x15:UInt32) (k:Nat) (hk:k < 10) (y:List UInt32) (hy:y.length=16):AU (evC Tryz.prog cs1 Tryz.f102.ntmps (mask 102) 100 Tryz.prog.globals.size b9) (AW Tryz.prog Tryz.prog.globals.size (I9 key nonce all n a0 a1 a2 a3 x0 x1 x2 x3 x4 x5 x6 x7 x8 x9 x10 x11 x12 x13 x14 x15 0 (rounds [x0,x1,x2,x3,x4,x5,x6,x7,x8,x9,x10,x11,x12,x13,x14,x15] 0))) (I9 key nonce all n a0 a1 a2 a3 x0 x1 x2 x3 x4 x5 x6 x7 x8 x9 x10 x11 x12 x13 x14 x15 k y)=some (I9 key nonce all n a0 a1 a2 a3 x0 x1 x2 x3 x4 x5 x6 x7 x8 x9 x10 x11 x12 x13 x14 x15 (k+1) (BA y)):=by
 obtain ⟨y0,y1,y2,y3,y4,y5,y6,y7,y8,y9,y10,y11,y12,y13,y14,y15,rfl⟩:=D2 hy
 match k,hk with
 | 0,_=>exact anP key nonce all n a0 a1 a2 a3 x0 x1 x2 x3 x4 x5 x6 x7 x8 x9 x10 x11 x12 x13 x14 x15 y0 y1 y2 y3 y4 y5 y6 y7 y8 y9 y10 y11 y12 y13 y14 y15
 | 1,_=>exact amo key nonce all n a0 a1 a2 a3 x0 x1 x2 x3 x4 x5 x6 x7 x8 x9 x10 x11 x12 x13 x14 x15 y0 y1 y2 y3 y4 y5 y6 y7 y8 y9 y10 y11 y12 y13 y14 y15
 | 2,_=>exact am3 key nonce all n a0 a1 a2 a3 x0 x1 x2 x3 x4 x5 x6 x7 x8 x9 x10 x11 x12 x13 x14 x15 y0 y1 y2 y3 y4 y5 y6 y7 y8 y9 y10 y11 y12 y13 y14 y15
 | 3,_=>exact am2 key nonce all n a0 a1 a2 a3 x0 x1 x2 x3 x4 x5 x6 x7 x8 x9 x10 x11 x12 x13 x14 x15 y0 y1 y2 y3 y4 y5 y6 y7 y8 y9 y10 y11 y12 y13 y14 y15
 | 4,_=>exact als key nonce all n a0 a1 a2 a3 x0 x1 x2 x3 x4 x5 x6 x7 x8 x9 x10 x11 x12 x13 x14 x15 y0 y1 y2 y3 y4 y5 y6 y7 y8 y9 y10 y11 y12 y13 y14 y15
 | 5,_=>exact ang key nonce all n a0 a1 a2 a3 x0 x1 x2 x3 x4 x5 x6 x7 x8 x9 x10 x11 x12 x13 x14 x15 y0 y1 y2 y3 y4 y5 y6 y7 y8 y9 y10 y11 y12 y13 y14 y15
 | 6,_=>exact ani key nonce all n a0 a1 a2 a3 x0 x1 x2 x3 x4 x5 x6 x7 x8 x9 x10 x11 x12 x13 x14 x15 y0 y1 y2 y3 y4 y5 y6 y7 y8 y9 y10 y11 y12 y13 y14 y15
 | 7,_=>exact ans key nonce all n a0 a1 a2 a3 x0 x1 x2 x3 x4 x5 x6 x7 x8 x9 x10 x11 x12 x13 x14 x15 y0 y1 y2 y3 y4 y5 y6 y7 y8 y9 y10 y11 y12 y13 y14 y15
 | 8,_=>exact al5 key nonce all n a0 a1 a2 a3 x0 x1 x2 x3 x4 x5 x6 x7 x8 x9 x10 x11 x12 x13 x14 x15 y0 y1 y2 y3 y4 y5 y6 y7 y8 y9 y10 y11 y12 y13 y14 y15
 | 9,_=>exact ald key nonce all n a0 a1 a2 a3 x0 x1 x2 x3 x4 x5 x6 x7 x8 x9 x10 x11 x12 x13 x14 x15 y0 y1 y2 y3 y4 y5 y6 y7 y8 y9 y10 y11 y12 y13 y14 y15
 | k+10,hk=>omega
theorem amP (key nonce all:List UInt8) (n:UInt32) (a0 a1 a2 a3:UInt8) (x0 x1 x2 x3 x4 x5 x6 x7 x8 x9 x10 x11 x12 x13 x14 x15:UInt32) (y:List UInt32) (hy:y.length=16):evC Tryz.prog cs1 Tryz.f102.ntmps (mask 102) 100 Tryz.prog.globals.size b9 (I9 key nonce all n a0 a1 a2 a3 x0 x1 x2 x3 x4 x5 x6 x7 x8 x9 x10 x11 x12 x13 x14 x15 10 y)=some (.exit 2,J9 key nonce all n a0 a1 a2 a3 x0 x1 x2 x3 x4 x5 x6 x7 x8 x9 x10 x11 x12 x13 x14 x15 y):=by
 obtain ⟨y0,y1,y2,y3,y4,y5,y6,y7,y8,y9,y10,y11,y12,y13,y14,y15,rfl⟩:=D2 hy
 exact adP key nonce all n a0 a1 a2 a3 x0 x1 x2 x3 x4 x5 x6 x7 x8 x9 x10 x11 x12 x13 x14 x15 y0 y1 y2 y3 y4 y5 y6 y7 y8 y9 y10 y11 y12 y13 y14 y15
theorem amr:p9[7]? = some (.block 2 (.loop b9)):=by kernel_rfl
theorem aiX (key nonce all:List UInt8) (n:UInt32) (a0 a1 a2 a3:UInt8) (x0 x1 x2 x3 x4 x5 x6 x7 x8 x9 x10 x11 x12 x13 x14 x15:UInt32):evS Tryz.prog cs1 Tryz.f102.ntmps (mask 102) 100 Tryz.prog.globals.size (p9.drop 7) (I9 key nonce all n a0 a1 a2 a3 x0 x1 x2 x3 x4 x5 x6 x7 x8 x9 x10 x11 x12 x13 x14 x15 0 (rounds [x0,x1,x2,x3,x4,x5,x6,x7,x8,x9,x10,x11,x12,x13,x14,x15] 0))=evS Tryz.prog cs1 Tryz.f102.ntmps (mask 102) 100 Tryz.prog.globals.size (p9.drop 8) (J9 key nonce all n a0 a1 a2 a3 x0 x1 x2 x3 x4 x5 x6 x7 x8 x9 x10 x11 x12 x13 x14 x15 (rounds [x0,x1,x2,x3,x4,x5,x6,x7,x8,x9,x10,x11,x12,x13,x14,x15] 10)):=
 BZ amr (fun k=>I9 key nonce all n a0 a1 a2 a3 x0 x1 x2 x3 x4 x5 x6 x7 x8 x9 x10 x11 x12 x13 x14 x15 k (rounds [x0,x1,x2,x3,x4,x5,x6,x7,x8,x9,x10,x11,x12,x13,x14,x15] k)) 10 (fun k hk=>aik key nonce all n a0 a1 a2 a3 x0 x1 x2 x3 x4 x5 x6 x7 x8 x9 x10 x11 x12 x13 x14 x15 k hk (rounds [x0,x1,x2,x3,x4,x5,x6,x7,x8,x9,x10,x11,x12,x13,x14,x15] k) (BO _ k)) (amP key nonce all n a0 a1 a2 a3 x0 x1 x2 x3 x4 x5 x6 x7 x8 x9 x10 x11 x12 x13 x14 x15 (rounds [x0,x1,x2,x3,x4,x5,x6,x7,x8,x9,x10,x11,x12,x13,x14,x15] 10) (BO _ 10)) (by omega)
theorem alm (key nonce all:List UInt8) (n:UInt32) (a0 a1 a2 a3:UInt8) (x0 x1 x2 x3 x4 x5 x6 x7 x8 x9 x10 x11 x12 x13 x14 x15:UInt32) (y:List UInt32) (hy:y.length=16):CM Tryz.prog Tryz.f102 (evS Tryz.prog cs1 Tryz.f102.ntmps (mask 102) 100 Tryz.prog.globals.size (p9.drop 8) (J9 key nonce all n a0 a1 a2 a3 x0 x1 x2 x3 x4 x5 x6 x7 x8 x9 x10 x11 x12 x13 x14 x15 y))=some (.str (Bh [x0,x1,x2,x3,x4,x5,x6,x7,x8,x9,x10,x11,x12,x13,x14,x15] y)):=by
 obtain ⟨y0,y1,y2,y3,y4,y5,y6,y7,y8,y9,y10,y11,y12,y13,y14,y15,rfl⟩:=D2 hy
 exact al0 key nonce all n a0 a1 a2 a3 x0 x1 x2 x3 x4 x5 x6 x7 x8 x9 x10 x11 x12 x13 x14 x15 y0 y1 y2 y3 y4 y5 y6 y7 y8 y9 y10 y11 y12 y13 y14 y15
theorem anN {key nonce:List UInt8}(hk:key.length=32) (hn:nonce.length=12) (n:UInt32):(Au Tryz.prog cs1 (mask 102) 100 102 [.str key,.str nonce,.u32 n] [] Tryz.prog.globals.size).map (·.1)=some (.str (block key nonce n)):=by
 obtain ⟨k0,k1,k2,k3,k4,k5,k6,k7,k8,k9,k10,k11,k12,k13,k14,k15,k16,k17,k18,k19,k20,k21,k22,k23,k24,k25,k26,k27,k28,k29,k30,k31,rfl⟩:=Ms hk
 obtain ⟨m0,m1,m2,m3,m4,m5,m6,m7,m8,m9,m10,m11,rfl⟩:=Xw hn
 refine (Gc (fn:=Tryz.f102) (c:=AH Tryz.f102) (by kernel_rfl) (by kernel_rfl) (by kernel_rfl)).trans ?_
 refine (congrArg (CM Tryz.prog Tryz.f102) (Nq (l:=p9) (k:=0) (m:=7) (anH k0 k1 k2 k3 k4 k5 k6 k7 k8 k9 k10 k11 k12 k13 k14 k15 k16 k17 k18 k19 k20 k21 k22 k23 k24 k25 k26 k27 k28 k29 k30 k31 m0 m1 m2 m3 m4 m5 m6 m7 m8 m9 m10 m11 n))).trans ?_
 refine (congrArg (CM Tryz.prog Tryz.f102) (aiX [k0,k1,k2,k3,k4,k5,k6,k7,k8,k9,k10,k11,k12,k13,k14,k15,k16,k17,k18,k19,k20,k21,k22,k23,k24,k25,k26,k27,k28,k29,k30,k31] [m0,m1,m2,m3,m4,m5,m6,m7,m8,m9,m10,m11] (R6 [k0,k1,k2,k3,k4,k5,k6,k7,k8,k9,k10,k11,k12,k13,k14,k15,k16,k17,k18,k19,k20,k21,k22,k23,k24,k25,k26,k27,k28,k29,k30,k31] [m0,m1,m2,m3,m4,m5,m6,m7,m8,m9,m10,m11] n) n n.toUInt8 (Ay n 8).toUInt8 (Ay n 16).toUInt8 (Ay n 24).toUInt8 (AZ (101) (120) (112) (97)) (AZ (110) (100) (32) (51)) (AZ (50) (45) (98) (121)) (AZ (116) (101) (32) (107)) (AZ (k0) (k1) (k2) (k3)) (AZ (k4) (k5) (k6) (k7)) (AZ (k8) (k9) (k10) (k11)) (AZ (k12) (k13) (k14) (k15)) (AZ (k16) (k17) (k18) (k19)) (AZ (k20) (k21) (k22) (k23)) (AZ (k24) (k25) (k26) (k27)) (AZ (k28) (k29) (k30) (k31)) (AZ (n.toUInt8) ((Ay n 8).toUInt8) ((Ay n 16).toUInt8) ((Ay n 24).toUInt8)) (AZ (m0) (m1) (m2) (m3)) (AZ (m4) (m5) (m6) (m7)) (AZ (m8) (m9) (m10) (m11)))).trans ?_
 exact alm [k0,k1,k2,k3,k4,k5,k6,k7,k8,k9,k10,k11,k12,k13,k14,k15,k16,k17,k18,k19,k20,k21,k22,k23,k24,k25,k26,k27,k28,k29,k30,k31] [m0,m1,m2,m3,m4,m5,m6,m7,m8,m9,m10,m11] (R6 [k0,k1,k2,k3,k4,k5,k6,k7,k8,k9,k10,k11,k12,k13,k14,k15,k16,k17,k18,k19,k20,k21,k22,k23,k24,k25,k26,k27,k28,k29,k30,k31] [m0,m1,m2,m3,m4,m5,m6,m7,m8,m9,m10,m11] n) n n.toUInt8 (Ay n 8).toUInt8 (Ay n 16).toUInt8 (Ay n 24).toUInt8 (AZ (101) (120) (112) (97)) (AZ (110) (100) (32) (51)) (AZ (50) (45) (98) (121)) (AZ (116) (101) (32) (107)) (AZ (k0) (k1) (k2) (k3)) (AZ (k4) (k5) (k6) (k7)) (AZ (k8) (k9) (k10) (k11)) (AZ (k12) (k13) (k14) (k15)) (AZ (k16) (k17) (k18) (k19)) (AZ (k20) (k21) (k22) (k23)) (AZ (k24) (k25) (k26) (k27)) (AZ (k28) (k29) (k30) (k31)) (AZ (n.toUInt8) ((Ay n 8).toUInt8) ((Ay n 16).toUInt8) ((Ay n 24).toUInt8)) (AZ (m0) (m1) (m2) (m3)) (AZ (m4) (m5) (m6) (m7)) (AZ (m8) (m9) (m10) (m11)) (rounds [(AZ (101) (120) (112) (97)),(AZ (110) (100) (32) (51)),(AZ (50) (45) (98) (121)),(AZ (116) (101) (32) (107)),(AZ (k0) (k1) (k2) (k3)),(AZ (k4) (k5) (k6) (k7)),(AZ (k8) (k9) (k10) (k11)),(AZ (k12) (k13) (k14) (k15)),(AZ (k16) (k17) (k18) (k19)),(AZ (k20) (k21) (k22) (k23)),(AZ (k24) (k25) (k26) (k27)),(AZ (k28) (k29) (k30) (k31)),(AZ (n.toUInt8) ((Ay n 8).toUInt8) ((Ay n 16).toUInt8) ((Ay n 24).toUInt8)),(AZ (m0) (m1) (m2) (m3)),(AZ (m4) (m5) (m6) (m7)),(AZ (m8) (m9) (m10) (m11))] 10) (BO _ 10)
end Go.Proofs.YtcplgmgpagekfaaGreatDoor.Cha
namespace Go.Proofs.YtcplgmgpagekfaaGreatDoor.Cha
open Go Go.Eng Go.Cha
noncomputable def p13:List Code:=Aw (AH Tryz.f111)
noncomputable def b13:Code:=A6 (p13.getD 7 .skip)
def I13 (key nonce all:List UInt8) (n:UInt32) (a0 a1 a2 a3:UInt8) (x0 x1 x2 x3 x4 x5 x6 x7 x8 x9 x10 x11 x12 x13 x14 x15:UInt32) (k:Nat) (y:List UInt32):SA:=⟨[(0,.str key),(1,.str nonce),(2,.u32 n),(6,.ptr 1 0),(7,.ptr 9 0),(8,.str all),(34,.int .i64 64),(35,.int .i64 64),(36,.bool false),(10,.ptr 209 0),(55,.int .i64 k)],[(1,.cells false (List.replicate 64 (.u8 0))),(9,.cells false ([x0,x1,x2,x3,x4,x5,x6,x7,x8,x9,x10,x11,x12,x13,x14,x15].map .u32)),(121,.cells false [.u8 a0,.u8 a1,.u8 a2,.u8 a3]),(209,.cells false (y.map .u32))],233⟩
def J13 (key nonce all:List UInt8) (n:UInt32) (a0 a1 a2 a3:UInt8) (x0 x1 x2 x3 x4 x5 x6 x7 x8 x9 x10 x11 x12 x13 x14 x15:UInt32) (y:List UInt32):SA:=⟨[(0,.str key),(1,.str nonce),(2,.u32 n),(6,.ptr 1 0),(7,.ptr 9 0),(8,.str all),(34,.int .i64 64),(35,.int .i64 64),(36,.bool false),(10,.ptr 209 0),(55,.int .i64 10),(56,.bool false)],[(1,.cells false (List.replicate 64 (.u8 0))),(9,.cells false ([x0,x1,x2,x3,x4,x5,x6,x7,x8,x9,x10,x11,x12,x13,x14,x15].map .u32)),(121,.cells false [.u8 a0,.u8 a1,.u8 a2,.u8 a3]),(209,.cells false (y.map .u32))],241⟩
theorem ajJ (key nonce all:List UInt8) (n:UInt32) (a0 a1 a2 a3:UInt8) (x0 x1 x2 x3 x4 x5 x6 x7 x8 x9 x10 x11 x12 x13 x14 x15:UInt32) (y0 y1 y2 y3 y4 y5 y6 y7 y8 y9 y10 y11 y12 y13 y14 y15:UInt32):AU (evC Tryz.prog cs1 Tryz.f111.ntmps (mask 111) 100 Tryz.prog.globals.size b13) (AW Tryz.prog Tryz.prog.globals.size (I13 key nonce all n a0 a1 a2 a3 x0 x1 x2 x3 x4 x5 x6 x7 x8 x9 x10 x11 x12 x13 x14 x15 0 (rounds [x0,x1,x2,x3,x4,x5,x6,x7,x8,x9,x10,x11,x12,x13,x14,x15] 0))) (I13 key nonce all n a0 a1 a2 a3 x0 x1 x2 x3 x4 x5 x6 x7 x8 x9 x10 x11 x12 x13 x14 x15 0 [y0,y1,y2,y3,y4,y5,y6,y7,y8,y9,y10,y11,y12,y13,y14,y15])=some (I13 key nonce all n a0 a1 a2 a3 x0 x1 x2 x3 x4 x5 x6 x7 x8 x9 x10 x11 x12 x13 x14 x15 1 (BA [y0,y1,y2,y3,y4,y5,y6,y7,y8,y9,y10,y11,y12,y13,y14,y15])):=by kernel_rfl
theorem ait (key nonce all:List UInt8) (n:UInt32) (a0 a1 a2 a3:UInt8) (x0 x1 x2 x3 x4 x5 x6 x7 x8 x9 x10 x11 x12 x13 x14 x15:UInt32) (y0 y1 y2 y3 y4 y5 y6 y7 y8 y9 y10 y11 y12 y13 y14 y15:UInt32):AU (evC Tryz.prog cs1 Tryz.f111.ntmps (mask 111) 100 Tryz.prog.globals.size b13) (AW Tryz.prog Tryz.prog.globals.size (I13 key nonce all n a0 a1 a2 a3 x0 x1 x2 x3 x4 x5 x6 x7 x8 x9 x10 x11 x12 x13 x14 x15 0 (rounds [x0,x1,x2,x3,x4,x5,x6,x7,x8,x9,x10,x11,x12,x13,x14,x15] 0))) (I13 key nonce all n a0 a1 a2 a3 x0 x1 x2 x3 x4 x5 x6 x7 x8 x9 x10 x11 x12 x13 x14 x15 1 [y0,y1,y2,y3,y4,y5,y6,y7,y8,y9,y10,y11,y12,y13,y14,y15])=some (I13 key nonce all n a0 a1 a2 a3 x0 x1 x2 x3 x4 x5 x6 x7 x8 x9 x10 x11 x12 x13 x14 x15 2 (BA [y0,y1,y2,y3,y4,y5,y6,y7,y8,y9,y10,y11,y12,y13,y14,y15])):=by kernel_rfl
theorem ajG (key nonce all:List UInt8) (n:UInt32) (a0 a1 a2 a3:UInt8) (x0 x1 x2 x3 x4 x5 x6 x7 x8 x9 x10 x11 x12 x13 x14 x15:UInt32) (y0 y1 y2 y3 y4 y5 y6 y7 y8 y9 y10 y11 y12 y13 y14 y15:UInt32):AU (evC Tryz.prog cs1 Tryz.f111.ntmps (mask 111) 100 Tryz.prog.globals.size b13) (AW Tryz.prog Tryz.prog.globals.size (I13 key nonce all n a0 a1 a2 a3 x0 x1 x2 x3 x4 x5 x6 x7 x8 x9 x10 x11 x12 x13 x14 x15 0 (rounds [x0,x1,x2,x3,x4,x5,x6,x7,x8,x9,x10,x11,x12,x13,x14,x15] 0))) (I13 key nonce all n a0 a1 a2 a3 x0 x1 x2 x3 x4 x5 x6 x7 x8 x9 x10 x11 x12 x13 x14 x15 2 [y0,y1,y2,y3,y4,y5,y6,y7,y8,y9,y10,y11,y12,y13,y14,y15])=some (I13 key nonce all n a0 a1 a2 a3 x0 x1 x2 x3 x4 x5 x6 x7 x8 x9 x10 x11 x12 x13 x14 x15 3 (BA [y0,y1,y2,y3,y4,y5,y6,y7,y8,y9,y10,y11,y12,y13,y14,y15])):=by kernel_rfl
theorem ahO (key nonce all:List UInt8) (n:UInt32) (a0 a1 a2 a3:UInt8) (x0 x1 x2 x3 x4 x5 x6 x7 x8 x9 x10 x11 x12 x13 x14 x15:UInt32) (y0 y1 y2 y3 y4 y5 y6 y7 y8 y9 y10 y11 y12 y13 y14 y15:UInt32):AU (evC Tryz.prog cs1 Tryz.f111.ntmps (mask 111) 100 Tryz.prog.globals.size b13) (AW Tryz.prog Tryz.prog.globals.size (I13 key nonce all n a0 a1 a2 a3 x0 x1 x2 x3 x4 x5 x6 x7 x8 x9 x10 x11 x12 x13 x14 x15 0 (rounds [x0,x1,x2,x3,x4,x5,x6,x7,x8,x9,x10,x11,x12,x13,x14,x15] 0))) (I13 key nonce all n a0 a1 a2 a3 x0 x1 x2 x3 x4 x5 x6 x7 x8 x9 x10 x11 x12 x13 x14 x15 3 [y0,y1,y2,y3,y4,y5,y6,y7,y8,y9,y10,y11,y12,y13,y14,y15])=some (I13 key nonce all n a0 a1 a2 a3 x0 x1 x2 x3 x4 x5 x6 x7 x8 x9 x10 x11 x12 x13 x14 x15 4 (BA [y0,y1,y2,y3,y4,y5,y6,y7,y8,y9,y10,y11,y12,y13,y14,y15])):=by kernel_rfl
theorem aiS (key nonce all:List UInt8) (n:UInt32) (a0 a1 a2 a3:UInt8) (x0 x1 x2 x3 x4 x5 x6 x7 x8 x9 x10 x11 x12 x13 x14 x15:UInt32) (y0 y1 y2 y3 y4 y5 y6 y7 y8 y9 y10 y11 y12 y13 y14 y15:UInt32):AU (evC Tryz.prog cs1 Tryz.f111.ntmps (mask 111) 100 Tryz.prog.globals.size b13) (AW Tryz.prog Tryz.prog.globals.size (I13 key nonce all n a0 a1 a2 a3 x0 x1 x2 x3 x4 x5 x6 x7 x8 x9 x10 x11 x12 x13 x14 x15 0 (rounds [x0,x1,x2,x3,x4,x5,x6,x7,x8,x9,x10,x11,x12,x13,x14,x15] 0))) (I13 key nonce all n a0 a1 a2 a3 x0 x1 x2 x3 x4 x5 x6 x7 x8 x9 x10 x11 x12 x13 x14 x15 4 [y0,y1,y2,y3,y4,y5,y6,y7,y8,y9,y10,y11,y12,y13,y14,y15])=some (I13 key nonce all n a0 a1 a2 a3 x0 x1 x2 x3 x4 x5 x6 x7 x8 x9 x10 x11 x12 x13 x14 x15 5 (BA [y0,y1,y2,y3,y4,y5,y6,y7,y8,y9,y10,y11,y12,y13,y14,y15])):=by kernel_rfl
theorem ajo (key nonce all:List UInt8) (n:UInt32) (a0 a1 a2 a3:UInt8) (x0 x1 x2 x3 x4 x5 x6 x7 x8 x9 x10 x11 x12 x13 x14 x15:UInt32) (y0 y1 y2 y3 y4 y5 y6 y7 y8 y9 y10 y11 y12 y13 y14 y15:UInt32):AU (evC Tryz.prog cs1 Tryz.f111.ntmps (mask 111) 100 Tryz.prog.globals.size b13) (AW Tryz.prog Tryz.prog.globals.size (I13 key nonce all n a0 a1 a2 a3 x0 x1 x2 x3 x4 x5 x6 x7 x8 x9 x10 x11 x12 x13 x14 x15 0 (rounds [x0,x1,x2,x3,x4,x5,x6,x7,x8,x9,x10,x11,x12,x13,x14,x15] 0))) (I13 key nonce all n a0 a1 a2 a3 x0 x1 x2 x3 x4 x5 x6 x7 x8 x9 x10 x11 x12 x13 x14 x15 5 [y0,y1,y2,y3,y4,y5,y6,y7,y8,y9,y10,y11,y12,y13,y14,y15])=some (I13 key nonce all n a0 a1 a2 a3 x0 x1 x2 x3 x4 x5 x6 x7 x8 x9 x10 x11 x12 x13 x14 x15 6 (BA [y0,y1,y2,y3,y4,y5,y6,y7,y8,y9,y10,y11,y12,y13,y14,y15])):=by kernel_rfl
theorem ahS (key nonce all:List UInt8) (n:UInt32) (a0 a1 a2 a3:UInt8) (x0 x1 x2 x3 x4 x5 x6 x7 x8 x9 x10 x11 x12 x13 x14 x15:UInt32) (y0 y1 y2 y3 y4 y5 y6 y7 y8 y9 y10 y11 y12 y13 y14 y15:UInt32):AU (evC Tryz.prog cs1 Tryz.f111.ntmps (mask 111) 100 Tryz.prog.globals.size b13) (AW Tryz.prog Tryz.prog.globals.size (I13 key nonce all n a0 a1 a2 a3 x0 x1 x2 x3 x4 x5 x6 x7 x8 x9 x10 x11 x12 x13 x14 x15 0 (rounds [x0,x1,x2,x3,x4,x5,x6,x7,x8,x9,x10,x11,x12,x13,x14,x15] 0))) (I13 key nonce all n a0 a1 a2 a3 x0 x1 x2 x3 x4 x5 x6 x7 x8 x9 x10 x11 x12 x13 x14 x15 6 [y0,y1,y2,y3,y4,y5,y6,y7,y8,y9,y10,y11,y12,y13,y14,y15])=some (I13 key nonce all n a0 a1 a2 a3 x0 x1 x2 x3 x4 x5 x6 x7 x8 x9 x10 x11 x12 x13 x14 x15 7 (BA [y0,y1,y2,y3,y4,y5,y6,y7,y8,y9,y10,y11,y12,y13,y14,y15])):=by kernel_rfl
theorem ain (key nonce all:List UInt8) (n:UInt32) (a0 a1 a2 a3:UInt8) (x0 x1 x2 x3 x4 x5 x6 x7 x8 x9 x10 x11 x12 x13 x14 x15:UInt32) (y0 y1 y2 y3 y4 y5 y6 y7 y8 y9 y10 y11 y12 y13 y14 y15:UInt32):AU (evC Tryz.prog cs1 Tryz.f111.ntmps (mask 111) 100 Tryz.prog.globals.size b13) (AW Tryz.prog Tryz.prog.globals.size (I13 key nonce all n a0 a1 a2 a3 x0 x1 x2 x3 x4 x5 x6 x7 x8 x9 x10 x11 x12 x13 x14 x15 0 (rounds [x0,x1,x2,x3,x4,x5,x6,x7,x8,x9,x10,x11,x12,x13,x14,x15] 0))) (I13 key nonce all n a0 a1 a2 a3 x0 x1 x2 x3 x4 x5 x6 x7 x8 x9 x10 x11 x12 x13 x14 x15 7 [y0,y1,y2,y3,y4,y5,y6,y7,y8,y9,y10,y11,y12,y13,y14,y15])=some (I13 key nonce all n a0 a1 a2 a3 x0 x1 x2 x3 x4 x5 x6 x7 x8 x9 x10 x11 x12 x13 x14 x15 8 (BA [y0,y1,y2,y3,y4,y5,y6,y7,y8,y9,y10,y11,y12,y13,y14,y15])):=by kernel_rfl
theorem ai3 (key nonce all:List UInt8) (n:UInt32) (a0 a1 a2 a3:UInt8) (x0 x1 x2 x3 x4 x5 x6 x7 x8 x9 x10 x11 x12 x13 x14 x15:UInt32) (y0 y1 y2 y3 y4 y5 y6 y7 y8 y9 y10 y11 y12 y13 y14 y15:UInt32):AU (evC Tryz.prog cs1 Tryz.f111.ntmps (mask 111) 100 Tryz.prog.globals.size b13) (AW Tryz.prog Tryz.prog.globals.size (I13 key nonce all n a0 a1 a2 a3 x0 x1 x2 x3 x4 x5 x6 x7 x8 x9 x10 x11 x12 x13 x14 x15 0 (rounds [x0,x1,x2,x3,x4,x5,x6,x7,x8,x9,x10,x11,x12,x13,x14,x15] 0))) (I13 key nonce all n a0 a1 a2 a3 x0 x1 x2 x3 x4 x5 x6 x7 x8 x9 x10 x11 x12 x13 x14 x15 8 [y0,y1,y2,y3,y4,y5,y6,y7,y8,y9,y10,y11,y12,y13,y14,y15])=some (I13 key nonce all n a0 a1 a2 a3 x0 x1 x2 x3 x4 x5 x6 x7 x8 x9 x10 x11 x12 x13 x14 x15 9 (BA [y0,y1,y2,y3,y4,y5,y6,y7,y8,y9,y10,y11,y12,y13,y14,y15])):=by kernel_rfl
theorem ajg (key nonce all:List UInt8) (n:UInt32) (a0 a1 a2 a3:UInt8) (x0 x1 x2 x3 x4 x5 x6 x7 x8 x9 x10 x11 x12 x13 x14 x15:UInt32) (y0 y1 y2 y3 y4 y5 y6 y7 y8 y9 y10 y11 y12 y13 y14 y15:UInt32):AU (evC Tryz.prog cs1 Tryz.f111.ntmps (mask 111) 100 Tryz.prog.globals.size b13) (AW Tryz.prog Tryz.prog.globals.size (I13 key nonce all n a0 a1 a2 a3 x0 x1 x2 x3 x4 x5 x6 x7 x8 x9 x10 x11 x12 x13 x14 x15 0 (rounds [x0,x1,x2,x3,x4,x5,x6,x7,x8,x9,x10,x11,x12,x13,x14,x15] 0))) (I13 key nonce all n a0 a1 a2 a3 x0 x1 x2 x3 x4 x5 x6 x7 x8 x9 x10 x11 x12 x13 x14 x15 9 [y0,y1,y2,y3,y4,y5,y6,y7,y8,y9,y10,y11,y12,y13,y14,y15])=some (I13 key nonce all n a0 a1 a2 a3 x0 x1 x2 x3 x4 x5 x6 x7 x8 x9 x10 x11 x12 x13 x14 x15 10 (BA [y0,y1,y2,y3,y4,y5,y6,y7,y8,y9,y10,y11,y12,y13,y14,y15])):=by kernel_rfl
theorem aa8 (key nonce all:List UInt8) (n:UInt32) (a0 a1 a2 a3:UInt8) (x0 x1 x2 x3 x4 x5 x6 x7 x8 x9 x10 x11 x12 x13 x14 x15:UInt32) (y0 y1 y2 y3 y4 y5 y6 y7 y8 y9 y10 y11 y12 y13 y14 y15:UInt32):evC Tryz.prog cs1 Tryz.f111.ntmps (mask 111) 100 Tryz.prog.globals.size b13 (I13 key nonce all n a0 a1 a2 a3 x0 x1 x2 x3 x4 x5 x6 x7 x8 x9 x10 x11 x12 x13 x14 x15 10 [y0,y1,y2,y3,y4,y5,y6,y7,y8,y9,y10,y11,y12,y13,y14,y15])=some (.exit 2,J13 key nonce all n a0 a1 a2 a3 x0 x1 x2 x3 x4 x5 x6 x7 x8 x9 x10 x11 x12 x13 x14 x15 [y0,y1,y2,y3,y4,y5,y6,y7,y8,y9,y10,y11,y12,y13,y14,y15]):=by kernel_rfl
theorem ajc (k0 k1 k2 k3 k4 k5 k6 k7 k8 k9 k10 k11 k12 k13 k14 k15 k16 k17 k18 k19 k20 k21 k22 k23 k24 k25 k26 k27 k28 k29 k30 k31 m0 m1 m2 m3 m4 m5 m6 m7 m8 m9 m10 m11:UInt8) (n:UInt32):evS Tryz.prog cs1 Tryz.f111.ntmps (mask 111) 100 Tryz.prog.globals.size ((p13.drop 0).take 7) ⟨AY [.str [k0,k1,k2,k3,k4,k5,k6,k7,k8,k9,k10,k11,k12,k13,k14,k15,k16,k17,k18,k19,k20,k21,k22,k23,k24,k25,k26,k27,k28,k29,k30,k31],.str [m0,m1,m2,m3,m4,m5,m6,m7,m8,m9,m10,m11],.u32 n] 0,[],1⟩=some (.normal,I13 [k0,k1,k2,k3,k4,k5,k6,k7,k8,k9,k10,k11,k12,k13,k14,k15,k16,k17,k18,k19,k20,k21,k22,k23,k24,k25,k26,k27,k28,k29,k30,k31] [m0,m1,m2,m3,m4,m5,m6,m7,m8,m9,m10,m11] (R6 [k0,k1,k2,k3,k4,k5,k6,k7,k8,k9,k10,k11,k12,k13,k14,k15,k16,k17,k18,k19,k20,k21,k22,k23,k24,k25,k26,k27,k28,k29,k30,k31] [m0,m1,m2,m3,m4,m5,m6,m7,m8,m9,m10,m11] n) n n.toUInt8 (Ay n 8).toUInt8 (Ay n 16).toUInt8 (Ay n 24).toUInt8 (AJ (101) (120) (112) (97)) (AJ (110) (100) (32) (51)) (AJ (50) (45) (98) (121)) (AJ (116) (101) (32) (107)) (AJ (k0) (k1) (k2) (k3)) (AJ (k4) (k5) (k6) (k7)) (AJ (k8) (k9) (k10) (k11)) (AJ (k12) (k13) (k14) (k15)) (AJ (k16) (k17) (k18) (k19)) (AJ (k20) (k21) (k22) (k23)) (AJ (k24) (k25) (k26) (k27)) (AJ (k28) (k29) (k30) (k31)) (AJ (n.toUInt8) ((Ay n 8).toUInt8) ((Ay n 16).toUInt8) ((Ay n 24).toUInt8)) (AJ (m0) (m1) (m2) (m3)) (AJ (m4) (m5) (m6) (m7)) (AJ (m8) (m9) (m10) (m11)) 0 (rounds [(AJ (101) (120) (112) (97)),(AJ (110) (100) (32) (51)),(AJ (50) (45) (98) (121)),(AJ (116) (101) (32) (107)),(AJ (k0) (k1) (k2) (k3)),(AJ (k4) (k5) (k6) (k7)),(AJ (k8) (k9) (k10) (k11)),(AJ (k12) (k13) (k14) (k15)),(AJ (k16) (k17) (k18) (k19)),(AJ (k20) (k21) (k22) (k23)),(AJ (k24) (k25) (k26) (k27)),(AJ (k28) (k29) (k30) (k31)),(AJ (n.toUInt8) ((Ay n 8).toUInt8) ((Ay n 16).toUInt8) ((Ay n 24).toUInt8)),(AJ (m0) (m1) (m2) (m3)),(AJ (m4) (m5) (m6) (m7)),(AJ (m8) (m9) (m10) (m11))] 0)):=by kernel_rfl
theorem ai6 (key nonce all:List UInt8) (n:UInt32) (a0 a1 a2 a3:UInt8) (x0 x1 x2 x3 x4 x5 x6 x7 x8 x9 x10 x11 x12 x13 x14 x15:UInt32) (y0 y1 y2 y3 y4 y5 y6 y7 y8 y9 y10 y11 y12 y13 y14 y15:UInt32):CM Tryz.prog Tryz.f111 (evS Tryz.prog cs1 Tryz.f111.ntmps (mask 111) 100 Tryz.prog.globals.size (p13.drop 8) (J13 key nonce all n a0 a1 a2 a3 x0 x1 x2 x3 x4 x5 x6 x7 x8 x9 x10 x11 x12 x13 x14 x15 [y0,y1,y2,y3,y4,y5,y6,y7,y8,y9,y10,y11,y12,y13,y14,y15]))=some (Lo (Bh [x0,x1,x2,x3,x4,x5,x6,x7,x8,x9,x10,x11,x12,x13,x14,x15] [y0,y1,y2,y3,y4,y5,y6,y7,y8,y9,y10,y11,y12,y13,y14,y15])):=by kernel_rfl
theorem afu (key nonce all:List UInt8) (n:UInt32) (a0 a1 a2 a3:UInt8) (x0 x1 x2 x3 x4 x5 x6 x7 x8 x9 x10 x11 x12 x13 x14 x15:UInt32) (k:Nat) (hk:k < 10) (y:List UInt32) (hy:y.length=16):AU (evC Tryz.prog cs1 Tryz.f111.ntmps (mask 111) 100 Tryz.prog.globals.size b13) (AW Tryz.prog Tryz.prog.globals.size (I13 key nonce all n a0 a1 a2 a3 x0 x1 x2 x3 x4 x5 x6 x7 x8 x9 x10 x11 x12 x13 x14 x15 0 (rounds [x0,x1,x2,x3,x4,x5,x6,x7,x8,x9,x10,x11,x12,x13,x14,x15] 0))) (I13 key nonce all n a0 a1 a2 a3 x0 x1 x2 x3 x4 x5 x6 x7 x8 x9 x10 x11 x12 x13 x14 x15 k y)=some (I13 key nonce all n a0 a1 a2 a3 x0 x1 x2 x3 x4 x5 x6 x7 x8 x9 x10 x11 x12 x13 x14 x15 (k+1) (BA y)):=by
 obtain ⟨y0,y1,y2,y3,y4,y5,y6,y7,y8,y9,y10,y11,y12,y13,y14,y15,rfl⟩:=D2 hy
 match k,hk with
 | 0,_=>exact ajJ key nonce all n a0 a1 a2 a3 x0 x1 x2 x3 x4 x5 x6 x7 x8 x9 x10 x11 x12 x13 x14 x15 y0 y1 y2 y3 y4 y5 y6 y7 y8 y9 y10 y11 y12 y13 y14 y15
 | 1,_=>exact ait key nonce all n a0 a1 a2 a3 x0 x1 x2 x3 x4 x5 x6 x7 x8 x9 x10 x11 x12 x13 x14 x15 y0 y1 y2 y3 y4 y5 y6 y7 y8 y9 y10 y11 y12 y13 y14 y15
 | 2,_=>exact ajG key nonce all n a0 a1 a2 a3 x0 x1 x2 x3 x4 x5 x6 x7 x8 x9 x10 x11 x12 x13 x14 x15 y0 y1 y2 y3 y4 y5 y6 y7 y8 y9 y10 y11 y12 y13 y14 y15
 | 3,_=>exact ahO key nonce all n a0 a1 a2 a3 x0 x1 x2 x3 x4 x5 x6 x7 x8 x9 x10 x11 x12 x13 x14 x15 y0 y1 y2 y3 y4 y5 y6 y7 y8 y9 y10 y11 y12 y13 y14 y15
 | 4,_=>exact aiS key nonce all n a0 a1 a2 a3 x0 x1 x2 x3 x4 x5 x6 x7 x8 x9 x10 x11 x12 x13 x14 x15 y0 y1 y2 y3 y4 y5 y6 y7 y8 y9 y10 y11 y12 y13 y14 y15
 | 5,_=>exact ajo key nonce all n a0 a1 a2 a3 x0 x1 x2 x3 x4 x5 x6 x7 x8 x9 x10 x11 x12 x13 x14 x15 y0 y1 y2 y3 y4 y5 y6 y7 y8 y9 y10 y11 y12 y13 y14 y15
 | 6,_=>exact ahS key nonce all n a0 a1 a2 a3 x0 x1 x2 x3 x4 x5 x6 x7 x8 x9 x10 x11 x12 x13 x14 x15 y0 y1 y2 y3 y4 y5 y6 y7 y8 y9 y10 y11 y12 y13 y14 y15
 | 7,_=>exact ain key nonce all n a0 a1 a2 a3 x0 x1 x2 x3 x4 x5 x6 x7 x8 x9 x10 x11 x12 x13 x14 x15 y0 y1 y2 y3 y4 y5 y6 y7 y8 y9 y10 y11 y12 y13 y14 y15
 | 8,_=>exact ai3 key nonce all n a0 a1 a2 a3 x0 x1 x2 x3 x4 x5 x6 x7 x8 x9 x10 x11 x12 x13 x14 x15 y0 y1 y2 y3 y4 y5 y6 y7 y8 y9 y10 y11 y12 y13 y14 y15
 | 9,_=>exact ajg key nonce all n a0 a1 a2 a3 x0 x1 x2 x3 x4 x5 x6 x7 x8 x9 x10 x11 x12 x13 x14 x15 y0 y1 y2 y3 y4 y5 y6 y7 y8 y9 y10 y11 y12 y13 y14 y15
 | k+10,hk=>omega
theorem ahH (key nonce all:List UInt8) (n:UInt32) (a0 a1 a2 a3:UInt8) (x0 x1 x2 x3 x4 x5 x6 x7 x8 x9 x10 x11 x12 x13 x14 x15:UInt32) (y:List UInt32) (hy:y.length=16):evC Tryz.prog cs1 Tryz.f111.ntmps (mask 111) 100 Tryz.prog.globals.size b13 (I13 key nonce all n a0 a1 a2 a3 x0 x1 x2 x3 x4 x5 x6 x7 x8 x9 x10 x11 x12 x13 x14 x15 10 y)=some (.exit 2,J13 key nonce all n a0 a1 a2 a3 x0 x1 x2 x3 x4 x5 x6 x7 x8 x9 x10 x11 x12 x13 x14 x15 y):=by
 obtain ⟨y0,y1,y2,y3,y4,y5,y6,y7,y8,y9,y10,y11,y12,y13,y14,y15,rfl⟩:=D2 hy
 exact aa8 key nonce all n a0 a1 a2 a3 x0 x1 x2 x3 x4 x5 x6 x7 x8 x9 x10 x11 x12 x13 x14 x15 y0 y1 y2 y3 y4 y5 y6 y7 y8 y9 y10 y11 y12 y13 y14 y15
theorem aiq:p13[7]? = some (.block 2 (.loop b13)):=by kernel_rfl
theorem afj (key nonce all:List UInt8) (n:UInt32) (a0 a1 a2 a3:UInt8) (x0 x1 x2 x3 x4 x5 x6 x7 x8 x9 x10 x11 x12 x13 x14 x15:UInt32):evS Tryz.prog cs1 Tryz.f111.ntmps (mask 111) 100 Tryz.prog.globals.size (p13.drop 7) (I13 key nonce all n a0 a1 a2 a3 x0 x1 x2 x3 x4 x5 x6 x7 x8 x9 x10 x11 x12 x13 x14 x15 0 (rounds [x0,x1,x2,x3,x4,x5,x6,x7,x8,x9,x10,x11,x12,x13,x14,x15] 0))=evS Tryz.prog cs1 Tryz.f111.ntmps (mask 111) 100 Tryz.prog.globals.size (p13.drop 8) (J13 key nonce all n a0 a1 a2 a3 x0 x1 x2 x3 x4 x5 x6 x7 x8 x9 x10 x11 x12 x13 x14 x15 (rounds [x0,x1,x2,x3,x4,x5,x6,x7,x8,x9,x10,x11,x12,x13,x14,x15] 10)):=
 BZ aiq (fun k=>I13 key nonce all n a0 a1 a2 a3 x0 x1 x2 x3 x4 x5 x6 x7 x8 x9 x10 x11 x12 x13 x14 x15 k (rounds [x0,x1,x2,x3,x4,x5,x6,x7,x8,x9,x10,x11,x12,x13,x14,x15] k)) 10 (fun k hk=>afu key nonce all n a0 a1 a2 a3 x0 x1 x2 x3 x4 x5 x6 x7 x8 x9 x10 x11 x12 x13 x14 x15 k hk (rounds [x0,x1,x2,x3,x4,x5,x6,x7,x8,x9,x10,x11,x12,x13,x14,x15] k) (BO _ k)) (ahH key nonce all n a0 a1 a2 a3 x0 x1 x2 x3 x4 x5 x6 x7 x8 x9 x10 x11 x12 x13 x14 x15 (rounds [x0,x1,x2,x3,x4,x5,x6,x7,x8,x9,x10,x11,x12,x13,x14,x15] 10) (BO _ 10)) (by omega)
theorem aiG (key nonce all:List UInt8) (n:UInt32) (a0 a1 a2 a3:UInt8) (x0 x1 x2 x3 x4 x5 x6 x7 x8 x9 x10 x11 x12 x13 x14 x15:UInt32) (y:List UInt32) (hy:y.length=16):CM Tryz.prog Tryz.f111 (evS Tryz.prog cs1 Tryz.f111.ntmps (mask 111) 100 Tryz.prog.globals.size (p13.drop 8) (J13 key nonce all n a0 a1 a2 a3 x0 x1 x2 x3 x4 x5 x6 x7 x8 x9 x10 x11 x12 x13 x14 x15 y))=some (Lo (Bh [x0,x1,x2,x3,x4,x5,x6,x7,x8,x9,x10,x11,x12,x13,x14,x15] y)):=by
 obtain ⟨y0,y1,y2,y3,y4,y5,y6,y7,y8,y9,y10,y11,y12,y13,y14,y15,rfl⟩:=D2 hy
 exact ai6 key nonce all n a0 a1 a2 a3 x0 x1 x2 x3 x4 x5 x6 x7 x8 x9 x10 x11 x12 x13 x14 x15 y0 y1 y2 y3 y4 y5 y6 y7 y8 y9 y10 y11 y12 y13 y14 y15
theorem ahV {key nonce:List UInt8}(hk:key.length=32) (hn:nonce.length=12) (n:UInt32):(Au Tryz.prog cs1 (mask 111) 100 111 [.str key,.str nonce,.u32 n] [] Tryz.prog.globals.size).map (·.1)=some (Lo (block key nonce n)):=by
 obtain ⟨k0,k1,k2,k3,k4,k5,k6,k7,k8,k9,k10,k11,k12,k13,k14,k15,k16,k17,k18,k19,k20,k21,k22,k23,k24,k25,k26,k27,k28,k29,k30,k31,rfl⟩:=Ms hk
 obtain ⟨m0,m1,m2,m3,m4,m5,m6,m7,m8,m9,m10,m11,rfl⟩:=Xw hn
 refine (Gc (fn:=Tryz.f111) (c:=AH Tryz.f111) (by kernel_rfl) (by kernel_rfl) (by kernel_rfl)).trans ?_
 refine (congrArg (CM Tryz.prog Tryz.f111) (Nq (l:=p13) (k:=0) (m:=7) (ajc k0 k1 k2 k3 k4 k5 k6 k7 k8 k9 k10 k11 k12 k13 k14 k15 k16 k17 k18 k19 k20 k21 k22 k23 k24 k25 k26 k27 k28 k29 k30 k31 m0 m1 m2 m3 m4 m5 m6 m7 m8 m9 m10 m11 n))).trans ?_
 refine (congrArg (CM Tryz.prog Tryz.f111) (afj [k0,k1,k2,k3,k4,k5,k6,k7,k8,k9,k10,k11,k12,k13,k14,k15,k16,k17,k18,k19,k20,k21,k22,k23,k24,k25,k26,k27,k28,k29,k30,k31] [m0,m1,m2,m3,m4,m5,m6,m7,m8,m9,m10,m11] (R6 [k0,k1,k2,k3,k4,k5,k6,k7,k8,k9,k10,k11,k12,k13,k14,k15,k16,k17,k18,k19,k20,k21,k22,k23,k24,k25,k26,k27,k28,k29,k30,k31] [m0,m1,m2,m3,m4,m5,m6,m7,m8,m9,m10,m11] n) n n.toUInt8 (Ay n 8).toUInt8 (Ay n 16).toUInt8 (Ay n 24).toUInt8 (AJ (101) (120) (112) (97)) (AJ (110) (100) (32) (51)) (AJ (50) (45) (98) (121)) (AJ (116) (101) (32) (107)) (AJ (k0) (k1) (k2) (k3)) (AJ (k4) (k5) (k6) (k7)) (AJ (k8) (k9) (k10) (k11)) (AJ (k12) (k13) (k14) (k15)) (AJ (k16) (k17) (k18) (k19)) (AJ (k20) (k21) (k22) (k23)) (AJ (k24) (k25) (k26) (k27)) (AJ (k28) (k29) (k30) (k31)) (AJ (n.toUInt8) ((Ay n 8).toUInt8) ((Ay n 16).toUInt8) ((Ay n 24).toUInt8)) (AJ (m0) (m1) (m2) (m3)) (AJ (m4) (m5) (m6) (m7)) (AJ (m8) (m9) (m10) (m11)))).trans ?_
 refine (aiG [k0,k1,k2,k3,k4,k5,k6,k7,k8,k9,k10,k11,k12,k13,k14,k15,k16,k17,k18,k19,k20,k21,k22,k23,k24,k25,k26,k27,k28,k29,k30,k31] [m0,m1,m2,m3,m4,m5,m6,m7,m8,m9,m10,m11] (R6 [k0,k1,k2,k3,k4,k5,k6,k7,k8,k9,k10,k11,k12,k13,k14,k15,k16,k17,k18,k19,k20,k21,k22,k23,k24,k25,k26,k27,k28,k29,k30,k31] [m0,m1,m2,m3,m4,m5,m6,m7,m8,m9,m10,m11] n) n n.toUInt8 (Ay n 8).toUInt8 (Ay n 16).toUInt8 (Ay n 24).toUInt8 (AJ (101) (120) (112) (97)) (AJ (110) (100) (32) (51)) (AJ (50) (45) (98) (121)) (AJ (116) (101) (32) (107)) (AJ (k0) (k1) (k2) (k3)) (AJ (k4) (k5) (k6) (k7)) (AJ (k8) (k9) (k10) (k11)) (AJ (k12) (k13) (k14) (k15)) (AJ (k16) (k17) (k18) (k19)) (AJ (k20) (k21) (k22) (k23)) (AJ (k24) (k25) (k26) (k27)) (AJ (k28) (k29) (k30) (k31)) (AJ (n.toUInt8) ((Ay n 8).toUInt8) ((Ay n 16).toUInt8) ((Ay n 24).toUInt8)) (AJ (m0) (m1) (m2) (m3)) (AJ (m4) (m5) (m6) (m7)) (AJ (m8) (m9) (m10) (m11)) (rounds [(AJ (101) (120) (112) (97)),(AJ (110) (100) (32) (51)),(AJ (50) (45) (98) (121)),(AJ (116) (101) (32) (107)),(AJ (k0) (k1) (k2) (k3)),(AJ (k4) (k5) (k6) (k7)),(AJ (k8) (k9) (k10) (k11)),(AJ (k12) (k13) (k14) (k15)),(AJ (k16) (k17) (k18) (k19)),(AJ (k20) (k21) (k22) (k23)),(AJ (k24) (k25) (k26) (k27)),(AJ (k28) (k29) (k30) (k31)),(AJ (n.toUInt8) ((Ay n 8).toUInt8) ((Ay n 16).toUInt8) ((Ay n 24).toUInt8)),(AJ (m0) (m1) (m2) (m3)),(AJ (m4) (m5) (m6) (m7)),(AJ (m8) (m9) (m10) (m11))] 10) (BO _ 10)).trans ?_
 simp only [XF]
 rfl
end Go.Proofs.YtcplgmgpagekfaaGreatDoor.Cha
namespace Go.Cha
open Go Go.Eng
def may (key nonce:List UInt8):Bool:=key.length == 32 && nonce.length == 12
theorem may_true {key nonce:List UInt8}:may key nonce=true ↔ key.length=32∧nonce.length=12:=by simp [may]
def AF (key nonce:List UInt8) (n:UInt32) (i:Nat):UInt8:=(block key nonce n).getD i 0
theorem Vv (x y:List UInt32):Bh x y=[(Bh x y).getD 0 0,(Bh x y).getD 1 0,(Bh x y).getD 2 0,(Bh x y).getD 3 0,(Bh x y).getD 4 0,(Bh x y).getD 5 0,(Bh x y).getD 6 0,(Bh x y).getD 7 0,(Bh x y).getD 8 0,(Bh x y).getD 9 0,(Bh x y).getD 10 0,(Bh x y).getD 11 0,(Bh x y).getD 12 0,(Bh x y).getD 13 0,(Bh x y).getD 14 0,(Bh x y).getD 15 0,(Bh x y).getD 16 0,(Bh x y).getD 17 0,(Bh x y).getD 18 0,(Bh x y).getD 19 0,(Bh x y).getD 20 0,(Bh x y).getD 21 0,(Bh x y).getD 22 0,(Bh x y).getD 23 0,(Bh x y).getD 24 0,(Bh x y).getD 25 0,(Bh x y).getD 26 0,(Bh x y).getD 27 0,(Bh x y).getD 28 0,(Bh x y).getD 29 0,(Bh x y).getD 30 0,(Bh x y).getD 31 0,(Bh x y).getD 32 0,(Bh x y).getD 33 0,(Bh x y).getD 34 0,(Bh x y).getD 35 0,(Bh x y).getD 36 0,(Bh x y).getD 37 0,(Bh x y).getD 38 0,(Bh x y).getD 39 0,(Bh x y).getD 40 0,(Bh x y).getD 41 0,(Bh x y).getD 42 0,(Bh x y).getD 43 0,(Bh x y).getD 44 0,(Bh x y).getD 45 0,(Bh x y).getD 46 0,(Bh x y).getD 47 0,(Bh x y).getD 48 0,(Bh x y).getD 49 0,(Bh x y).getD 50 0,(Bh x y).getD 51 0,(Bh x y).getD 52 0,(Bh x y).getD 53 0,(Bh x y).getD 54 0,(Bh x y).getD 55 0,(Bh x y).getD 56 0,(Bh x y).getD 57 0,(Bh x y).getD 58 0,(Bh x y).getD 59 0,(Bh x y).getD 60 0,(Bh x y).getD 61 0,(Bh x y).getD 62 0,(Bh x y).getD 63 0]:=by kernel_rfl
def aer (key nonce:List UInt8) (n:UInt32):List UInt8:=[AF key nonce n 0,AF key nonce n 1,AF key nonce n 2,AF key nonce n 3,AF key nonce n 4,AF key nonce n 5,AF key nonce n 6,AF key nonce n 7,AF key nonce n 8,AF key nonce n 9,AF key nonce n 10,AF key nonce n 11,AF key nonce n 12,AF key nonce n 13,AF key nonce n 14,AF key nonce n 15,AF key nonce n 16,AF key nonce n 17,AF key nonce n 18,AF key nonce n 19,AF key nonce n 20,AF key nonce n 21,AF key nonce n 22,AF key nonce n 23,AF key nonce n 24,AF key nonce n 25,AF key nonce n 26,AF key nonce n 27,AF key nonce n 28,AF key nonce n 29,AF key nonce n 30,AF key nonce n 31,AF key nonce n 32,AF key nonce n 33,AF key nonce n 34,AF key nonce n 35,AF key nonce n 36,AF key nonce n 37,AF key nonce n 38,AF key nonce n 39,AF key nonce n 40,AF key nonce n 41,AF key nonce n 42,AF key nonce n 43,AF key nonce n 44,AF key nonce n 45,AF key nonce n 46,AF key nonce n 47,AF key nonce n 48,AF key nonce n 49,AF key nonce n 50,AF key nonce n 51,AF key nonce n 52,AF key nonce n 53,AF key nonce n 54,AF key nonce n 55,AF key nonce n 56,AF key nonce n 57,AF key nonce n 58,AF key nonce n 59,AF key nonce n 60,AF key nonce n 61,AF key nonce n 62,AF key nonce n 63]
theorem QO (key nonce:List UInt8) (n:UInt32):block key nonce n=aer key nonce n:=Vv _ _
end Go.Cha
namespace Go.Eng
open Go
def KJ (g:FuncId) (css:List (List AVal)):EffA:=.eff fun base _ =>
 some (.fn g ((List.range css.length).map fun j=>.ptr (base+j) 0),(List.range css.length).map fun j=>(base+j,some (.cells false (css.getD j []))))
theorem Pi {P:Program}{cs:CS}(hcs:Ai P cs) (hm:P.follows .mixedOrders=true){nn F:Nat}{f:FuncId}{args:List AVal}{g:FuncId}{ns:List Nat}{css:List (List AVal)}{H1:HL}{fr1:Nat}
  (h:Au P cs nn F f args [] P.globals.size=some (.fn g (ns.map fun n=>.ptr n 0),H1,fr1)) (ha:C0 args=true) (hnd:Bu ns=true) (hl:css.length=ns.length) (hk:Nat.ble ns.length 8=true)
  (hc:∀ j n,ns[j]? = some n→Aa H1 n=some (.cells false (css.getD j []))∧ltL 0 (css.getD j [])=true):AG P f args (KJ g css):=by
 intro σ args' H w base v0 H0 hla hg hH happ hfree
 have hnd:=Ce hnd
 have hk:=Nat.le_of_ble_eq_true hk
 simp only [KJ,EffA.app,Option.some.injEq,Prod.mk.injEq] at happ
 obtain ⟨rfl,rfl⟩:=happ
 have hl0:LR (cut P.globals.size σ) args args':=hla.cut0 (CT ha) _
 have hg0:CN P (cut P.globals.size σ):=fun g hgl=>by
  obtain ⟨sz,hs⟩:=hg g hgl
  exact ⟨sz,Cp hs hgl⟩
 obtain ⟨fn,c,hf,hb,hrun⟩:=BJ h
 refine (CO hcs hm hf hb hrun hl0 ⟨fun n o hn=>by simp [Aa] at hn,fun n m o o' p q hn=>by simp [Aa] at hn⟩ hg0 (Br _ _)).mono fun r w' hrw => ?_
 obtain ⟨σ1,v',rfl,g1,g2,g3,g4⟩:=hrw
 have hold:∀ b,b < w.heap.size→w'.heap[b]? = w.heap[b]? ∧ ¬ Own σ1 (Aa H1) b:=fun b hb=>g3.old b hb fun ⟨n,o,p,a1,_⟩=>by simp [Aa] at a1
 -- the places of the new names
 obtain ⟨σ2,hσ2⟩:∃ σ2:Sig,σ2=fun n=>if base≤n∧n < base+ns.length then σ1 (ns.getD (n - base) 0) else σ n:=⟨_,rfl⟩
 have at2:∀ j n,ns[j]? = some n→σ2 (base+j)=σ1 n:=fun j n hj=>by
  have hjl:j < ns.length:=(List.getElem?_eq_some_iff.1 hj).1
  rw [hσ2]
  simp only
  rw [if_pos ⟨by omega,by omega⟩,Nat.add_sub_cancel_left,List.getD_eq_getElem?_getD,hj]; rfl
 have off2:∀ n,¬ (base≤n∧n < base+ns.length)→σ2 n=σ n:=fun n hn=>by
  rw [hσ2]
  exact if_neg hn
 have le2:Sig.le σ σ2:=fun n p hp=>by
  rw [off2 n fun hn => ?_]
  ·exact hp
  ·have:=hfree (n - base) (by omega)
   rw [show base+(n - base)=n by omega,hp] at this
   cases this
 have obj1:∀ j n,ns[j]? = some n→∃ p,σ1 n=some p∧Cu σ1 w' p (.cells false (css.getD j []))∧w.heap.size≤p.blk:=fun j n hj=>by
  obtain ⟨p,hp,ho⟩:=g2.obj n _ (hc j n hj).1
  exact ⟨p,hp,ho,Nat.le_of_not_lt fun hlt=>(hold p.blk hlt).2 ⟨n,_,p,(hc j n hj).1,rfl,hp,rfl⟩⟩
 have us:∀ m x,(m,x) ∈ ((List.range css.length).map fun j=>(base+j,some (AObj.cells false (css.getD j []))))→∃ j,j < css.length∧m=base+j∧x=some (.cells false (css.getD j [])):=fun m x hx=>by
  obtain ⟨j,hj,e⟩:=List.mem_map.1 hx
  cases e
  exact ⟨j,List.mem_range.1 hj,rfl,rfl⟩
 have getH:∀ m o,Aa (Bo H ((List.range css.length).map fun j=>(base+j,some (AObj.cells false (css.getD j []))))) m=some o →
   (∃ j n,ns[j]? = some n∧m=base+j∧o=.cells false (css.getD j [])) ∨ (¬ (base≤m∧m < base+ns.length)∧Aa H m=some o):=fun m o hm=>by
  rcases appU_get (us:=(List.range css.length).map fun j=>(base+j,some (AObj.cells false (css.getD j [])))) (H:=H) (fun m x hx=>by obtain ⟨j,_,_,rfl⟩:=us m x hx; rfl) m with ⟨o',a1,a2⟩ | ⟨a1,a2⟩
  ·rw [a2] at hm
   cases hm
   obtain ⟨j,hj,rfl,e⟩:=us m _ a1
   cases e
   exact .inl ⟨j,ns[j]'(by omega),List.getElem?_eq_getElem (by omega),rfl,rfl⟩
  ·rw [a2] at hm
   refine .inr ⟨fun hb => ?_,hm⟩
   exact a1 (some (.cells false (css.getD (m - base) []))) (List.mem_map.2 ⟨m - base,List.mem_range.2 (by omega),by rw [show base+(m - base)=m by omega]⟩)
 refine ⟨σ2,v',rfl,?_,⟨fun m o hm => ?_,fun m m' o o' p q hm hm' hp hq hpq => ?_⟩,⟨le2,g3.size,g3.os,g3.output,g3.tape,fun b hb hn=>⟨(hold b hb).1,?_⟩⟩,fun n hn=>off2 n (by omega)⟩
 ·cases g1 with
  | fn hs hcap =>
   refine .fn (by rw [← hs]; simp [hl]) fun i u u' hu hu' => ?_
   have hi:i < css.length:=by
    have:=(List.getElem?_eq_some_iff.1 hu).1
    simpa using this
   have e1:u=.ptr (base+i) 0:=by
    rw [List.getElem?_map,List.getElem?_range hi] at hu
    simpa using hu.symm
   subst e1
   have hn:ns[i]? = some (ns[i]'(by omega)):=List.getElem?_eq_getElem (by omega)
   have hv:=hcap i (.ptr (ns[i]'(by omega)) 0) u' (by rw [List.getElem?_map,hn]; rfl) hu'
   cases hv with
   | ptr hp=>exact .ptr (by rw [at2 i _ hn]; exact hp)
 ·rcases getH m o hm with ⟨j,n,hj,rfl,rfl⟩ | ⟨hb,ho⟩
  ·obtain ⟨p,hp,ho,_⟩:=obj1 j n hj
   exact ⟨p,by rw [at2 j n hj]; exact hp,ho.plain (hc j n hj).2⟩
  ·obtain ⟨p,hp,hor⟩:=hH.obj m o ho
   exact ⟨p,le2 m p hp,hor.mono le2 (hold _ hor.lt).1⟩
 ·rcases getH m o hm with ⟨j,n,hj,rfl,rfl⟩ | ⟨hb,ho⟩ <;> rcases getH m' o' hm' with ⟨j',n',hj',rfl,rfl⟩ | ⟨hb',ho'⟩
  ·rw [at2 j n hj] at hp
   rw [at2 j' n' hj'] at hq
   rcases g2.inj n n' _ _ p q (hc j n hj).1 (hc j' n' hj').1 hp hq hpq with e | ⟨e,_⟩
   ·subst e
    have:j=j':=(List.getElem?_inj (List.getElem?_eq_some_iff.1 hj).1 hnd).1 (hj.trans hj'.symm)
    exact .inl (by rw [this])
   ·cases e
  ·exfalso
   obtain ⟨p1,hp1,_,hge⟩:=obj1 j n hj
   rw [at2 j n hj,hp1] at hp
   cases hp
   obtain ⟨q1,hq1,hor⟩:=hH.obj m' o' ho'
   rw [off2 m' hb',hq1] at hq
   cases hq
   have:=hor.lt
   omega
  ·exfalso
   obtain ⟨p1,hp1,_,hge⟩:=obj1 j' n' hj'
   rw [at2 j' n' hj',hp1] at hq
   cases hq
   obtain ⟨q1,hq1,hor⟩:=hH.obj m o ho
   rw [off2 m hb,hq1] at hp
   cases hp
   have:=hor.lt
   omega
  ·rw [off2 m hb] at hp
   rw [off2 m' hb'] at hq
   exact hH.inj m m' o o' p q ho ho' hp hq hpq
 ·rintro ⟨m,o,p,h1,h2,h3,h4⟩
  rcases getH m o h1 with ⟨j,n,hj,rfl,rfl⟩ | ⟨hb2,ho⟩
  ·obtain ⟨p1,hp1,_,hge⟩:=obj1 j n hj
   rw [at2 j n hj,hp1] at h3
   cases h3
   omega
  ·rw [off2 m hb2] at h3
   exact hn ⟨m,o,p,ho,h2,h3,h4⟩
end Go.Eng
namespace Go.Proofs.YtcplgmgpagekfaaGreatDoor.Cha
open Go Go.Eng Go.Cha
structure Fb where
 may:List UInt8→List UInt8→Bool
 bb:List UInt8→List UInt8→UInt32→Nat→UInt8
def AK:Fb:=⟨may,AF⟩
def Fu (φ:Fb) (k n:List UInt8) (c:UInt32):List UInt8:=(List.range 64).map (φ.bb k n c)
theorem My (k n:List UInt8) (c:UInt32):Fu AK k n c=block k n c:=(QO k n c).symm
theorem m8a (k n:List UInt8):AL (An Tryz.prog AP Bn [7,11] [false] [] (mask 74) 100 74 [.str k,.str n] [] Tryz.prog.globals.size)=some (.bool false,[!((k.length:Int) == 32)]):=by kernel_rfl
theorem m8b (k n:List UInt8):AL (An Tryz.prog AP Bn [7,11] [true,false] [] (mask 74) 100 74 [.str k,.str n] [] Tryz.prog.globals.size)=some (.bool false,[!((n.length:Int) == 12),(k.length:Int) == 32]):=by kernel_rfl
theorem m8c (k n:List UInt8):AL (An Tryz.prog AP Bn [7,11] [true,true] [] (mask 74) 100 74 [.str k,.str n] [] Tryz.prog.globals.size)=some (.bool true,[(n.length:Int) == 12,(k.length:Int) == 32]):=by kernel_rfl
theorem amX (k n:List UInt8):AL (An Tryz.prog AP Bn [7,11] [false] [] (mask 95) 100 95 [.str k,.str n] [] Tryz.prog.globals.size)=some (.bool false,[!((k.length:Int) == 32)]):=by kernel_rfl
theorem alo (k n:List UInt8):AL (An Tryz.prog AP Bn [7,11] [true,false] [] (mask 95) 100 95 [.str k,.str n] [] Tryz.prog.globals.size)=some (.bool false,[!((n.length:Int) == 12),(k.length:Int) == 32]):=by kernel_rfl
theorem alF (k n:List UInt8):AL (An Tryz.prog AP Bn [7,11] [true,true] [] (mask 95) 100 95 [.str k,.str n] [] Tryz.prog.globals.size)=some (.bool true,[(n.length:Int) == 12,(k.length:Int) == 32]):=by kernel_rfl
theorem act (n m:Nat):((n:Int) == (m:Int))=(n == m):=by rw [Bool.eq_iff_iff]; simp only [beq_iff_eq]; omega
theorem S4 {f:FuncId}{nn:Nat}(ha:∀ k n,AL (An Tryz.prog AP Bn [7,11] [false] [] nn 100 f [.str k,.str n] [] Tryz.prog.globals.size)=some (.bool false,[!((k.length:Int) == 32)]))
  (hb:∀ k n,AL (An Tryz.prog AP Bn [7,11] [true,false] [] nn 100 f [.str k,.str n] [] Tryz.prog.globals.size)=some (.bool false,[!((n.length:Int) == 12),(k.length:Int) == 32]))
  (hc:∀ k n,AL (An Tryz.prog AP Bn [7,11] [true,true] [] nn 100 f [.str k,.str n] [] Tryz.prog.globals.size)=some (.bool true,[(n.length:Int) == 12,(k.length:Int) == 32])) (k n:List UInt8) :
  (Au Tryz.prog Bn nn 100 f [.str k,.str n] [] Tryz.prog.globals.size).map (·.1)=some (.bool (may k n)):=by
 unfold may
 have e1:((k.length:Int) == 32)=(k.length == 32):=act _ 32
 have e2:((n.length:Int) == 12)=(n.length == 12):=act _ 12
 cases h1:(k.length == 32)
 ·exact Aj (Ao _) (ha k n) (by rw [e1,h1]; rfl)
 cases h2:(n.length == 12)
 ·exact Aj (Ao _) (hb k n) (by rw [e1,e2,h1,h2]; rfl)
 ·exact Aj (Ao _) (hc k n) (by rw [e1,e2,h1,h2]; rfl)
def k8 (φ:Fb):List AVal→Option EffA
 | [.str a,.str b]=>some (.pure (.bool (φ.may a b)))
 | _=>none
theorem YY:Ai Tryz.prog (Ag 74 (k8 AK)):=Ak fun args e he=>by
 unfold k8 at he
 split at he
 ·rename_i a b
  cases he
  exact Ac (A7 _) AB (S4 m8a m8b m8c a b) rfl rfl
 ·cases he
theorem V6:Ai Tryz.prog (Ag 95 (k8 AK)):=Ak fun args e he=>by
 unfold k8 at he
 split at he
 ·rename_i a b
  cases he
  exact Ac (A7 _) AB (S4 amX alo alF a b) rfl rfl
 ·cases he
def k9 (φ:Fb):List AVal→Option (EffA × Bool)
 | [.str a,.str b,.u32 c]=>some (.pure (.str (Fu φ a b c)),φ.may a b)
 | _=>none
theorem acB:Ai Tryz.prog (csP (Al 102 (k9 AK))):=AT fun args v he=>by
 unfold k9 at he
 split at he
 ·rename_i a b c
  simp only [Option.some.injEq,Prod.mk.injEq] at he
  obtain ⟨rfl,h⟩:=he
  obtain ⟨h1,h2⟩:=may_true.1 (show may a b=true from h)
  rw [My]
  exact Ac Xr AB (anN h1 h2 c) rfl rfl
 ·cases he
def k13 (φ:Fb):List AVal→Option (EffA × Bool)
 | [.str a,.str b,.u32 c]=>some (.pure (.agg ((List.range 64).map fun i=>.u8 (φ.bb a b c i))),φ.may a b)
 | _=>none
theorem Sd (a b:List UInt8) (c:UInt32):Lo (block a b c)=.agg ((List.range 64).map fun i=>.u8 (AK.bb a b c i)):=by
 rw [← My]
 unfold Lo Fu
 rw [List.map_map]
 rfl
theorem aei:Ai Tryz.prog (csP (Al 111 (k13 AK))):=AT fun args v he=>by
 unfold k13 at he
 split at he
 ·rename_i a b c
  simp only [Option.some.injEq,Prod.mk.injEq] at he
  obtain ⟨rfl,h⟩:=he
  obtain ⟨h1,h2⟩:=may_true.1 (show may a b=true from h)
  have:=ahV h1 h2 c
  rw [Sd] at this
  exact Ac Xr AB this rfl (FJ 0 ((List.range 64).map fun i=>AK.bb a b c i))
 ·cases he
def psb (φ:Fb):PS:=Bi (Al 102 (k9 φ)) (Al 111 (k13 φ))
theorem aeX:Ai Tryz.prog (csP (psb AK)):=AN acB aei
def chb (φ:Fb):CS:=At (Ag 74 (k8 φ)) (Ag 95 (k8 φ))
theorem afm:Ai Tryz.prog (chb AK):=Af YY V6
def nb (φ:Fb):CS:=At (csP (psb φ)) (chb φ)
theorem Iq:Ai Tryz.prog (nb AK):=Af aeX afm
theorem Fn (φ:Fb):Bt (psb φ) (nb φ):=A4
theorem w7a (φ:Fb) (k n:List UInt8) (c:UInt32):AL (An Tryz.prog (psb φ) (nb φ) [12,16] [true] [] (mask 97) 100 97 [.str k,.str n,.u32 c] [] Tryz.prog.globals.size)=some (.tup [.str [],.int .i64 2],[!(φ.may k n)]):=by kernel_rfl
theorem w7b (φ:Fb) (k n:List UInt8) (c:UInt32):AL (An Tryz.prog (psb φ) (nb φ) [12,16] [false] [] (mask 97) 100 97 [.str k,.str n,.u32 c] [] Tryz.prog.globals.size)=some (.tup [.str (Fu φ k n c),.int .i64 0],[φ.may k n,!(!(φ.may k n))]):=by kernel_rfl
theorem aes (k n:List UInt8) (c:UInt32):(Au Tryz.prog (nb AK) (mask 97) 100 97 [.str k,.str n,.u32 c] [] Tryz.prog.globals.size).map (·.1)=some (cond (may k n) (.tup [.str (Fu AK k n c),.int .i64 0]) (.tup [.str [],.int .i64 2])):=by
 cases h:may k n
 ·exact Aj (Fn _) (w7a AK k n c) (by show Am [!(may k n)]=true; rw [h]; rfl)
 ·exact Aj (Fn _) (w7b AK k n c) (by show Am [may k n,!(!(may k n))]=true; rw [h]; rfl)
def k7 (φ:Fb):List AVal→Option EffA
 | [.str a,.str b,.u32 c]=>some (.pure (.tup [.str (cond (φ.may a b) (Fu φ a b c) []),.int .i64 (cond (φ.may a b) 0 2)]))
 | _=>none
theorem Wl:Ai Tryz.prog (Ag 97 (k7 AK)):=Ak fun args e he=>by
 unfold k7 at he
 split at he
 ·rename_i a b c
  cases he
  have h:=aes a b c
  have e:AK.may a b=may a b:=rfl
  rw [e]
  cases hm:may a b <;> rw [hm] at h
  ·exact Ac Iq AB h rfl rfl
  ·exact Ac Iq AB h rfl rfl
 ·cases he
theorem FS (k n:List UInt8) (c:UInt32):Au Tryz.prog Bn (mask 96) 100 96 [.str k,.str n,.u32 c] [] Tryz.prog.globals.size=some (.fn 110 ([1,9,17].map fun n=>.ptr n 0),[(1,.cells false [.str k]),(9,.cells false [.str n]),(17,.cells false [.u32 c])],49):=by kernel_rfl
theorem Vo (k n:List UInt8) (c:UInt32):AG Tryz.prog 96 [.str k,.str n,.u32 c] (KJ 110 [[.str k],[.str n],[.u32 c]]):=by
 refine Pi (A7 _) AB (FS k n c) rfl rfl rfl rfl fun j m hj => ?_
 match j,hj with
 | 0,hj=>cases hj; exact ⟨rfl,rfl⟩
 | 1,hj=>cases hj; exact ⟨rfl,rfl⟩
 | 2,hj=>cases hj; exact ⟨rfl,rfl⟩
def k16:List AVal→Option EffA
 | [.str a,.str b,.u32 c]=>some (KJ 110 [[.str a],[.str b],[.u32 c]])
 | _=>none
theorem aee:Ai Tryz.prog (Ag 96 k16):=Ak fun args e he=>by
 unfold k16 at he
 split at he
 ·rename_i a b c
  cases he
  exact Vo a b c
 ·cases he
end Go.Proofs.YtcplgmgpagekfaaGreatDoor.Cha
