/- Texts Bt2, QBt3, QBt4, QBt5, QAChE, QAChS, QACh0, QACh1, QACh2, QAChP, Eng35: what they show that this claim uses. -/
import Derived.Lib.Builder
import Derived.Lib.UnsafeStr
import Derived.Lib.AppendStr
import Derived.WalkSpells
import Derived.WalkKit
import Derived.ProofKit
import Derived.Test.YtanaackimepkdaaGreatDoorP7
import Derived.Shelf.RegionOpenPlain
import Derived.Test.YtanaackimepkdaaGreatDoorP6
import Derived.LoopN
import Derived.Test.YtanaackimepkdaaGreatDoorP4
import Derived.Test.YtanaackimepkdaaGreatDoorChecked
import Derived.Test.YtanaackimepkdaaGreatDoorP5
set_option maxRecDepth 100000
set_option maxHeartbeats 1000000
set_option linter.unusedVariables false
set_option linter.unusedSimpArgs false
namespace Go.Bld
open Go
variable {P:Program}
def Lies (w:World) (v v':Value):Prop:=∀ g,v'.ownBlock=some g→v.ownBlock=some g ∨ w.heap.size≤g
theorem lies_string (w:World) (t u ty e:TypeId) (i:TypeInfo) (ht:P.underlying t=some (.slice e)) (hu:P.underlying u=some .string) (hi:P.info? e=some i) (hz:i.zero=some (.int .u8 0)) (hsize:i.size=1) (hby:i.bytes=1)
  (base:Nat) (v:Value) (n:Nat) (xs:List Value) (hown:w.ownsRow base e 1 v n xs) (s:ByteArray) (h63:n+s.size≤maxLen) (hbytes:n+s.size≤140737488355328) {v':Value} {w':World}
  (hr:(Builtin.append_ #[t,u] ty #[v,.string s]).run P w=.ok v' w'):Lies w v v':=by
 intro g' hg'
 have h1:n+s.size≤9223372036854775807:=by simp only [maxLen] at h63; omega
 rcases hown.2 with ⟨rfl,rfl⟩ | ⟨g,cap,cur,rfl,hbg,hg,hnc,hcm,hcs,htake⟩
 ·have hnil:w.ownsRow w.heap.size e 1 (.slice none 0 0) 0 xs:=⟨hown.1,.inl ⟨rfl,rfl⟩⟩
  obtain ⟨v2,w2,hr2,hown2,_,_⟩:=Lib.run_append_own_string (P:=P) w w.heap.size t u ty e i ht hu hi hz hsize hby _ 0 xs hnil s h63 hbytes (Nat.le_refl _)
  rw [hr] at hr2
  cases hr2
  rcases hown2.2 with ⟨rfl,_⟩ | ⟨g2,c2,cur2,rfl,hb2,_⟩
  ·cases hg'
  ·cases hg'
   exact .inr hb2
 ·by_cases hroom:n+s.size≤cap
  ·have hcs':cur.size=cap:=by simpa using hcs
   have hr2:=Lib.run_append_room_string (P:=P) w t u ty e i ht hu hi hsize g n cap cur hg s hroom (by omega)
   rw [hr] at hr2
   cases hr2
   exact .inl hg'
  ·have holds:∀ j u,xs[j]? = some u→w.cell? ((⟨g,0,none⟩:Addr).add j)=some u:=hown.cells (g:=g) rfl
   have hxl:xs.length=n:=by simpa using hown.1
   have hr2:=Lib.run_append_grow_string (P:=P) w t u ty e i (.int .u8 0) ht hu hi hz ⟨g,0,none⟩ n cap xs (by rw [hsize]; simpa using hxl) holds s (by omega) (by omega) (by rw [hby]; exact growslice_fits (by omega) (by omega))
   rw [hr] at hr2
   cases hr2
   cases hg'
   exact .inr (Nat.le_refl _)
theorem lies_row (w:World) (t ty e:TypeId) (i:TypeInfo) (ht:P.underlying t=some (.slice e)) (hi:P.info? e=some i) (hz:i.zero=some (.int .u8 0)) (hsize:i.size=1) (hby:i.bytes=1)
  (base:Nat) (v:Value) (n:Nat) (xs:List Value) (hown:w.ownsRow base e 1 v n xs) (ad:Addr) (m c:Nat) (news:List Value) (hl:news.length=m) (hnews:∀ j u,news[j]? = some u→w.cell? (ad.add j)=some u) (hone:∀ u ∈ news,u.oneCell'=true)
  (h63:n+m≤maxLen) (hbytes:n+m≤140737488355328) {v':Value} {w':World} (hr:(Builtin.append_ #[t,t] ty #[v,.slice (some ad) m c]).run P w=.ok v' w'):Lies w v v':=by
 intro g' hg'
 have h1:n+m≤9223372036854775807:=by simp only [maxLen] at h63; omega
 rcases hown.2 with ⟨rfl,rfl⟩ | ⟨g,cap,cur,rfl,hbg,hg,hnc,hcm,hcs,htake⟩
 ·have hnil:w.ownsRow w.heap.size e 1 (.slice none 0 0) 0 xs:=⟨hown.1,.inl ⟨rfl,rfl⟩⟩
  obtain ⟨v2,w2,hr2,hown2,_,_⟩:=run_append_own (P:=P) w w.heap.size t ty e i (.int .u8 0) 1 1 ht hi hz hsize hby rfl (by decide) _ 0 xs hnil ad m c news (by omega) hnews hone h63 (by omega) (Nat.le_refl _)
  rw [hr] at hr2
  cases hr2
  rcases hown2.2 with ⟨rfl,_⟩ | ⟨g2,c2,cur2,rfl,hb2,_⟩
  ·cases hg'
  ·cases hg'
   exact .inr hb2
 ·by_cases hroom:n+m≤cap
  ·have hcs':cur.size=cap:=by simpa using hcs
   have hr2:=run_append_room (P:=P) w t ty e i ht hi g n cap cur hg ad m c news (by rw [hsize]; omega) hnews hone hroom (by rw [hsize]; omega)
   rw [hr] at hr2
   cases hr2
   exact .inl hg'
  ·have holds:∀ j u,xs[j]? = some u→w.cell? ((⟨g,0,none⟩:Addr).add j)=some u:=hown.cells (g:=g) rfl
   have hxl:xs.length=n:=by simpa using hown.1
   have hr2:=run_append_grow (P:=P) w t ty e i (.int .u8 0) ht hi hz ⟨g,0,none⟩ n cap xs (by rw [hsize]; simpa using hxl) holds ad m c news (by rw [hsize]; omega) hnews (by omega) (by omega) (by rw [hby]; exact growslice_fits (by omega) (by omega))
   rw [hr] at hr2
   cases hr2
   cases hg'
   exact .inr (Nat.le_refl _)
theorem wp_string {ops:Array Oper}{rest:List Oper}{o:Oper}{a:Act}{Q:Exit→Act→World→Prop}{w:World}(hgd:o.guard=none) (sl x:Operand) (t u:TypeId)
  (ho:o.op=.call { callee:=.builtin .append,args:=#[sl,x],argTypes:=#[t,u] })
  (base:Nat) (e:TypeId) (i:TypeInfo) (ht:P.underlying t=some (.slice e)) (hu:P.underlying u=some .string) (hi:P.info? e=some i) (hz:i.zero=some (.int .u8 0)) (hsize:i.size=1) (hby:i.bytes=1)
  (v:Value) (n:Nat) (xs:List Value) (hs:a.eval sl=v) (hown:w.ownsRow base e 1 v n xs) (s:ByteArray) (hx:a.eval x=.string s) (h63:n+s.size≤maxLen) (hbytes:n+s.size≤140737488355328) (hbase:base≤w.heap.size)
  (h:∀ v' w',w'.ownsRow base e 1 v' (n+s.size) (xs++Lib.strCells s)→w.grownBy w' v.ownBlock→Lies w v v'→(v=.slice none 0 0→s.size=0→v'=.slice none 0 0)→wpList P ops Q rest (a.put o.dst v') w'):wpList P ops Q (o::rest) a w:=by
 refine wpList_plain hgd fun K hK => ?_
 obtain ⟨v',w',hr,h2,h3,h4⟩:=Lib.run_append_own_string (P:=P) w base t u o.type e i ht hu hi hz hsize hby v n xs hown s h63 hbytes hbase
 unfold Oper.wp execOp
 simp only [ho,resolve,invoke,builtin,Sem.run_bind,Sem.run_pure,Result.andThen_ok,List.map_toArray,List.map_cons,List.map_nil,hs,hx,hr]
 exact hK _ _ (h v' w' h2 h3 (lies_string w t u o.type e i ht hu hi hz hsize hby base v n xs hown s h63 hbytes hr) fun e1 e2=>h4.2 ⟨e1,e2⟩)
theorem wp_row {ops:Array Oper}{rest:List Oper}{o:Oper}{a:Act}{Q:Exit→Act→World→Prop}{w:World}(hgd:o.guard=none) (sl x:Operand) (t:TypeId)
  (ho:o.op=.call { callee:=.builtin .append,args:=#[sl,x],argTypes:=#[t,t] })
  (base:Nat) (e:TypeId) (i:TypeInfo) (ht:P.underlying t=some (.slice e)) (hi:P.info? e=some i) (hz:i.zero=some (.int .u8 0)) (hsize:i.size=1) (hby:i.bytes=1)
  (v:Value) (n:Nat) (xs:List Value) (hs:a.eval sl=v) (hown:w.ownsRow base e 1 v n xs) (ad:Addr) (m c:Nat) (news:List Value) (hx:a.eval x=.slice (some ad) m c) (hl:news.length=m) (hnews:∀ j u,news[j]? = some u→w.cell? (ad.add j)=some u) (hone:∀ u ∈ news,u.oneCell'=true)
  (h63:n+m≤maxLen) (hbytes:n+m≤140737488355328) (hbase:base≤w.heap.size)
  (h:∀ v' w',w'.ownsRow base e 1 v' (n+m) (xs++news)→w.grownBy w' v.ownBlock→Lies w v v'→(v=.slice none 0 0→m=0→v'=.slice none 0 0)→wpList P ops Q rest (a.put o.dst v') w'):wpList P ops Q (o::rest) a w:=by
 refine wpList_plain hgd fun K hK => ?_
 obtain ⟨v',w',hr,h2,h3,h4⟩:=run_append_own (P:=P) w base t o.type e i (.int .u8 0) 1 1 ht hi hz hsize hby rfl (by decide) v n xs hown ad m c news (by omega) hnews hone h63 (by omega) hbase
 unfold Oper.wp execOp
 simp only [ho,resolve,invoke,builtin,Sem.run_bind,Sem.run_pure,Result.andThen_ok,List.map_toArray,List.map_cons,List.map_nil,hs,hx,hr]
 exact hK _ _ (h v' w' h2 h3 (lies_row w t o.type e i ht hi hz hsize hby base v n xs hown ad m c news hl hnews hone h63 hbytes hr) fun e1 e2=>h4.2 ⟨e1,e2⟩)
end Go.Bld
namespace Go.Proofs.YtanaackimepkdaaGreatDoor.Bld
open Go Go.Bld Go.RowKit
set_option maxHeartbeats 2000000
structure BV (b:Nat) (p v:Value) (bs:List Value) (w:World):Prop where
 blk:w.heap[b]? = some (.cells #[p,v] 199 (0,0))
 self:p=.pointer none ∨ p=.pointer (some ⟨b,0,none⟩)
 own:w.ownsRow 0 5 1 v bs.length bs
 ne:v.ownBlock ≠ some b
 nil:bs=[]→v=.slice none 0 0
structure Fr (b:Nat) (v:Value) (w w':World):Prop where
 os:w'.os=w.os
 output:w'.output=w.output
 tape:w'.tape=w.tape
 size:w.heap.size≤w'.heap.size
 block:∀ k,k < w.heap.size→k ≠ b→v.ownBlock ≠ some k→w'.heap[k]? = w.heap[k]?
theorem BV.lt {b:Nat}{p v:Value}{bs:List Value}{w:World}(h:BV b p v bs w):b < w.heap.size:=(Array.getElem?_eq_some_iff.1 h.blk).1
theorem ents {f:FuncId}(hb:Eng.bodied Tryz.prog f=true):∀ args w,(callFunc f args).run Tryz.prog w=.ok (.enter f args) w:=by
 obtain ⟨fn,hfn,hbody,hname⟩:=Eng.bodied_ok hb
 intro args w
 simp only [callFunc,Sem.run_bind,run_program,Result.andThen_ok,hfn,hname,hbody,Bool.false_eq_true,if_false,Sem.run_pure]
theorem e46:∀ args w,(callFunc 196 args).run Tryz.prog w=.ok (.enter 196 args) w:=ents (by kernel_rfl)
theorem mixB:Tryz.prog.follows .mixedOrders=true:=by kernel_rfl
theorem info5:∃ i,Tryz.prog.info? 5=some i∧i.zero=some (.int .u8 0)∧i.size=1∧i.bytes=1:=by
 have h:(Tryz.prog.info? 5).map (fun i=>(i.zero,i.size,i.bytes))=some (some (.int .u8 0),1,1):=by kernel_rfl
 obtain ⟨i,hi,he⟩:=Option.map_eq_some_iff.1 h
 simp only [Prod.mk.injEq] at he
 exact ⟨i,hi,he⟩
theorem set_size (w:World) (a:Addr) (u:Value):(w.setCell a u).heap.size=w.heap.size:=by simp [World.setCell]
theorem set0 {w:World}{b:Nat}{p v:Value}(h:w.heap[b]? = some (.cells #[p,v] 199 (0,0))) (u:Value):(w.setCell ⟨b,0,none⟩ u).heap[b]? = some (.cells #[u,v] 199 (0,0)):=by simp [World.setCell,Array.getElem?_modify,h]
theorem set1 {w:World}{b:Nat}{p v:Value}(h:w.heap[b]? = some (.cells #[p,v] 199 (0,0))) (u:Value):(w.setCell ⟨b,1,none⟩ u).heap[b]? = some (.cells #[p,u] 199 (0,0)):=by simp [World.setCell,Array.getElem?_modify,h]
theorem check {b:Nat}{p v:Value}{bs:List Value}{w:World}(h:BV b p v bs w) :
  Calls Tryz.prog 196 #[.pointer (some ⟨b,0,none⟩)] w fun e w'=>e=.returned (.tuple #[])∧BV b (.pointer (some ⟨b,0,none⟩)) v bs w'∧Fr b (.pointer none) w w':=by
 have c0:w.cell? ⟨b,0,none⟩=some p:=by rw [Lib.cell_of_heap h.blk]; rfl
 rcases h.self with rfl | rfl
 ·refine (fresh b w c0 (by simp [World.shape?,h.blk]) (Lib.frozen_of_heap h.blk 0)).mono fun e w' ⟨he,hw⟩ => ?_
  subst hw
  exact ⟨he,⟨set0 h.blk _,.inr rfl,ownsRow_setCell_other h.own h.ne _,h.ne,h.nil⟩,⟨rfl,rfl,rfl,Nat.le_of_eq (set_size ..).symm,fun k _ hk _=>Below.heap_setCell _ _ _ _ hk⟩⟩
 ·exact (used b w c0).mono fun e w' ⟨he,hw⟩=>by
   subst hw
   exact ⟨he,h,⟨rfl,rfl,rfl,Nat.le_refl _,fun _ _ _ _=>rfl⟩⟩
theorem Fr.trans0 {b:Nat}{v:Value}{w w1 w2:World}(h:Fr b (.pointer none) w w1) (k:Fr b v w1 w2):Fr b v w w2:=
 ⟨k.os.trans h.os,k.output.trans h.output,k.tape.trans h.tape,Nat.le_trans h.size k.size,fun i hi hb hv=>(k.block i (Nat.lt_of_lt_of_le hi h.size) hb hv).trans (h.block i hi hb (by intro e; cases e))⟩
theorem Fr.of_grown {b:Nat}{v u:Value}{w w':World}(h:w.grownBy w' v.ownBlock):Fr b v w (w'.setCell ⟨b,1,none⟩ u):=
 ⟨h.os,h.output,h.tape,by rw [set_size]; exact h.size,fun k hk hb hv=>(Below.heap_setCell _ _ _ _ hb).trans (h.block k hk fun e=>hv e.symm)⟩
theorem Lies.of0 {w w1:World}{v v':Value}(h:Lies w1 v v') (hs:w.heap.size≤w1.heap.size):Lies w v v':=fun g hg=>(h g hg).imp id fun h=>Nat.le_trans hs h
theorem write {b:Nat}{p v:Value}{bs:List Value}{w:World}(h:BV b p v bs w) (s:ByteArray) (hl:bs.length+s.size≤1000000000) :
  Calls Tryz.prog 148 #[.pointer (some ⟨b,0,none⟩),.string s] w fun e w'=>e=.returned (.tuple #[.int .i64 s.size,.nilIface]) ∧
   ∃ v',BV b (.pointer (some ⟨b,0,none⟩)) v' (bs++Lib.strCells s) w'∧Lies w v v'∧Fr b v w w':=by
 obtain ⟨i0,hi,hz0,hz1,hz2⟩:=info5
 have e46:=e46
 go_enter Tryz.func148,Tryz.ntmps148
 go_wp2_with (go_at_call 196; refine (check h).mono ?_)
 rintro e w1 ⟨rfl,h1,f1⟩
 have c0:w1.cell? ⟨b,0,none⟩=some (.pointer (some ⟨b,0,none⟩)):=by rw [Lib.cell_of_heap h1.blk]; rfl
 have c1:w1.cell? ⟨b,1,none⟩=some v:=by rw [Lib.cell_of_heap h1.blk]; rfl
 have hown:=h1.own
 go_wp2_with (at_builtin; refine wp_string rfl _ _ 50 9 rfl 0 5 i0 Tryz.underlying50 Tryz.underlying9 hi hz0 hz1 hz2 _ _ _ rfl hown s rfl ?c3 ?c4 ?c5 ?_)
 case c3=>unfold maxLen; omega
 case c4=>omega
 case c5=>exact Nat.zero_le _
 intro v' w2 hown' hgrow hlies hnil
 have hlt:=h1.lt
 have hb2:w2.heap[b]? = some (.cells #[.pointer (some ⟨b,0,none⟩),v] 199 (0,0)):=by
  rw [hgrow.block b hlt (fun e=>h1.ne e.symm)]
  exact h1.blk
 have d0:w2.cell? ⟨b,0,none⟩=some (.pointer (some ⟨b,0,none⟩)):=by rw [Lib.cell_of_heap hb2]; rfl
 have d1:w2.cell? ⟨b,1,none⟩=some v:=by rw [Lib.cell_of_heap hb2]; rfl
 have f11:w2.frozen? ⟨b,1,none⟩=false:=Lib.frozen_of_heap hb2 1
 obtain ⟨ao,n',cap,rfl⟩:∃ ao n' cap,v'=.slice ao n' cap:=by
  rcases hown'.2 with ⟨hv,_⟩ | ⟨g,cap,cur,hv,_⟩
  ·exact ⟨_,_,_,hv⟩
  ·exact ⟨_,_,_,hv⟩
 have hne':=Lib.ownBlock_ne hown' hb2 (by decide)
 go_wp2
 go_ret2
 refine ⟨rfl,_,⟨set1 hb2 _,.inr rfl,?_,hne',?nl⟩,Lies.of0 hlies f1.size,f1.trans0 (Fr.of_grown hgrow)⟩
 case nl =>
  intro e
  have e1:=List.append_eq_nil_iff.1 e
  have hs0:s.size=0:=by rw [← Lib.strCells_length,e1.2]; rfl
  exact hnil (h1.nil e1.1) (by first | exact hs0 | simpa using hs0)
 have:=ownsRow_setCell_other hown' (a:=⟨b,1,none⟩) hne' (.slice ao n' cap)
 rwa [List.length_append,Lib.strCells_length]
theorem writeR {b:Nat}{p v:Value}{bs:List Value}{w:World}(h:BV b p v bs w) (ad:Addr) (m c:Nat) (news:List Value) (hl:news.length=m) (hnews:∀ j u,news[j]? = some u→w.cell? (ad.add j)=some u) (hone:∀ u ∈ news,u.oneCell'=true)
  (hadb:ad.block ≠ b) (hadl:ad.block < w.heap.size) (hlen:bs.length+m≤1000000000) :
  Calls Tryz.prog 168 #[.pointer (some ⟨b,0,none⟩),.slice (some ad) m c] w fun e w'=>e=.returned (.tuple #[.int .i64 m,.nilIface]) ∧
   ∃ v',BV b (.pointer (some ⟨b,0,none⟩)) v' (bs++news) w'∧Lies w v v'∧Fr b v w w':=by
 obtain ⟨i0,hi,hz0,hz1,hz2⟩:=info5
 have e46:=e46
 go_enter Tryz.func168,Tryz.ntmps168
 go_wp2_with (go_at_call 196; refine (check h).mono ?_)
 rintro e w1 ⟨rfl,h1,f1⟩
 have c0:w1.cell? ⟨b,0,none⟩=some (.pointer (some ⟨b,0,none⟩)):=by rw [Lib.cell_of_heap h1.blk]; rfl
 have c1:w1.cell? ⟨b,1,none⟩=some v:=by rw [Lib.cell_of_heap h1.blk]; rfl
 have hown:=h1.own
 have hnews1:∀ j u,news[j]? = some u→w1.cell? (ad.add j)=some u:=fun j u hj=>by
  have hblk:(ad.add j).block=ad.block:=by unfold Addr.add; split <;> rfl
  have hk:=f1.block ad.block hadl hadb (by intro e; cases e)
  have h0:=hnews j u hj
  unfold World.cell? at h0 ⊢
  rw [hblk] at h0 ⊢
  rw [hk]
  exact h0
 go_wp2_with (at_builtin; refine wp_row rfl _ _ 50 rfl 0 5 i0 Tryz.underlying50 hi hz0 hz1 hz2 _ _ _ rfl hown ad m c news rfl hl hnews1 hone ?c3 ?c4 ?c5 ?_)
 case c3=>unfold maxLen; omega
 case c4=>omega
 case c5=>exact Nat.zero_le _
 intro v' w2 hown' hgrow hlies hnil
 have hlt:=h1.lt
 have hb2:w2.heap[b]? = some (.cells #[.pointer (some ⟨b,0,none⟩),v] 199 (0,0)):=by
  rw [hgrow.block b hlt (fun e=>h1.ne e.symm)]
  exact h1.blk
 have d0:w2.cell? ⟨b,0,none⟩=some (.pointer (some ⟨b,0,none⟩)):=by rw [Lib.cell_of_heap hb2]; rfl
 have d1:w2.cell? ⟨b,1,none⟩=some v:=by rw [Lib.cell_of_heap hb2]; rfl
 have f11:w2.frozen? ⟨b,1,none⟩=false:=Lib.frozen_of_heap hb2 1
 obtain ⟨ao,n',cap,rfl⟩:∃ ao n' cap,v'=.slice ao n' cap:=by
  rcases hown'.2 with ⟨hv,_⟩ | ⟨g,cap,cur,hv,_⟩
  ·exact ⟨_,_,_,hv⟩
  ·exact ⟨_,_,_,hv⟩
 have hne':=Lib.ownBlock_ne hown' hb2 (by decide)
 go_wp2
 go_ret2
 refine ⟨rfl,_,⟨set1 hb2 _,.inr rfl,?_,hne',?nl⟩,Lies.of0 hlies f1.size,f1.trans0 (Fr.of_grown hgrow)⟩
 case nl =>
  intro e
  have e1:=List.append_eq_nil_iff.1 e
  exact hnil (h1.nil e1.1) (by rw [← hl,e1.2]; rfl)
 have:=ownsRow_setCell_other hown' (a:=⟨b,1,none⟩) hne' (.slice ao n' cap)
 rwa [List.length_append,hl]
structure Fz (v:Value) (w w':World):Prop where
 os:w'.os=w.os
 output:w'.output=w.output
 tape:w'.tape=w.tape
 size:w.heap.size≤w'.heap.size
 block:∀ k,k < w.heap.size→v.ownBlock ≠ some k→w'.heap[k]? = w.heap[k]?
theorem freeze_block (w:World) (g n k:Nat) (h:k ≠ g):(w.freeze ⟨g,0,none⟩ n).heap[k]? = w.heap[k]?:=by
 unfold World.freeze
 split
 ·rfl
 ·show (w.heap.modify g _)[k]? = _
  rw [Array.getElem?_modify,if_neg (fun e=>h e.symm)]
theorem freeze_size (w:World) (a:Addr) (n:Nat):(w.freeze a n).heap.size=w.heap.size:=by
 unfold World.freeze
 split
 ·rfl
 ·simp
theorem freeze_os (w:World) (a:Addr) (n:Nat):(w.freeze a n).os=w.os∧(w.freeze a n).output=w.output∧(w.freeze a n).tape=w.tape:=by
 unfold World.freeze
 split <;> exact ⟨rfl,rfl,rfl⟩
theorem text {b:Nat}{p v:Value}{l:List UInt8}{w:World}(h:BV b p v (Lib.byteCells l) w) :
  Calls Tryz.prog 149 #[.pointer (some ⟨b,0,none⟩)] w fun e w'=>e=.returned (.string ⟨l.toArray⟩)∧Fz v w w':=by
 by_cases h0:l=[]
 ·subst h0
  have hv:=h.nil rfl
  subst hv
  have hUS:∀ (W:World) (q:Option Addr),(Builtin.unsafeString_ #[243,3] 9 #[.pointer q,.int .i64 0]).run Tryz.prog W=.ok (.string .empty) W:=fun W q=>Lib.run_unsafeString_none W _ _ _ q
  have hSD:∀ W:World,(Builtin.unsafeSliceData_ #[50] 243 #[.slice none 0 0]).run Tryz.prog W=.ok (.pointer none) W:=fun W=>rfl
  have c1:w.drew.cell? ⟨b,1,none⟩=some (.slice none 0 0):=by
   have:w.drew.heap[b]? = some (.cells #[p,.slice none 0 0] 199 (0,0)):=h.blk
   rw [Lib.cell_of_heap this]; rfl
  have mixed:=mixB
  go_enter Tryz.func149,Tryz.ntmps149
  go_wp2
  go_region_o
  all_goals (go_wp2; go_ret; exact ⟨rfl,⟨rfl,rfl,rfl,Nat.le_refl _,fun _ _ _=>rfl⟩⟩)
 ·have hl0:l.length ≠ 0:=by simpa using h0
  have hown:=h.own
  rw [Lib.byteCells_length] at hown
  obtain ⟨g,cap,cur,rfl,_,hg,hnc,hcm,hcs,htake⟩:∃ g cap cur,v=.slice (some ⟨g,0,none⟩) l.length cap∧0≤g∧w.heap[g]? = some (.cells cur 5 (0,0))∧l.length≤cap∧cap≤maxLen∧cur.size=cap * 1∧cur.toList.take (l.length * 1)=Lib.byteCells l:=by
   rcases hown.2 with ⟨_,hz⟩ | ⟨g,cap,cur,hv,r⟩
   ·exact absurd hz hl0
   ·exact ⟨g,cap,cur,hv,r⟩
  have c1:w.drew.cell? ⟨b,1,none⟩=some (.slice (some ⟨g,0,none⟩) l.length cap):=by
   have:w.drew.heap[b]? = some (.cells #[p,.slice (some ⟨g,0,none⟩) l.length cap] 199 (0,0)):=h.blk
   rw [Lib.cell_of_heap this]; rfl
  have t83:Tryz.prog.underlying 243=some (.pointer 5):=by kernel_rfl
  have hSD:(Builtin.unsafeSliceData_ #[50] 243 #[.slice (some ⟨g,0,none⟩) l.length cap]).run Tryz.prog w.drew=.ok (.pointer (some ⟨g,0,none⟩)) w.drew:=
   Lib.run_unsafeSliceData_row _ _ _ _ _ _ (by omega)
  have hUS:(Builtin.unsafeString_ #[243,3] 9 #[.pointer (some ⟨g,0,none⟩),.int .i64 l.length]).run Tryz.prog w.drew=.ok (.string ⟨l.toArray⟩) (w.drew.freeze ⟨g,0,none⟩ l.length):=by
   refine Lib.run_unsafeString_row w.drew 243 3 9 5 t83 (by kernel_rfl) g cur.size (by have hg':w.drew.heap[g]? = some (.cells cur 5 (0,0)):=hg; simp [World.shape?,hg']) l h0 (by omega) (by unfold maxLen at hcm; omega) ?_
   intro j x hx
   exact hown.cells (g:=g) rfl j (.int .u8 x.toNat) (by simp [Lib.byteCells,hx])
  have mixed:=mixB
  go_enter Tryz.func149,Tryz.ntmps149
  go_wp2
  go_region_o
  all_goals (go_wp2; go_ret; exact ⟨rfl,⟨(freeze_os w.drew _ _).1,(freeze_os w.drew _ _).2.1,(freeze_os w.drew _ _).2.2,Nat.le_of_eq (freeze_size w.drew _ _).symm,fun k _ hk=>freeze_block w.drew g l.length k (fun e=>hk (by simp [Value.ownBlock,e]))⟩⟩)
end Go.Proofs.YtanaackimepkdaaGreatDoor.Bld
namespace Go.Proofs.YtanaackimepkdaaGreatDoor.Bld
open Go Go.Bld Go.RowKit
set_option maxHeartbeats 2000000
def eightL (n:UInt64):List UInt8:=(List.range 8).map fun i=>(Eng.shr_u64 n (8 * i)).toUInt8
theorem run19 (n:UInt64):(Eng.run1 Tryz.prog Eng.noCS (Pol.mask 169) 100 169 [.u64 n] [] Tryz.prog.globals.size).map (·.1)=some (.str (eightL n)):=by kernel_rfl
theorem eight_calls (n:UInt64) (w:World):Calls Tryz.prog 169 #[.int .u64 n.toNat] w fun e w'=>e=.returned (.string ⟨(eightL n).toArray⟩)∧Fz (.slice none 0 0) w w':=by
 have h:=Eng.callOk_val (Eng.noCS_ok _) mixB (run19 n) rfl rfl
 have hH:Eng.HRel (Eng.sig0 Tryz.prog) (Eng.aget []) w:=⟨fun n o h=>by simp [Eng.aget] at h,fun n m o o' p q h=>by simp [Eng.aget] at h⟩
 refine (h (Eng.sig0 Tryz.prog) #[.int .u64 n.toNat] [] w Tryz.prog.globals.size (.str (eightL n)) [] (.cons (.u64 n) (.nil _)) (Eng.sig0_g _) hH rfl (fun j hj=>by unfold Eng.sig0; rw [if_neg (by omega)])).mono fun e w' ⟨σ',v',he,hv,_,hf,_⟩ => ?_
 cases hv
 exact ⟨he,⟨hf.os,hf.output,hf.tape,hf.size,fun k hk _=>(hf.old k hk (fun ⟨m,o,p,a,_⟩=>by simp [Eng.aget] at a)).1⟩⟩
theorem ownsRow_lt {w:World}{v:Value}{n:Nat}{bs:List Value}(h:w.ownsRow 0 5 1 v n bs){g:Nat}(hg:v.ownBlock=some g):g < w.heap.size:=by
 rcases h.2 with ⟨rfl,_⟩ | ⟨g',cap,cur,rfl,_,hb,_⟩
 ·cases hg
 ·cases hg
  exact (Array.getElem?_eq_some_iff.1 hb).1
theorem ownsRow_keep {w w':World}{v:Value}{n:Nat}{bs:List Value}(h:w.ownsRow 0 5 1 v n bs) (hk:∀ g,v.ownBlock=some g→w'.heap[g]? = w.heap[g]?):w'.ownsRow 0 5 1 v n bs:=by
 refine ⟨h.1,?_⟩
 rcases h.2 with h2 | ⟨g,cap,cur,rfl,hg,hb,r⟩
 ·exact .inl h2
 ·exact .inr ⟨g,cap,cur,rfl,hg,(hk g rfl).trans hb,r⟩
theorem BV.keep {b:Nat}{p v:Value}{bs:List Value}{w w':World}(h:BV b p v bs w) (h1:w'.heap[b]? = w.heap[b]?) (h2:∀ g,v.ownBlock=some g→w'.heap[g]? = w.heap[g]?):BV b p v bs w':=
 ⟨h1.trans h.blk,h.self,ownsRow_keep h.own h2,h.ne,h.nil⟩
structure Two (w0:World) (b c:Nat) (p q v u:Value) (bs cs:List Value) (w:World):Prop where
 hb:BV b p v bs w
 hc:BV c q u cs w
 ne:b ≠ c
 vc:v.ownBlock ≠ some c
 ub:u.ownBlock ≠ some b
 vu:∀ g,v.ownBlock=some g→u.ownBlock ≠ some g
 nb:w0.heap.size≤b
 nc:w0.heap.size≤c
 nv:∀ g,v.ownBlock=some g→w0.heap.size≤g
 nu:∀ g,u.ownBlock=some g→w0.heap.size≤g
 fr:Fz (.slice none 0 0) w0 w
theorem Two.swap {w0:World}{b c:Nat}{p q v u:Value}{bs cs:List Value}{w:World}(h:Two w0 b c p q v u bs cs w):Two w0 c b q p u v cs bs w:=
 ⟨h.hc,h.hb,h.ne.symm,h.ub,h.vc,fun g h1 h2=>h.vu g h2 h1,h.nc,h.nb,h.nu,h.nv,h.fr⟩
theorem Two.step {w0:World}{b c:Nat}{p q v u p' v':Value}{bs cs bs':List Value}{w w':World}(h:Two w0 b c p q v u bs cs w) (hb:BV b p' v' bs' w') (hl:Lies w v v') (hf:Fr b v w w'):Two w0 b c p' q v' u bs' cs w':=by
 have hcl:=h.hc.lt
 have hs:=h.fr.size
 refine ⟨hb,h.hc.keep (hf.block c hcl h.ne.symm h.vc) (fun g hg=>hf.block g (ownsRow_lt h.hc.own hg) (fun e=>h.ub (e ▸ hg)) (fun e=>h.vu g e hg)),h.ne,?_,h.ub,?_,h.nb,h.nc,?_,h.nu,?_⟩
 ·intro e
  rcases hl c e with e1 | e1
  ·exact h.vc e1
  ·omega
 ·intro g hg hu
  rcases hl g hg with e1 | e1
  ·exact h.vu g e1 hu
  ·have:=ownsRow_lt h.hc.own hu
   omega
 ·intro g hg
  rcases hl g hg with e1 | e1
  ·exact h.nv g e1
  ·omega
 ·exact ⟨hf.os.trans h.fr.os,hf.output.trans h.fr.output,hf.tape.trans h.fr.tape,Nat.le_trans hs hf.size,fun k hk _ =>
   (hf.block k (by omega) (by have:=h.nb; omega) (fun e=>by have:=h.nv k e; omega)).trans (h.fr.block k hk (by intro e; cases e))⟩
theorem Two.calm {w0:World}{b c:Nat}{p q v u:Value}{bs cs:List Value}{w w':World}(h:Two w0 b c p q v u bs cs w) (hf:Fz (.slice none 0 0) w w'):Two w0 b c p q v u bs cs w':=by
 have k:∀ g,g < w.heap.size→w'.heap[g]? = w.heap[g]?:=fun g hg=>hf.block g hg (by intro e; cases e)
 refine ⟨h.hb.keep (k _ h.hb.lt) (fun g hg=>k g (ownsRow_lt h.hb.own hg)),h.hc.keep (k _ h.hc.lt) (fun g hg=>k g (ownsRow_lt h.hc.own hg)),h.ne,h.vc,h.ub,h.vu,h.nb,h.nc,h.nv,h.nu,?_⟩
 exact ⟨hf.os.trans h.fr.os,hf.output.trans h.fr.output,hf.tape.trans h.fr.tape,Nat.le_trans h.fr.size hf.size,fun j hj _ =>
  (k j (Nat.lt_of_lt_of_le hj h.fr.size)).trans (h.fr.block j hj (by intro e; cases e))⟩
theorem Two.read {w0:World}{b c:Nat}{p q v u:Value}{bs cs:List Value}{w w':World}(h:Two w0 b c p q v u bs cs w) (hf:Fz v w w'):BV c q u cs w'∧Fz (.slice none 0 0) w0 w':=by
 refine ⟨h.hc.keep (hf.block c h.hc.lt h.vc) (fun g hg=>hf.block g (ownsRow_lt h.hc.own hg) (fun e=>h.vu g e hg)),?_⟩
 exact ⟨hf.os.trans h.fr.os,hf.output.trans h.fr.output,hf.tape.trans h.fr.tape,Nat.le_trans h.fr.size hf.size,fun j hj _ =>
  (hf.block j (Nat.lt_of_lt_of_le hj h.fr.size) (fun e=>by have:=h.nv j e; omega)).trans (h.fr.block j hj (by intro e; cases e))⟩
theorem Two.new (w:World):Two w w.heap.size (w.heap.size+1) (.pointer none) (.pointer none) (.slice none 0 0) (.slice none 0 0) [] [] ((w.alloc (.cells #[.pointer none,.slice none 0 0] 199)).alloc (.cells #[.pointer none,.slice none 0 0] 199)):=by
 have e0:((w.alloc (.cells #[.pointer none,.slice none 0 0] 199)).alloc (.cells #[.pointer none,.slice none 0 0] 199)).heap[w.heap.size]? = some (.cells #[.pointer none,.slice none 0 0] 199 (0,0)):=by
  show ((w.heap.push _).push _)[w.heap.size]? = _
  rw [Array.getElem?_push,if_neg (by simp),Array.getElem?_push,if_pos rfl]
 have e1:((w.alloc (.cells #[.pointer none,.slice none 0 0] 199)).alloc (.cells #[.pointer none,.slice none 0 0] 199)).heap[w.heap.size+1]? = some (.cells #[.pointer none,.slice none 0 0] 199 (0,0)):=by
  show ((w.heap.push _).push _)[w.heap.size+1]? = _
  rw [Array.getElem?_push,if_pos (by simp)]
 refine ⟨⟨e0,.inl rfl,World.ownsRow_nil _ 0 5 1,(by intro e; cases e),fun _=>rfl⟩,⟨e1,.inl rfl,World.ownsRow_nil _ 0 5 1,(by intro e; cases e),fun _=>rfl⟩,by omega,by (intro e; cases e),by (intro e; cases e),(fun g e=>by cases e),Nat.le_refl _,by omega,(fun g e=>by cases e),(fun g e=>by cases e),⟨rfl,rfl,rfl,?_,fun k hk _ => ?_⟩⟩
 ·show w.heap.size≤((w.heap.push _).push _).size
  simp
  omega
 ·show ((w.heap.push _).push _)[k]? = _
  rw [Array.getElem?_push,if_neg (by simp; omega),Array.getElem?_push,if_neg (by omega)]
end Go.Proofs.YtanaackimepkdaaGreatDoor.Bld
namespace Go.Proofs.YtanaackimepkdaaGreatDoor.Bld
open Go Go.Bld Go.RowKit
set_option maxHeartbeats 4000000
theorem e36:∀ args w,(callFunc 148 args).run Tryz.prog w=.ok (.enter 148 args) w:=ents (by kernel_rfl)
theorem e37:∀ args w,(callFunc 168 args).run Tryz.prog w=.ok (.enter 168 args) w:=ents (by kernel_rfl)
theorem e38:∀ args w,(callFunc 149 args).run Tryz.prog w=.ok (.enter 149 args) w:=ents (by kernel_rfl)
theorem e19:∀ args w,(callFunc 169 args).run Tryz.prog w=.ok (.enter 169 args) w:=ents (by kernel_rfl)
theorem cell_fz {w w':World}(h:Fz (.slice none 0 0) w w'){b o:Nat}(hb:b < w.heap.size):w'.cell? ⟨b,o,none⟩=w.cell? ⟨b,o,none⟩:=by
 unfold World.cell?
 show (match w'.heap[b]? with | _=>_)=_
 rw [h.block b hb (by intro e; cases e)]
theorem eightN (n:Nat) (hn:n < 18446744073709551616) (w:World):Calls Tryz.prog 169 #[.int .u64 (n:Int)] w fun e w'=>e=.returned (.string ⟨(eightL (UInt64.ofNat n)).toArray⟩)∧Fz (.slice none 0 0) w w':=by
 have h:=eight_calls (UInt64.ofNat n) w
 have e:(UInt64.ofNat n).toNat=n:=by rw [UInt64.toNat_ofNat']; exact Nat.mod_eq_of_lt hn
 rw [e] at h
 exact h
theorem eight_len (n:UInt64):(eightL n).length=8:=by unfold eightL; simp
theorem eight_size (n:UInt64):((⟨(eightL n).toArray⟩:ByteArray)).size=8:=by show (eightL n).toArray.size=8; simp [eight_len]
theorem padI (n:Nat):∃ m:Nat,-((n:Int) % 16) % 16=(m:Int)∧(16 - n % 16) % 16=m∧m < 16:=⟨(16 - n % 16) % 16,by omega,rfl,by omega⟩
theorem Fz.of_grown {w w':World}(h:w.grownBy w' none):Fz (.slice none 0 0) w w':=⟨h.os,h.output,h.tape,h.size,fun k hk _=>h.block k hk (by intro e; cases e)⟩
def zrs (n:Nat):List Value:=Lib.byteCells (List.replicate n 0)
theorem zrs_len (n:Nat):(zrs n).length=n:=by unfold zrs; rw [Lib.byteCells_length,List.length_replicate]
theorem zrs_at {n j:Nat}{u:Value}(h:(zrs n)[j]? = some u):j < n∧u=.int .u8 0:=by
 have hj:j < n:=by rw [← zrs_len n]; exact (List.getElem?_eq_some_iff.1 h).1
 refine ⟨hj,?_⟩
 unfold zrs Lib.byteCells at h
 rw [List.getElem?_map,List.getElem?_replicate,if_pos hj] at h
 exact (Option.some.inj h).symm
theorem made_zrs (n:Nat):(madeCells (Value.int .u8 0).cells (n * 1)).toList=zrs n:=by
 have e:(Value.int IntKind.u8 0).cells = #[.int .u8 0]:=rfl
 rw [e,Nat.mul_one]
 apply List.ext_getElem
 ·rw [zrs_len]; simp [madeCells]
 ·intro i h1 h2
  have hu:=zrs_at (List.getElem?_eq_getElem h2)
  rw [hu.2]
  simp [madeCells,Nat.mod_one]
theorem made_row {w0 w w3:World}{b c:Nat}{p q v u:Value}{bs cs:List Value}{n:Nat}(T:Two w0 b c p q v u bs cs w) (hg:w.grownBy w3 none) (ho:w3.ownsRow 0 5 1 (.slice (some ⟨w.heap.size,0,none⟩) n n) n (zrs n)) (hl:bs.length+n≤1000000000) :
  Two w0 b c p q v u bs cs w3∧(Calls Tryz.prog 168 #[.pointer (some ⟨b,0,none⟩),.slice (some ⟨w.heap.size,0,none⟩) n n] w3 fun e w'=>e=.returned (.tuple #[.int .i64 n,.nilIface]) ∧
   ∃ v',BV b (.pointer (some ⟨b,0,none⟩)) v' (bs++zrs n) w'∧Lies w3 v v'∧Fr b v w3 w'):=by
 have T2:=T.calm (Fz.of_grown hg)
 have hs:w.heap.size < w3.heap.size:=ownsRow_lt ho (g:=w.heap.size) rfl
 refine ⟨T2,writeR T2.hb ⟨w.heap.size,0,none⟩ n n (zrs n) (zrs_len n) (fun j u hj=>ho.cells (g:=w.heap.size) rfl j u hj) (fun u hu => ?_) (fun e => ?_) hs hl⟩
 ·obtain ⟨j,hj⟩:=List.mem_iff_getElem?.1 hu
  rw [(zrs_at hj).2]; rfl
 ·have:=T.hb.lt
  have e':w.heap.size=b:=e
  omega
def padL (n:Nat):List UInt8:=List.replicate ((16 - n % 16) % 16) 0
def padT (a c:List UInt8):List UInt8:=a++padL a.length++c++padL c.length++(eightL (UInt64.ofNat a.length)++eightL (UInt64.ofNat c.length))
theorem str_bytes (s:ByteArray):Lib.strCells s=Lib.byteCells s.data.toList:=rfl
theorem str_eight (n:UInt64):Lib.strCells ⟨(eightL n).toArray⟩=Lib.byteCells (eightL n):=rfl
theorem size_len (s:ByteArray):s.data.toList.length=s.size:=Array.length_toList
theorem padded_calls (a c:ByteArray) (ha:a.size≤200000) (hc:c.size≤200000) (sb so cap:Nat) (w:World) (h0:w.cell? ⟨sb,so,none⟩=some (.string a)) (h1:w.cell? ⟨sb,so+1,none⟩=some (.string c)) (hsb:sb < w.heap.size) :
  Calls Tryz.prog 117 #[.slice (some ⟨sb,so,none⟩) 2 cap] w fun e w'=>e=.returned (.string ⟨(padT a.data.toList c.data.toList).toArray⟩)∧Fz (.slice none 0 0) w w':=by
 have mixed:=mixB
 have e36:=e36
 have e37:=e37
 have e38:=e38
 have e19:=e19
 obtain ⟨i0,hi,hz0,hz1,hz2⟩:=info5
 have T:=Two.new w
 go_enter Tryz.func117,Tryz.ntmps117
 go_wp2
 obtain ⟨w1,hw1⟩:∃ w1,w1=((w.alloc (.cells #[.pointer none,.slice none 0 0] 199)).alloc (.cells #[.pointer none,.slice none 0 0] 199)):=⟨_,rfl⟩
 rw [← hw1] at T ⊢
 clear hw1
 obtain ⟨b1,hb1⟩:∃ b1,b1=w.heap.size:=⟨_,rfl⟩
 obtain ⟨b2,hb2⟩:∃ b2,b2=w.heap.size+1:=⟨_,rfl⟩
 rw [← hb2] at T ⊢
 rw [← hb1] at T ⊢
 clear hb1 hb2
 have g0:w1.cell? ⟨sb,so,none⟩=some (.string a):=(cell_fz T.fr hsb).trans h0
 have g1:w1.cell? ⟨sb,so+1,none⟩=some (.string c):=(cell_fz T.fr hsb).trans h1
 refine wp_loop_rounds 3 ?_
 rw [rounds_succ]
 go_wp2_with (go_at_call 148; refine (write T.hb a (by simp [zrs_len,Lib.strCells_length]; omega)).mono ?_)
 rintro e w12 ⟨rfl,v11,H11,L11,F11⟩
 have T11:=T.step H11 L11 F11
 go_wp2
 obtain ⟨n1,hn1,hm1,hl1⟩:=padI a.size
 rw [hn1]
 obtain ⟨w13,hk1,ho1,hg1⟩:=run_make_full w12 0 50 5 i0 (.int .u8 0) 1 Tryz.underlying50 hi hz0 hz1 .i64 .i64 n1 (by rw [hz2]; omega) (by unfold maxLen; omega) (Nat.zero_le _)
 rw [made_zrs] at ho1
 rw [hk1]
 simp only [Result.andThen]
 rw [Oper.upon_value]
 obtain ⟨T12,C12⟩:=made_row T11 hg1 ho1 (by simp [zrs_len,Lib.strCells_length]; omega)
 clear hk1 hg1 ho1 hn1
 have hm1':Eng.AVal.int .i64 n1=.int .i64 ((16 - a.size % 16) % 16:Nat):=by rw [hm1]
 clear hm1
 go_wp2_with (go_at_call 168; refine C12.mono ?_)
 rintro e w14 ⟨rfl,v12,H12,L12,F12⟩
 have T13:=T12.step H12 L12 F12
 go_wp2_with (go_at_call 169; refine (eightN a.size (by omega) w14).mono ?_)
 rintro e w15 ⟨rfl,G1⟩
 have T14:=(T13.calm G1).swap
 go_wp2_with (go_at_call 148; refine (write T14.hb ⟨(eightL (UInt64.ofNat a.size)).toArray⟩ (by rw [eight_size]; simp [Lib.strCells_length,eight_size])).mono ?_)
 rintro e w16 ⟨rfl,u1,H13,L13,F13⟩
 have T15:=(T14.step H13 L13 F13).swap
 go_wp2
 have g2:w16.cell? ⟨sb,so+1,none⟩=some (.string c):=(cell_fz T15.fr hsb).trans h1
 rw [rounds_succ]
 go_wp2_with (go_at_call 148; refine (write T15.hb c (by simp [zrs_len,Lib.strCells_length]; omega)).mono ?_)
 rintro e w22 ⟨rfl,v21,H21,L21,F21⟩
 have T21:=T15.step H21 L21 F21
 go_wp2
 obtain ⟨n2,hn2,hm2,hl2⟩:=padI c.size
 rw [hn2]
 obtain ⟨w23,hk2,ho2,hg2⟩:=run_make_full w22 0 50 5 i0 (.int .u8 0) 1 Tryz.underlying50 hi hz0 hz1 .i64 .i64 n2 (by rw [hz2]; omega) (by unfold maxLen; omega) (Nat.zero_le _)
 rw [made_zrs] at ho2
 rw [hk2]
 simp only [Result.andThen]
 rw [Oper.upon_value]
 obtain ⟨T22,C22⟩:=made_row T21 hg2 ho2 (by simp [zrs_len,Lib.strCells_length]; omega)
 clear hk2 hg2 ho2 hn2
 have hm2':Eng.AVal.int .i64 n2=.int .i64 ((16 - c.size % 16) % 16:Nat):=by rw [hm2]
 clear hm2
 go_wp2_with (go_at_call 168; refine C22.mono ?_)
 rintro e w24 ⟨rfl,v22,H22,L22,F22⟩
 have T23:=T22.step H22 L22 F22
 go_wp2_with (go_at_call 169; refine (eightN c.size (by omega) w24).mono ?_)
 rintro e w25 ⟨rfl,G2⟩
 have T24:=(T23.calm G2).swap
 go_wp2_with (go_at_call 148; refine (write T24.hb ⟨(eightL (UInt64.ofNat c.size)).toArray⟩ (by rw [eight_size]; simp [Lib.strCells_length,eight_size])).mono ?_)
 rintro e w26 ⟨rfl,u2,H23,L23,F23⟩
 have T25:=(T24.step H23 L23 F23).swap
 go_wp2
 rw [rounds_succ]
 have E1:[]++Lib.strCells a++zrs n1++Lib.strCells c++zrs n2=Lib.byteCells (a.data.toList++List.replicate n1 0++c.data.toList++List.replicate n2 0):=by
  unfold zrs
  rw [str_bytes,str_bytes,List.nil_append,← Lib.byteCells_append,← Lib.byteCells_append,← Lib.byteCells_append]
 have E2:[]++Lib.strCells ⟨(eightL (UInt64.ofNat a.size)).toArray⟩++Lib.strCells ⟨(eightL (UInt64.ofNat c.size)).toArray⟩=Lib.byteCells (eightL (UInt64.ofNat a.size)++eightL (UInt64.ofNat c.size)):=by
  rw [str_eight,str_eight,List.nil_append,← Lib.byteCells_append]
 rw [E1,E2] at T25
 go_wp2_with (go_at_call 149; refine (text T25.hb).mono ?_)
 rintro e w7 ⟨rfl,Z1⟩
 obtain ⟨Y2,Z2⟩:=T25.read Z1
 go_wp2_with (go_at_call 149; refine (text Y2).mono ?_)
 rintro e w8 ⟨rfl,Z3⟩
 go_wp2
 ·rename_i hbig
  exfalso
  rw [eight_len,eight_len] at hbig
  omega
 have m1:n1=(16 - a.size % 16) % 16:=by injection hm1' with _ h; exact Int.ofNat_inj.1 h
 have m2:n2=(16 - c.size % 16) % 16:=by injection hm2' with _ h; exact Int.ofNat_inj.1 h
 have fin:Fz (.slice none 0 0) w w8:=⟨Z3.os.trans Z2.os,Z3.output.trans Z2.output,Z3.tape.trans Z2.tape,Nat.le_trans Z2.size Z3.size,fun k hk hh =>
  (Z3.block k (Nat.lt_of_lt_of_le hk Z2.size) (fun e=>by have:=T25.nu k e; omega)).trans (Z2.block k hk hh)⟩
 go_ret
 refine ⟨?_,fin⟩
 show Ending.returned (Value.string _)=_
 congr 2
 apply ByteArray.ext
 unfold padT padL
 rw [size_len,size_len,← m1,← m2,ByteArray.data_append]
 simp
end Go.Proofs.YtanaackimepkdaaGreatDoor.Bld
namespace Go.Eng
open Go
def bodyOf (f:Func):Code:=f.body.getD .skip
end Go.Eng
namespace Go.Cha
open Go Go.Eng
def rotl32 (x:UInt32) (k:Nat):UInt32:=shl_u32 x k ||| shr_u32 x (32 - k)
def quarter (x:List UInt32) (a b c d:Nat):List UInt32:=
 let x:=x.set a (x.getD a 0+x.getD b 0)
 let x:=x.set d (rotl32 (x.getD d 0 ^^^ x.getD a 0) 16)
 let x:=x.set c (x.getD c 0+x.getD d 0)
 let x:=x.set b (rotl32 (x.getD b 0 ^^^ x.getD c 0) 12)
 let x:=x.set a (x.getD a 0+x.getD b 0)
 let x:=x.set d (rotl32 (x.getD d 0 ^^^ x.getD a 0) 8)
 let x:=x.set c (x.getD c 0+x.getD d 0)
 x.set b (rotl32 (x.getD b 0 ^^^ x.getD c 0) 7)
theorem quarter_length (x:List UInt32) (a b c d:Nat):(quarter x a b c d).length=x.length:=by simp [quarter]
def dround (x:List UInt32):List UInt32:=
 let x:=quarter x 0 4 8 12
 let x:=quarter x 1 5 9 13
 let x:=quarter x 2 6 10 14
 let x:=quarter x 3 7 11 15
 let x:=quarter x 0 5 10 15
 let x:=quarter x 1 6 11 12
 let x:=quarter x 2 7 8 13
 quarter x 3 4 9 14
theorem dround_length (x:List UInt32):(dround x).length=x.length:=by simp [dround,quarter_length]
def rounds (x:List UInt32):Nat→List UInt32
 | 0=>x
 | n+1=>dround (rounds x n)
theorem rounds_length (x:List UInt32):∀ n,(rounds x n).length=x.length
 | 0=>rfl
 | n+1=>by rw [rounds,dround_length,rounds_length x n]
def word (a b c d:UInt8):UInt32:=a.toUInt32 ||| shl_u32 b.toUInt32 8 ||| shl_u32 c.toUInt32 16 ||| shl_u32 d.toUInt32 24
def wordP (a b c d:UInt8):UInt32:=0 ||| shl_u32 a.toUInt32 0 ||| shl_u32 b.toUInt32 8 ||| shl_u32 c.toUInt32 16 ||| shl_u32 d.toUInt32 24
theorem wordP_eq (a b c d:UInt8):wordP a b c d=word a b c d:=by
 have h:shl_u32 a.toUInt32 0=a.toUInt32:=by
  apply UInt32.toNat_inj.1
  simp [shl_u32,Nat.ble]
 simp only [wordP,word,h,UInt32.zero_or]
def bytesV (l:List UInt8):AVal:=.agg (l.map .u8)
def wordsOf:List UInt8→List UInt32
 | a::b::c::d::l=>word a b c d::wordsOf l
 | _=>[]
def le32 (n:UInt32):List UInt8:=[n.toUInt8,(shr_u32 n 8).toUInt8,(shr_u32 n 16).toUInt8,(shr_u32 n 24).toUInt8]
def sigma:List UInt8:=[101,120,112,97,110,100,32,51,50,45,98,121,116,101,32,107]
def seed (key nonce:List UInt8) (n:UInt32):List UInt8:=sigma++key++le32 n++nonce
def outB (x y:List UInt32):List UInt8:=(List.range 64).map fun i=>(shr_u32 (x.getD (i / 4) 0+y.getD (i / 4) 0) (8 * (i % 4))).toUInt8
def block (key nonce:List UInt8) (n:UInt32):List UInt8:=
 let x:=wordsOf (seed key nonce n)
 outB x (rounds x 10)
theorem sixteen {α:Type}{x:List α}(h:x.length=16):∃ x0 x1 x2 x3 x4 x5 x6 x7 x8 x9 x10 x11 x12 x13 x14 x15,x=[x0,x1,x2,x3,x4,x5,x6,x7,x8,x9,x10,x11,x12,x13,x14,x15]:=by
 match x,h with
 | [x0,x1,x2,x3,x4,x5,x6,x7,x8,x9,x10,x11,x12,x13,x14,x15],_=>exact ⟨_,_,_,_,_,_,_,_,_,_,_,_,_,_,_,_,rfl⟩
theorem twelve {α:Type}{x:List α}(h:x.length=12):∃ x0 x1 x2 x3 x4 x5 x6 x7 x8 x9 x10 x11,x=[x0,x1,x2,x3,x4,x5,x6,x7,x8,x9,x10,x11]:=by
 match x,h with
 | [x0,x1,x2,x3,x4,x5,x6,x7,x8,x9,x10,x11],_=>exact ⟨_,_,_,_,_,_,_,_,_,_,_,_,rfl⟩
theorem thirtytwo {α:Type}{x:List α}(h:x.length=32):∃ x0 x1 x2 x3 x4 x5 x6 x7 x8 x9 x10 x11 x12 x13 x14 x15 x16 x17 x18 x19 x20 x21 x22 x23 x24 x25 x26 x27 x28 x29 x30 x31,x=[x0,x1,x2,x3,x4,x5,x6,x7,x8,x9,x10,x11,x12,x13,x14,x15,x16,x17,x18,x19,x20,x21,x22,x23,x24,x25,x26,x27,x28,x29,x30,x31]:=by
 match x,h with
 | [x0,x1,x2,x3,x4,x5,x6,x7,x8,x9,x10,x11,x12,x13,x14,x15,x16,x17,x18,x19,x20,x21,x22,x23,x24,x25,x26,x27,x28,x29,x30,x31],_=>exact ⟨_,_,_,_,_,_,_,_,_,_,_,_,_,_,_,_,_,_,_,_,_,_,_,_,_,_,_,_,_,_,_,_,rfl⟩
end Go.Cha
namespace Go.Proofs.YtanaackimepkdaaGreatDoor.Cha
open Go Go.Eng Go.Cha
def mask:FuncId→Nat:=fun f=>match f with | 2=>0 | 3=>2129911 | 4=>328827822935742085473697743 | 5=>85402898887637169862599404710006898679 | 6=>2854843834566681067752846256398129419530534855 | 7=>20423 | 8=>7 | 9=>316912650057057350374190479295 | 10=>319194195312377417443589115 | 11=>316912952878808099609980706299 | 12=>16810239 | 13=>16810239 | 14=>31 | 15=>7 | 16=>2077 | 17=>3871 | 18=>3103 | 19=>3871 | 20=>3615 | 21=>348789426093966876810116114138679193108751 | 22=>524339 | 23=>524339 | 24=>5 | 25=>2199157509903 | 26=>1152921513232434959 | 27=>5 | 28=>562950087649239 | 29=>36893496943529034711 | 30=>33571891 | 31=>2147512701 | 32=>70368878403709 | 33=>528189 | 34=>536938557 | 35=>61 | 36=>4838064462843443614319679 | 37=>16843251 | 38=>157 | 39=>144115222574037775 | 40=>35188669153469 | 41=>131571 | 42=>157 | 43=>8796244086543 | 44=>5213233219947619063588994761098749 | 45=>563500783172639 | 46=>7 | 47=>563501857111583 | 48=>7 | 49=>23456248059229 | 50=>2319 | 51=>528499 | 52=>7 | 53=>5 | 54=>1073756403 | 55=>27 | 56=>5 | 57=>19 | 58=>15 | 59=>23456248059229 | 60=>263 | 61=>1 | 62=>1 | 63=>1 | 64=>1 | 65=>1 | 66=>1 | 67=>1 | 68=>1 | 69=>1 | 70=>4367 | 71=>9520611261530279935 | 72=>2113651 | 73=>60398112711 | 74=>549755821491 | 75=>609885634319 | 76=>528143 | 77=>14451 | 78=>5 | 79=>3 | 80=>262149 | 81=>2113651 | 82=>537005511 | 83=>324518553658426744799753561702387 | 84=>19 | 85=>783 | 86=>283602206479 | 87=>4199475 | 88=>16627 | 89=>17301533 | 90=>262195 | 91=>65669 | 92=>575 | 93=>4303411983 | 94=>8390911 | 95=>8423183 | 96=>66491 | 97=>66483 | 98=>7 | 99=>5 | 100=>138351151749653378483 | 101=>2175 | 102=>1005 | 103=>19 | 104=>1116103 | 105=>19 | 106=>157 | 107=>157 | 108=>5 | 109=>131071 | 110=>442938030551212031999 | 111=>31 | 112=>2147484479 | 113=>19 | 114=>127 | 115=>4551 | 116=>309513344275821599845253107 | 117=>2013 | 118=>8650767 | 119=>138412063 | 120=>5 | 121=>5 | 122=>138412063 | 123=>5 | 124=>5 | 125=>138009378819 | 126=>138412063 | 127=>5 | 128=>5 | 129=>19023209241239356687 | 130=>21 | 131=>1116103 | 132=>8522227 | 133=>13 | 134=>5 | 135=>5 | 136=>1151 | 137=>8959 | 138=>31 | 139=>7 | 140=>159 | 141=>39614081552298092776981266419 | 142=>590296091842272313287 | 143=>5 | 144=>157 | 145=>9690591207981026925645175 | 146=>5 | 147=>2097283 | 148=>51 | 149=>5 | 150=>5491 | 151=>307 | 152=>125 | 153=>543 | 154=>255 | 155=>6297727 | 156=>975 | 157=>7 | 158=>247 | 159=>2097335 | 160=>6442696815 | 161=>269353199 | 162=>928456800891898357834874823 | 163=>281475043836915 | 164=>95 | 165=>511 | 166=>4313087 | 167=>34359787583 | 168=>51 | 169=>125 | 170=>19 | 171=>51 | 172=>983347 | 173=>7283 | 174=>983347 | 175=>7283 | 176=>549902614547 | 177=>983347 | 178=>7283 | 179=>77 | 180=>5 | 181=>19816712040022917843543179263 | 182=>95 | 183=>4125 | 184=>39 | 185=>1050743 | 186=>33267 | 187=>9671406628976826459979775 | 188=>4503599627442175 | 189=>2147516543 | 190=>5 | 191=>1087 | 192=>4211 | 193=>23 | 194=>77 | 195=>17188391667 | 196=>524353 | 197=>19 | 198=>21 | 199=>13 | 200=>2923003971560093291123168138537876760321514930163 | 201=>20426010943356750102455122975 | 202=>13 | 203=>247 | 204=>16371 | 206=>116767 | 207=>1073742391 | 208=>8519923 | 209=>5 | 210=>4722366487267960168391 | 211=>65727 | 212=>39 | 213=>1535 | 216=>5 | 217=>16661 | 218=>13 | 219=>5 | 220=>5 | 221=>132039 | 222=>51 | 223=>983347 | 224=>1 | 225=>45671926166590716193865151621903026828528189215 | 226=>21 | 227=>21 | 228=>1099511758963 | 229=>34029619 | 230=>25769836669 | 231=>262781 | 232=>16639 | 233=>1 | 234=>2090694862423093148849536486400876297056199 | 235=>19 | 236=>129087 | 263=>0 | _=>0
theorem hmix:Tryz.prog.follows .mixedOrders=true:=by kernel_rfl
noncomputable def cs0:CS:=inl Tryz.prog mask 100 noCS 3
theorem cs0_ok:CSOk Tryz.prog cs0:=inl_ok hmix (noCS_ok _) 3
theorem rq0 (x0 x1 x2 x3 x4 x5 x6 x7 x8 x9 x10 x11 x12 x13 x14 x15:UInt32):(run1 Tryz.prog cs0 (mask 191) 100 191 [.agg ([x0,x1,x2,x3,x4,x5,x6,x7,x8,x9,x10,x11,x12,x13,x14,x15].map .u32),.int .i64 0,.int .i64 4,.int .i64 8,.int .i64 12] [] Tryz.prog.globals.size).map (·.1)=some (.agg ((quarter [x0,x1,x2,x3,x4,x5,x6,x7,x8,x9,x10,x11,x12,x13,x14,x15] 0 4 8 12).map .u32)):=by kernel_rfl
theorem pq0 (x0 x1 x2 x3 x4 x5 x6 x7 x8 x9 x10 x11 x12 x13 x14 x15:UInt32):(run1 Tryz.prog cs0 (mask 206) 100 206 [.ptr Tryz.prog.globals.size 0,.int .i64 0,.int .i64 4,.int .i64 8,.int .i64 12] [(Tryz.prog.globals.size,.cells false ([x0,x1,x2,x3,x4,x5,x6,x7,x8,x9,x10,x11,x12,x13,x14,x15].map .u32))] (Tryz.prog.globals.size+1)).map (fun r=>(r.1,aget r.2.1 Tryz.prog.globals.size))=some (.tup [],some (.cells false ((quarter [x0,x1,x2,x3,x4,x5,x6,x7,x8,x9,x10,x11,x12,x13,x14,x15] 0 4 8 12).map .u32))):=by kernel_rfl
theorem rq1 (x0 x1 x2 x3 x4 x5 x6 x7 x8 x9 x10 x11 x12 x13 x14 x15:UInt32):(run1 Tryz.prog cs0 (mask 191) 100 191 [.agg ([x0,x1,x2,x3,x4,x5,x6,x7,x8,x9,x10,x11,x12,x13,x14,x15].map .u32),.int .i64 1,.int .i64 5,.int .i64 9,.int .i64 13] [] Tryz.prog.globals.size).map (·.1)=some (.agg ((quarter [x0,x1,x2,x3,x4,x5,x6,x7,x8,x9,x10,x11,x12,x13,x14,x15] 1 5 9 13).map .u32)):=by kernel_rfl
theorem pq1 (x0 x1 x2 x3 x4 x5 x6 x7 x8 x9 x10 x11 x12 x13 x14 x15:UInt32):(run1 Tryz.prog cs0 (mask 206) 100 206 [.ptr Tryz.prog.globals.size 0,.int .i64 1,.int .i64 5,.int .i64 9,.int .i64 13] [(Tryz.prog.globals.size,.cells false ([x0,x1,x2,x3,x4,x5,x6,x7,x8,x9,x10,x11,x12,x13,x14,x15].map .u32))] (Tryz.prog.globals.size+1)).map (fun r=>(r.1,aget r.2.1 Tryz.prog.globals.size))=some (.tup [],some (.cells false ((quarter [x0,x1,x2,x3,x4,x5,x6,x7,x8,x9,x10,x11,x12,x13,x14,x15] 1 5 9 13).map .u32))):=by kernel_rfl
theorem rq2 (x0 x1 x2 x3 x4 x5 x6 x7 x8 x9 x10 x11 x12 x13 x14 x15:UInt32):(run1 Tryz.prog cs0 (mask 191) 100 191 [.agg ([x0,x1,x2,x3,x4,x5,x6,x7,x8,x9,x10,x11,x12,x13,x14,x15].map .u32),.int .i64 2,.int .i64 6,.int .i64 10,.int .i64 14] [] Tryz.prog.globals.size).map (·.1)=some (.agg ((quarter [x0,x1,x2,x3,x4,x5,x6,x7,x8,x9,x10,x11,x12,x13,x14,x15] 2 6 10 14).map .u32)):=by kernel_rfl
theorem pq2 (x0 x1 x2 x3 x4 x5 x6 x7 x8 x9 x10 x11 x12 x13 x14 x15:UInt32):(run1 Tryz.prog cs0 (mask 206) 100 206 [.ptr Tryz.prog.globals.size 0,.int .i64 2,.int .i64 6,.int .i64 10,.int .i64 14] [(Tryz.prog.globals.size,.cells false ([x0,x1,x2,x3,x4,x5,x6,x7,x8,x9,x10,x11,x12,x13,x14,x15].map .u32))] (Tryz.prog.globals.size+1)).map (fun r=>(r.1,aget r.2.1 Tryz.prog.globals.size))=some (.tup [],some (.cells false ((quarter [x0,x1,x2,x3,x4,x5,x6,x7,x8,x9,x10,x11,x12,x13,x14,x15] 2 6 10 14).map .u32))):=by kernel_rfl
theorem rq3 (x0 x1 x2 x3 x4 x5 x6 x7 x8 x9 x10 x11 x12 x13 x14 x15:UInt32):(run1 Tryz.prog cs0 (mask 191) 100 191 [.agg ([x0,x1,x2,x3,x4,x5,x6,x7,x8,x9,x10,x11,x12,x13,x14,x15].map .u32),.int .i64 3,.int .i64 7,.int .i64 11,.int .i64 15] [] Tryz.prog.globals.size).map (·.1)=some (.agg ((quarter [x0,x1,x2,x3,x4,x5,x6,x7,x8,x9,x10,x11,x12,x13,x14,x15] 3 7 11 15).map .u32)):=by kernel_rfl
theorem pq3 (x0 x1 x2 x3 x4 x5 x6 x7 x8 x9 x10 x11 x12 x13 x14 x15:UInt32):(run1 Tryz.prog cs0 (mask 206) 100 206 [.ptr Tryz.prog.globals.size 0,.int .i64 3,.int .i64 7,.int .i64 11,.int .i64 15] [(Tryz.prog.globals.size,.cells false ([x0,x1,x2,x3,x4,x5,x6,x7,x8,x9,x10,x11,x12,x13,x14,x15].map .u32))] (Tryz.prog.globals.size+1)).map (fun r=>(r.1,aget r.2.1 Tryz.prog.globals.size))=some (.tup [],some (.cells false ((quarter [x0,x1,x2,x3,x4,x5,x6,x7,x8,x9,x10,x11,x12,x13,x14,x15] 3 7 11 15).map .u32))):=by kernel_rfl
theorem rq4 (x0 x1 x2 x3 x4 x5 x6 x7 x8 x9 x10 x11 x12 x13 x14 x15:UInt32):(run1 Tryz.prog cs0 (mask 191) 100 191 [.agg ([x0,x1,x2,x3,x4,x5,x6,x7,x8,x9,x10,x11,x12,x13,x14,x15].map .u32),.int .i64 0,.int .i64 5,.int .i64 10,.int .i64 15] [] Tryz.prog.globals.size).map (·.1)=some (.agg ((quarter [x0,x1,x2,x3,x4,x5,x6,x7,x8,x9,x10,x11,x12,x13,x14,x15] 0 5 10 15).map .u32)):=by kernel_rfl
theorem pq4 (x0 x1 x2 x3 x4 x5 x6 x7 x8 x9 x10 x11 x12 x13 x14 x15:UInt32):(run1 Tryz.prog cs0 (mask 206) 100 206 [.ptr Tryz.prog.globals.size 0,.int .i64 0,.int .i64 5,.int .i64 10,.int .i64 15] [(Tryz.prog.globals.size,.cells false ([x0,x1,x2,x3,x4,x5,x6,x7,x8,x9,x10,x11,x12,x13,x14,x15].map .u32))] (Tryz.prog.globals.size+1)).map (fun r=>(r.1,aget r.2.1 Tryz.prog.globals.size))=some (.tup [],some (.cells false ((quarter [x0,x1,x2,x3,x4,x5,x6,x7,x8,x9,x10,x11,x12,x13,x14,x15] 0 5 10 15).map .u32))):=by kernel_rfl
theorem rq5 (x0 x1 x2 x3 x4 x5 x6 x7 x8 x9 x10 x11 x12 x13 x14 x15:UInt32):(run1 Tryz.prog cs0 (mask 191) 100 191 [.agg ([x0,x1,x2,x3,x4,x5,x6,x7,x8,x9,x10,x11,x12,x13,x14,x15].map .u32),.int .i64 1,.int .i64 6,.int .i64 11,.int .i64 12] [] Tryz.prog.globals.size).map (·.1)=some (.agg ((quarter [x0,x1,x2,x3,x4,x5,x6,x7,x8,x9,x10,x11,x12,x13,x14,x15] 1 6 11 12).map .u32)):=by kernel_rfl
theorem pq5 (x0 x1 x2 x3 x4 x5 x6 x7 x8 x9 x10 x11 x12 x13 x14 x15:UInt32):(run1 Tryz.prog cs0 (mask 206) 100 206 [.ptr Tryz.prog.globals.size 0,.int .i64 1,.int .i64 6,.int .i64 11,.int .i64 12] [(Tryz.prog.globals.size,.cells false ([x0,x1,x2,x3,x4,x5,x6,x7,x8,x9,x10,x11,x12,x13,x14,x15].map .u32))] (Tryz.prog.globals.size+1)).map (fun r=>(r.1,aget r.2.1 Tryz.prog.globals.size))=some (.tup [],some (.cells false ((quarter [x0,x1,x2,x3,x4,x5,x6,x7,x8,x9,x10,x11,x12,x13,x14,x15] 1 6 11 12).map .u32))):=by kernel_rfl
theorem rq6 (x0 x1 x2 x3 x4 x5 x6 x7 x8 x9 x10 x11 x12 x13 x14 x15:UInt32):(run1 Tryz.prog cs0 (mask 191) 100 191 [.agg ([x0,x1,x2,x3,x4,x5,x6,x7,x8,x9,x10,x11,x12,x13,x14,x15].map .u32),.int .i64 2,.int .i64 7,.int .i64 8,.int .i64 13] [] Tryz.prog.globals.size).map (·.1)=some (.agg ((quarter [x0,x1,x2,x3,x4,x5,x6,x7,x8,x9,x10,x11,x12,x13,x14,x15] 2 7 8 13).map .u32)):=by kernel_rfl
theorem pq6 (x0 x1 x2 x3 x4 x5 x6 x7 x8 x9 x10 x11 x12 x13 x14 x15:UInt32):(run1 Tryz.prog cs0 (mask 206) 100 206 [.ptr Tryz.prog.globals.size 0,.int .i64 2,.int .i64 7,.int .i64 8,.int .i64 13] [(Tryz.prog.globals.size,.cells false ([x0,x1,x2,x3,x4,x5,x6,x7,x8,x9,x10,x11,x12,x13,x14,x15].map .u32))] (Tryz.prog.globals.size+1)).map (fun r=>(r.1,aget r.2.1 Tryz.prog.globals.size))=some (.tup [],some (.cells false ((quarter [x0,x1,x2,x3,x4,x5,x6,x7,x8,x9,x10,x11,x12,x13,x14,x15] 2 7 8 13).map .u32))):=by kernel_rfl
theorem rq7 (x0 x1 x2 x3 x4 x5 x6 x7 x8 x9 x10 x11 x12 x13 x14 x15:UInt32):(run1 Tryz.prog cs0 (mask 191) 100 191 [.agg ([x0,x1,x2,x3,x4,x5,x6,x7,x8,x9,x10,x11,x12,x13,x14,x15].map .u32),.int .i64 3,.int .i64 4,.int .i64 9,.int .i64 14] [] Tryz.prog.globals.size).map (·.1)=some (.agg ((quarter [x0,x1,x2,x3,x4,x5,x6,x7,x8,x9,x10,x11,x12,x13,x14,x15] 3 4 9 14).map .u32)):=by kernel_rfl
theorem pq7 (x0 x1 x2 x3 x4 x5 x6 x7 x8 x9 x10 x11 x12 x13 x14 x15:UInt32):(run1 Tryz.prog cs0 (mask 206) 100 206 [.ptr Tryz.prog.globals.size 0,.int .i64 3,.int .i64 4,.int .i64 9,.int .i64 14] [(Tryz.prog.globals.size,.cells false ([x0,x1,x2,x3,x4,x5,x6,x7,x8,x9,x10,x11,x12,x13,x14,x15].map .u32))] (Tryz.prog.globals.size+1)).map (fun r=>(r.1,aget r.2.1 Tryz.prog.globals.size))=some (.tup [],some (.cells false ((quarter [x0,x1,x2,x3,x4,x5,x6,x7,x8,x9,x10,x11,x12,x13,x14,x15] 3 4 9 14).map .u32))):=by kernel_rfl
def okq:Int→Int→Int→Int→Bool
 | 0,4,8,12=>true
 | 1,5,9,13=>true
 | 2,6,10,14=>true
 | 3,7,11,15=>true
 | 0,5,10,15=>true
 | 1,6,11,12=>true
 | 2,7,8,13=>true
 | 3,4,9,14=>true
 | _,_,_,_=>false
theorem okq_cases {a b c d:Int}(h:okq a b c d=true):(a=0∧b=4∧c=8∧d=12) ∨ (a=1∧b=5∧c=9∧d=13) ∨ (a=2∧b=6∧c=10∧d=14) ∨ (a=3∧b=7∧c=11∧d=15) ∨ (a=0∧b=5∧c=10∧d=15) ∨ (a=1∧b=6∧c=11∧d=12) ∨ (a=2∧b=7∧c=8∧d=13) ∨ (a=3∧b=4∧c=9∧d=14):=by
 unfold okq at h
 split at h <;> first | (cases h; done) | simp
theorem okMap {α β:Type}{x:Option α}{g:α→β}{y:β}(h:x.map g=some y):∃ r,x=some r∧g r=y:=by
 cases x with
 | none=>cases h
 | some r=>exact ⟨r,rfl,Option.some.inj h⟩
theorem rq_any {x:List UInt32}(hx:x.length=16){a b c d:Int}(h:okq a b c d=true):∃ r,run1 Tryz.prog cs0 (mask 191) 100 191 [.agg (x.map .u32),.int .i64 a,.int .i64 b,.int .i64 c,.int .i64 d] [] Tryz.prog.globals.size=some r∧r.1=.agg ((quarter x a.toNat b.toNat c.toNat d.toNat).map .u32):=by
 obtain ⟨x0,x1,x2,x3,x4,x5,x6,x7,x8,x9,x10,x11,x12,x13,x14,x15,rfl⟩:=sixteen hx
 rcases okq_cases h with ⟨rfl,rfl,rfl,rfl⟩ | ⟨rfl,rfl,rfl,rfl⟩ | ⟨rfl,rfl,rfl,rfl⟩ | ⟨rfl,rfl,rfl,rfl⟩ | ⟨rfl,rfl,rfl,rfl⟩ | ⟨rfl,rfl,rfl,rfl⟩ | ⟨rfl,rfl,rfl,rfl⟩ | ⟨rfl,rfl,rfl,rfl⟩
 ·exact okMap (rq0 x0 x1 x2 x3 x4 x5 x6 x7 x8 x9 x10 x11 x12 x13 x14 x15)
 ·exact okMap (rq1 x0 x1 x2 x3 x4 x5 x6 x7 x8 x9 x10 x11 x12 x13 x14 x15)
 ·exact okMap (rq2 x0 x1 x2 x3 x4 x5 x6 x7 x8 x9 x10 x11 x12 x13 x14 x15)
 ·exact okMap (rq3 x0 x1 x2 x3 x4 x5 x6 x7 x8 x9 x10 x11 x12 x13 x14 x15)
 ·exact okMap (rq4 x0 x1 x2 x3 x4 x5 x6 x7 x8 x9 x10 x11 x12 x13 x14 x15)
 ·exact okMap (rq5 x0 x1 x2 x3 x4 x5 x6 x7 x8 x9 x10 x11 x12 x13 x14 x15)
 ·exact okMap (rq6 x0 x1 x2 x3 x4 x5 x6 x7 x8 x9 x10 x11 x12 x13 x14 x15)
 ·exact okMap (rq7 x0 x1 x2 x3 x4 x5 x6 x7 x8 x9 x10 x11 x12 x13 x14 x15)
theorem pq_any {x:List UInt32}(hx:x.length=16){a b c d:Int}(h:okq a b c d=true):∃ r,run1 Tryz.prog cs0 (mask 206) 100 206 [.ptr Tryz.prog.globals.size 0,.int .i64 a,.int .i64 b,.int .i64 c,.int .i64 d] [(Tryz.prog.globals.size,.cells false (x.map .u32))] (Tryz.prog.globals.size+1)=some r∧(r.1,aget r.2.1 Tryz.prog.globals.size)=(.tup [],some (.cells false ((quarter x a.toNat b.toNat c.toNat d.toNat).map .u32))):=by
 obtain ⟨x0,x1,x2,x3,x4,x5,x6,x7,x8,x9,x10,x11,x12,x13,x14,x15,rfl⟩:=sixteen hx
 rcases okq_cases h with ⟨rfl,rfl,rfl,rfl⟩ | ⟨rfl,rfl,rfl,rfl⟩ | ⟨rfl,rfl,rfl,rfl⟩ | ⟨rfl,rfl,rfl,rfl⟩ | ⟨rfl,rfl,rfl,rfl⟩ | ⟨rfl,rfl,rfl,rfl⟩ | ⟨rfl,rfl,rfl,rfl⟩ | ⟨rfl,rfl,rfl,rfl⟩
 ·exact okMap (pq0 x0 x1 x2 x3 x4 x5 x6 x7 x8 x9 x10 x11 x12 x13 x14 x15)
 ·exact okMap (pq1 x0 x1 x2 x3 x4 x5 x6 x7 x8 x9 x10 x11 x12 x13 x14 x15)
 ·exact okMap (pq2 x0 x1 x2 x3 x4 x5 x6 x7 x8 x9 x10 x11 x12 x13 x14 x15)
 ·exact okMap (pq3 x0 x1 x2 x3 x4 x5 x6 x7 x8 x9 x10 x11 x12 x13 x14 x15)
 ·exact okMap (pq4 x0 x1 x2 x3 x4 x5 x6 x7 x8 x9 x10 x11 x12 x13 x14 x15)
 ·exact okMap (pq5 x0 x1 x2 x3 x4 x5 x6 x7 x8 x9 x10 x11 x12 x13 x14 x15)
 ·exact okMap (pq6 x0 x1 x2 x3 x4 x5 x6 x7 x8 x9 x10 x11 x12 x13 x14 x15)
 ·exact okMap (pq7 x0 x1 x2 x3 x4 x5 x6 x7 x8 x9 x10 x11 x12 x13 x14 x15)
def q15 (c:List AVal) (a b c' d:Int):Option EffA:=
 match words32 c with
 | some x=>cond (Nat.beq x.length 16 && okq a b c' d) (some (.pure (.agg ((quarter x a.toNat b.toNat c'.toNat d.toNat).map .u32)))) none
 | none=>none
def q17 (n:Nat) (a b c d:Int):EffA:=
 .eff fun _ η=>match η n with
  | some (.cells false cs)=>match words32 cs with
   | some x=>cond (Nat.beq x.length 16 && okq a b c d) (some (.tup [],[(n,some (.cells false ((quarter x a.toNat b.toNat c.toNat d.toNat).map .u32)))])) none
   | none=>none
  | _=>none
def csQ:CS:=fun f args=>match Nat.beq f 191 with
 | true=>match args with
  | [.agg c,.int .i64 a,.int .i64 b,.int .i64 c',.int .i64 d]=>q15 c a b c' d
  | _=>none
 | false=>match Nat.beq f 206 with
  | true=>match args with
   | [.ptr n 0,.int .i64 a,.int .i64 b,.int .i64 c',.int .i64 d]=>some (q17 n a b c' d)
   | _=>none
  | false=>none
theorem csQ_ok:CSOk Tryz.prog csQ:=by
 intro f args e h
 unfold csQ at h
 split at h
 ·rename_i hf
  have hf:=Nat.eq_of_beq_eq_true hf
  subst hf
  split at h
  ·rename_i c a b c' d
   unfold q15 at h
   split at h
   ·rename_i x hx
    cases hb:(Nat.beq x.length 16 && okq a b c' d) <;> rw [hb] at h <;> simp only [cond_true,cond_false,Option.some.injEq] at h
    ·cases h
    ·subst h
     simp only [Bool.and_eq_true] at hb
     have hl:=Nat.eq_of_beq_eq_true hb.1
     rw [words32_eq hx]
     obtain ⟨r,h1,h2⟩:=rq_any hl hb.2
     rw [← h2]
     refine callOk_run cs0_ok hmix h1 ?_ ?_
     ·simp only [allV,ltV,ltL_u32,ltS,cond_true]
     ·rw [h2]; exact ltL_u32 0 _
   ·cases h
  ·cases h
 ·split at h
  ·rename_i hf
   have hf:=Nat.eq_of_beq_eq_true hf
   subst hf
   split at h
   ·rename_i n a b c d
    cases h
    refine (callOk_blk cs0_ok hmix (nn:=mask 206) (F:=100) (f:=206) (n:=n) (off:=0) (rest:=[.int .i64 a,.int .i64 b,.int .i64 c,.int .i64 d]) rfl).less fun base H r hr => ?_
    simp only [q17,EffA.app] at hr
    cases hn:aget H n with
    | none=>rw [hn] at hr; cases hr
    | some ob =>
     rw [hn] at hr
     cases ob with
     | mp _=>cases hr
     | cells ro cs =>
      cases ro with
      | true=>cases hr
      | false =>
       simp only at hr
       cases hx:words32 cs with
       | none=>rw [hx] at hr; cases hr
       | some x =>
        rw [hx] at hr
        simp only at hr
        cases hb:(Nat.beq x.length 16 && okq a b c d) <;> rw [hb] at hr <;> simp only [cond_true,cond_false,appU] at hr
        ·cases hr
        ·cases hr
         simp only [Bool.and_eq_true] at hb
         have hl:=Nat.eq_of_beq_eq_true hb.1
         obtain ⟨r,h1,h2⟩:=pq_any hl hb.2
         rw [Prod.mk.injEq] at h2
         have hcs:=words32_eq hx
         subst hcs
         exact blkE_app hn (ltL_u32 0 x) h1 h2.1 h2.2 rfl (ltL_u32 0 _)
   ·cases h
  ·cases h
noncomputable def cs1:CS:=inl Tryz.prog mask 100 csQ 3
theorem cs1_ok:CSOk Tryz.prog cs1:=inl_ok hmix csQ_ok 3
end Go.Proofs.YtanaackimepkdaaGreatDoor.Cha
namespace Go.Proofs.YtanaackimepkdaaGreatDoor.Cha
open Go Go.Eng Go.Cha
noncomputable def p9:List Code:=pieces (bodyOf Tryz.f142)
noncomputable def b9:Code:=loopOf (p9.getD 7 .skip)
def I9 (key nonce all:List UInt8) (n:UInt32) (a0 a1 a2 a3:UInt8) (x0 x1 x2 x3 x4 x5 x6 x7 x8 x9 x10 x11 x12 x13 x14 x15:UInt32) (k:Nat) (y:List UInt32):SA:=⟨[(0,.str key),(1,.str nonce),(2,.u32 n),(6,.str []),(7,.str all),(8,.ptr 165 0),(9,.int .i64 16),(33,.bool false),(10,.ptr 205 0),(11,.int .i64 k)],[(117,.cells false [.u8 a0,.u8 a1,.u8 a2,.u8 a3]),(165,.cells false ([x0,x1,x2,x3,x4,x5,x6,x7,x8,x9,x10,x11,x12,x13,x14,x15].map .u32)),(205,.cells false (y.map .u32))],229⟩
def J9 (key nonce all:List UInt8) (n:UInt32) (a0 a1 a2 a3:UInt8) (x0 x1 x2 x3 x4 x5 x6 x7 x8 x9 x10 x11 x12 x13 x14 x15:UInt32) (y:List UInt32):SA:=⟨[(0,.str key),(1,.str nonce),(2,.u32 n),(6,.str []),(7,.str all),(8,.ptr 165 0),(9,.int .i64 16),(33,.bool false),(10,.ptr 205 0),(11,.int .i64 10),(48,.bool false)],[(117,.cells false [.u8 a0,.u8 a1,.u8 a2,.u8 a3]),(165,.cells false ([x0,x1,x2,x3,x4,x5,x6,x7,x8,x9,x10,x11,x12,x13,x14,x15].map .u32)),(205,.cells false (y.map .u32))],245⟩
theorem r9_0 (key nonce all:List UInt8) (n:UInt32) (a0 a1 a2 a3:UInt8) (x0 x1 x2 x3 x4 x5 x6 x7 x8 x9 x10 x11 x12 x13 x14 x15:UInt32) (y0 y1 y2 y3 y4 y5 y6 y7 y8 y9 y10 y11 y12 y13 y14 y15:UInt32):roundA (evC Tryz.prog cs1 Tryz.f142.ntmps (mask 142) 100 Tryz.prog.globals.size b9) (headA Tryz.prog Tryz.prog.globals.size (I9 key nonce all n a0 a1 a2 a3 x0 x1 x2 x3 x4 x5 x6 x7 x8 x9 x10 x11 x12 x13 x14 x15 0 (rounds [x0,x1,x2,x3,x4,x5,x6,x7,x8,x9,x10,x11,x12,x13,x14,x15] 0))) (I9 key nonce all n a0 a1 a2 a3 x0 x1 x2 x3 x4 x5 x6 x7 x8 x9 x10 x11 x12 x13 x14 x15 0 [y0,y1,y2,y3,y4,y5,y6,y7,y8,y9,y10,y11,y12,y13,y14,y15])=some (I9 key nonce all n a0 a1 a2 a3 x0 x1 x2 x3 x4 x5 x6 x7 x8 x9 x10 x11 x12 x13 x14 x15 1 (dround [y0,y1,y2,y3,y4,y5,y6,y7,y8,y9,y10,y11,y12,y13,y14,y15])):=by kernel_rfl
theorem r9_1 (key nonce all:List UInt8) (n:UInt32) (a0 a1 a2 a3:UInt8) (x0 x1 x2 x3 x4 x5 x6 x7 x8 x9 x10 x11 x12 x13 x14 x15:UInt32) (y0 y1 y2 y3 y4 y5 y6 y7 y8 y9 y10 y11 y12 y13 y14 y15:UInt32):roundA (evC Tryz.prog cs1 Tryz.f142.ntmps (mask 142) 100 Tryz.prog.globals.size b9) (headA Tryz.prog Tryz.prog.globals.size (I9 key nonce all n a0 a1 a2 a3 x0 x1 x2 x3 x4 x5 x6 x7 x8 x9 x10 x11 x12 x13 x14 x15 0 (rounds [x0,x1,x2,x3,x4,x5,x6,x7,x8,x9,x10,x11,x12,x13,x14,x15] 0))) (I9 key nonce all n a0 a1 a2 a3 x0 x1 x2 x3 x4 x5 x6 x7 x8 x9 x10 x11 x12 x13 x14 x15 1 [y0,y1,y2,y3,y4,y5,y6,y7,y8,y9,y10,y11,y12,y13,y14,y15])=some (I9 key nonce all n a0 a1 a2 a3 x0 x1 x2 x3 x4 x5 x6 x7 x8 x9 x10 x11 x12 x13 x14 x15 2 (dround [y0,y1,y2,y3,y4,y5,y6,y7,y8,y9,y10,y11,y12,y13,y14,y15])):=by kernel_rfl
theorem r9_2 (key nonce all:List UInt8) (n:UInt32) (a0 a1 a2 a3:UInt8) (x0 x1 x2 x3 x4 x5 x6 x7 x8 x9 x10 x11 x12 x13 x14 x15:UInt32) (y0 y1 y2 y3 y4 y5 y6 y7 y8 y9 y10 y11 y12 y13 y14 y15:UInt32):roundA (evC Tryz.prog cs1 Tryz.f142.ntmps (mask 142) 100 Tryz.prog.globals.size b9) (headA Tryz.prog Tryz.prog.globals.size (I9 key nonce all n a0 a1 a2 a3 x0 x1 x2 x3 x4 x5 x6 x7 x8 x9 x10 x11 x12 x13 x14 x15 0 (rounds [x0,x1,x2,x3,x4,x5,x6,x7,x8,x9,x10,x11,x12,x13,x14,x15] 0))) (I9 key nonce all n a0 a1 a2 a3 x0 x1 x2 x3 x4 x5 x6 x7 x8 x9 x10 x11 x12 x13 x14 x15 2 [y0,y1,y2,y3,y4,y5,y6,y7,y8,y9,y10,y11,y12,y13,y14,y15])=some (I9 key nonce all n a0 a1 a2 a3 x0 x1 x2 x3 x4 x5 x6 x7 x8 x9 x10 x11 x12 x13 x14 x15 3 (dround [y0,y1,y2,y3,y4,y5,y6,y7,y8,y9,y10,y11,y12,y13,y14,y15])):=by kernel_rfl
theorem r9_3 (key nonce all:List UInt8) (n:UInt32) (a0 a1 a2 a3:UInt8) (x0 x1 x2 x3 x4 x5 x6 x7 x8 x9 x10 x11 x12 x13 x14 x15:UInt32) (y0 y1 y2 y3 y4 y5 y6 y7 y8 y9 y10 y11 y12 y13 y14 y15:UInt32):roundA (evC Tryz.prog cs1 Tryz.f142.ntmps (mask 142) 100 Tryz.prog.globals.size b9) (headA Tryz.prog Tryz.prog.globals.size (I9 key nonce all n a0 a1 a2 a3 x0 x1 x2 x3 x4 x5 x6 x7 x8 x9 x10 x11 x12 x13 x14 x15 0 (rounds [x0,x1,x2,x3,x4,x5,x6,x7,x8,x9,x10,x11,x12,x13,x14,x15] 0))) (I9 key nonce all n a0 a1 a2 a3 x0 x1 x2 x3 x4 x5 x6 x7 x8 x9 x10 x11 x12 x13 x14 x15 3 [y0,y1,y2,y3,y4,y5,y6,y7,y8,y9,y10,y11,y12,y13,y14,y15])=some (I9 key nonce all n a0 a1 a2 a3 x0 x1 x2 x3 x4 x5 x6 x7 x8 x9 x10 x11 x12 x13 x14 x15 4 (dround [y0,y1,y2,y3,y4,y5,y6,y7,y8,y9,y10,y11,y12,y13,y14,y15])):=by kernel_rfl
theorem r9_4 (key nonce all:List UInt8) (n:UInt32) (a0 a1 a2 a3:UInt8) (x0 x1 x2 x3 x4 x5 x6 x7 x8 x9 x10 x11 x12 x13 x14 x15:UInt32) (y0 y1 y2 y3 y4 y5 y6 y7 y8 y9 y10 y11 y12 y13 y14 y15:UInt32):roundA (evC Tryz.prog cs1 Tryz.f142.ntmps (mask 142) 100 Tryz.prog.globals.size b9) (headA Tryz.prog Tryz.prog.globals.size (I9 key nonce all n a0 a1 a2 a3 x0 x1 x2 x3 x4 x5 x6 x7 x8 x9 x10 x11 x12 x13 x14 x15 0 (rounds [x0,x1,x2,x3,x4,x5,x6,x7,x8,x9,x10,x11,x12,x13,x14,x15] 0))) (I9 key nonce all n a0 a1 a2 a3 x0 x1 x2 x3 x4 x5 x6 x7 x8 x9 x10 x11 x12 x13 x14 x15 4 [y0,y1,y2,y3,y4,y5,y6,y7,y8,y9,y10,y11,y12,y13,y14,y15])=some (I9 key nonce all n a0 a1 a2 a3 x0 x1 x2 x3 x4 x5 x6 x7 x8 x9 x10 x11 x12 x13 x14 x15 5 (dround [y0,y1,y2,y3,y4,y5,y6,y7,y8,y9,y10,y11,y12,y13,y14,y15])):=by kernel_rfl
theorem r9_5 (key nonce all:List UInt8) (n:UInt32) (a0 a1 a2 a3:UInt8) (x0 x1 x2 x3 x4 x5 x6 x7 x8 x9 x10 x11 x12 x13 x14 x15:UInt32) (y0 y1 y2 y3 y4 y5 y6 y7 y8 y9 y10 y11 y12 y13 y14 y15:UInt32):roundA (evC Tryz.prog cs1 Tryz.f142.ntmps (mask 142) 100 Tryz.prog.globals.size b9) (headA Tryz.prog Tryz.prog.globals.size (I9 key nonce all n a0 a1 a2 a3 x0 x1 x2 x3 x4 x5 x6 x7 x8 x9 x10 x11 x12 x13 x14 x15 0 (rounds [x0,x1,x2,x3,x4,x5,x6,x7,x8,x9,x10,x11,x12,x13,x14,x15] 0))) (I9 key nonce all n a0 a1 a2 a3 x0 x1 x2 x3 x4 x5 x6 x7 x8 x9 x10 x11 x12 x13 x14 x15 5 [y0,y1,y2,y3,y4,y5,y6,y7,y8,y9,y10,y11,y12,y13,y14,y15])=some (I9 key nonce all n a0 a1 a2 a3 x0 x1 x2 x3 x4 x5 x6 x7 x8 x9 x10 x11 x12 x13 x14 x15 6 (dround [y0,y1,y2,y3,y4,y5,y6,y7,y8,y9,y10,y11,y12,y13,y14,y15])):=by kernel_rfl
theorem r9_6 (key nonce all:List UInt8) (n:UInt32) (a0 a1 a2 a3:UInt8) (x0 x1 x2 x3 x4 x5 x6 x7 x8 x9 x10 x11 x12 x13 x14 x15:UInt32) (y0 y1 y2 y3 y4 y5 y6 y7 y8 y9 y10 y11 y12 y13 y14 y15:UInt32):roundA (evC Tryz.prog cs1 Tryz.f142.ntmps (mask 142) 100 Tryz.prog.globals.size b9) (headA Tryz.prog Tryz.prog.globals.size (I9 key nonce all n a0 a1 a2 a3 x0 x1 x2 x3 x4 x5 x6 x7 x8 x9 x10 x11 x12 x13 x14 x15 0 (rounds [x0,x1,x2,x3,x4,x5,x6,x7,x8,x9,x10,x11,x12,x13,x14,x15] 0))) (I9 key nonce all n a0 a1 a2 a3 x0 x1 x2 x3 x4 x5 x6 x7 x8 x9 x10 x11 x12 x13 x14 x15 6 [y0,y1,y2,y3,y4,y5,y6,y7,y8,y9,y10,y11,y12,y13,y14,y15])=some (I9 key nonce all n a0 a1 a2 a3 x0 x1 x2 x3 x4 x5 x6 x7 x8 x9 x10 x11 x12 x13 x14 x15 7 (dround [y0,y1,y2,y3,y4,y5,y6,y7,y8,y9,y10,y11,y12,y13,y14,y15])):=by kernel_rfl
theorem r9_7 (key nonce all:List UInt8) (n:UInt32) (a0 a1 a2 a3:UInt8) (x0 x1 x2 x3 x4 x5 x6 x7 x8 x9 x10 x11 x12 x13 x14 x15:UInt32) (y0 y1 y2 y3 y4 y5 y6 y7 y8 y9 y10 y11 y12 y13 y14 y15:UInt32):roundA (evC Tryz.prog cs1 Tryz.f142.ntmps (mask 142) 100 Tryz.prog.globals.size b9) (headA Tryz.prog Tryz.prog.globals.size (I9 key nonce all n a0 a1 a2 a3 x0 x1 x2 x3 x4 x5 x6 x7 x8 x9 x10 x11 x12 x13 x14 x15 0 (rounds [x0,x1,x2,x3,x4,x5,x6,x7,x8,x9,x10,x11,x12,x13,x14,x15] 0))) (I9 key nonce all n a0 a1 a2 a3 x0 x1 x2 x3 x4 x5 x6 x7 x8 x9 x10 x11 x12 x13 x14 x15 7 [y0,y1,y2,y3,y4,y5,y6,y7,y8,y9,y10,y11,y12,y13,y14,y15])=some (I9 key nonce all n a0 a1 a2 a3 x0 x1 x2 x3 x4 x5 x6 x7 x8 x9 x10 x11 x12 x13 x14 x15 8 (dround [y0,y1,y2,y3,y4,y5,y6,y7,y8,y9,y10,y11,y12,y13,y14,y15])):=by kernel_rfl
theorem r9_8 (key nonce all:List UInt8) (n:UInt32) (a0 a1 a2 a3:UInt8) (x0 x1 x2 x3 x4 x5 x6 x7 x8 x9 x10 x11 x12 x13 x14 x15:UInt32) (y0 y1 y2 y3 y4 y5 y6 y7 y8 y9 y10 y11 y12 y13 y14 y15:UInt32):roundA (evC Tryz.prog cs1 Tryz.f142.ntmps (mask 142) 100 Tryz.prog.globals.size b9) (headA Tryz.prog Tryz.prog.globals.size (I9 key nonce all n a0 a1 a2 a3 x0 x1 x2 x3 x4 x5 x6 x7 x8 x9 x10 x11 x12 x13 x14 x15 0 (rounds [x0,x1,x2,x3,x4,x5,x6,x7,x8,x9,x10,x11,x12,x13,x14,x15] 0))) (I9 key nonce all n a0 a1 a2 a3 x0 x1 x2 x3 x4 x5 x6 x7 x8 x9 x10 x11 x12 x13 x14 x15 8 [y0,y1,y2,y3,y4,y5,y6,y7,y8,y9,y10,y11,y12,y13,y14,y15])=some (I9 key nonce all n a0 a1 a2 a3 x0 x1 x2 x3 x4 x5 x6 x7 x8 x9 x10 x11 x12 x13 x14 x15 9 (dround [y0,y1,y2,y3,y4,y5,y6,y7,y8,y9,y10,y11,y12,y13,y14,y15])):=by kernel_rfl
theorem r9_9 (key nonce all:List UInt8) (n:UInt32) (a0 a1 a2 a3:UInt8) (x0 x1 x2 x3 x4 x5 x6 x7 x8 x9 x10 x11 x12 x13 x14 x15:UInt32) (y0 y1 y2 y3 y4 y5 y6 y7 y8 y9 y10 y11 y12 y13 y14 y15:UInt32):roundA (evC Tryz.prog cs1 Tryz.f142.ntmps (mask 142) 100 Tryz.prog.globals.size b9) (headA Tryz.prog Tryz.prog.globals.size (I9 key nonce all n a0 a1 a2 a3 x0 x1 x2 x3 x4 x5 x6 x7 x8 x9 x10 x11 x12 x13 x14 x15 0 (rounds [x0,x1,x2,x3,x4,x5,x6,x7,x8,x9,x10,x11,x12,x13,x14,x15] 0))) (I9 key nonce all n a0 a1 a2 a3 x0 x1 x2 x3 x4 x5 x6 x7 x8 x9 x10 x11 x12 x13 x14 x15 9 [y0,y1,y2,y3,y4,y5,y6,y7,y8,y9,y10,y11,y12,y13,y14,y15])=some (I9 key nonce all n a0 a1 a2 a3 x0 x1 x2 x3 x4 x5 x6 x7 x8 x9 x10 x11 x12 x13 x14 x15 10 (dround [y0,y1,y2,y3,y4,y5,y6,y7,y8,y9,y10,y11,y12,y13,y14,y15])):=by kernel_rfl
theorem r9_end (key nonce all:List UInt8) (n:UInt32) (a0 a1 a2 a3:UInt8) (x0 x1 x2 x3 x4 x5 x6 x7 x8 x9 x10 x11 x12 x13 x14 x15:UInt32) (y0 y1 y2 y3 y4 y5 y6 y7 y8 y9 y10 y11 y12 y13 y14 y15:UInt32):evC Tryz.prog cs1 Tryz.f142.ntmps (mask 142) 100 Tryz.prog.globals.size b9 (I9 key nonce all n a0 a1 a2 a3 x0 x1 x2 x3 x4 x5 x6 x7 x8 x9 x10 x11 x12 x13 x14 x15 10 [y0,y1,y2,y3,y4,y5,y6,y7,y8,y9,y10,y11,y12,y13,y14,y15])=some (.exit 2,J9 key nonce all n a0 a1 a2 a3 x0 x1 x2 x3 x4 x5 x6 x7 x8 x9 x10 x11 x12 x13 x14 x15 [y0,y1,y2,y3,y4,y5,y6,y7,y8,y9,y10,y11,y12,y13,y14,y15]):=by kernel_rfl
theorem s9_a (k0 k1 k2 k3 k4 k5 k6 k7 k8 k9 k10 k11 k12 k13 k14 k15 k16 k17 k18 k19 k20 k21 k22 k23 k24 k25 k26 k27 k28 k29 k30 k31 m0 m1 m2 m3 m4 m5 m6 m7 m8 m9 m10 m11:UInt8) (n:UInt32):evS Tryz.prog cs1 Tryz.f142.ntmps (mask 142) 100 Tryz.prog.globals.size ((p9.drop 0).take 7) ⟨startT [.str [k0,k1,k2,k3,k4,k5,k6,k7,k8,k9,k10,k11,k12,k13,k14,k15,k16,k17,k18,k19,k20,k21,k22,k23,k24,k25,k26,k27,k28,k29,k30,k31],.str [m0,m1,m2,m3,m4,m5,m6,m7,m8,m9,m10,m11],.u32 n] 0,[],5⟩=some (.normal,I9 [k0,k1,k2,k3,k4,k5,k6,k7,k8,k9,k10,k11,k12,k13,k14,k15,k16,k17,k18,k19,k20,k21,k22,k23,k24,k25,k26,k27,k28,k29,k30,k31] [m0,m1,m2,m3,m4,m5,m6,m7,m8,m9,m10,m11] (seed [k0,k1,k2,k3,k4,k5,k6,k7,k8,k9,k10,k11,k12,k13,k14,k15,k16,k17,k18,k19,k20,k21,k22,k23,k24,k25,k26,k27,k28,k29,k30,k31] [m0,m1,m2,m3,m4,m5,m6,m7,m8,m9,m10,m11] n) n n.toUInt8 (shr_u32 n 8).toUInt8 (shr_u32 n 16).toUInt8 (shr_u32 n 24).toUInt8 (word (101) (120) (112) (97)) (word (110) (100) (32) (51)) (word (50) (45) (98) (121)) (word (116) (101) (32) (107)) (word (k0) (k1) (k2) (k3)) (word (k4) (k5) (k6) (k7)) (word (k8) (k9) (k10) (k11)) (word (k12) (k13) (k14) (k15)) (word (k16) (k17) (k18) (k19)) (word (k20) (k21) (k22) (k23)) (word (k24) (k25) (k26) (k27)) (word (k28) (k29) (k30) (k31)) (word (n.toUInt8) ((shr_u32 n 8).toUInt8) ((shr_u32 n 16).toUInt8) ((shr_u32 n 24).toUInt8)) (word (m0) (m1) (m2) (m3)) (word (m4) (m5) (m6) (m7)) (word (m8) (m9) (m10) (m11)) 0 (rounds [(word (101) (120) (112) (97)),(word (110) (100) (32) (51)),(word (50) (45) (98) (121)),(word (116) (101) (32) (107)),(word (k0) (k1) (k2) (k3)),(word (k4) (k5) (k6) (k7)),(word (k8) (k9) (k10) (k11)),(word (k12) (k13) (k14) (k15)),(word (k16) (k17) (k18) (k19)),(word (k20) (k21) (k22) (k23)),(word (k24) (k25) (k26) (k27)),(word (k28) (k29) (k30) (k31)),(word (n.toUInt8) ((shr_u32 n 8).toUInt8) ((shr_u32 n 16).toUInt8) ((shr_u32 n 24).toUInt8)),(word (m0) (m1) (m2) (m3)),(word (m4) (m5) (m6) (m7)),(word (m8) (m9) (m10) (m11))] 0)):=by kernel_rfl
theorem s9_b (key nonce all:List UInt8) (n:UInt32) (a0 a1 a2 a3:UInt8) (x0 x1 x2 x3 x4 x5 x6 x7 x8 x9 x10 x11 x12 x13 x14 x15:UInt32) (y0 y1 y2 y3 y4 y5 y6 y7 y8 y9 y10 y11 y12 y13 y14 y15:UInt32):finV Tryz.prog Tryz.f142 (evS Tryz.prog cs1 Tryz.f142.ntmps (mask 142) 100 Tryz.prog.globals.size (p9.drop 8) (J9 key nonce all n a0 a1 a2 a3 x0 x1 x2 x3 x4 x5 x6 x7 x8 x9 x10 x11 x12 x13 x14 x15 [y0,y1,y2,y3,y4,y5,y6,y7,y8,y9,y10,y11,y12,y13,y14,y15]))=some (.str (outB [x0,x1,x2,x3,x4,x5,x6,x7,x8,x9,x10,x11,x12,x13,x14,x15] [y0,y1,y2,y3,y4,y5,y6,y7,y8,y9,y10,y11,y12,y13,y14,y15])):=by kernel_rfl
theorem step9 (key nonce all:List UInt8) (n:UInt32) (a0 a1 a2 a3:UInt8) (x0 x1 x2 x3 x4 x5 x6 x7 x8 x9 x10 x11 x12 x13 x14 x15:UInt32) (k:Nat) (hk:k < 10) (y:List UInt32) (hy:y.length=16):roundA (evC Tryz.prog cs1 Tryz.f142.ntmps (mask 142) 100 Tryz.prog.globals.size b9) (headA Tryz.prog Tryz.prog.globals.size (I9 key nonce all n a0 a1 a2 a3 x0 x1 x2 x3 x4 x5 x6 x7 x8 x9 x10 x11 x12 x13 x14 x15 0 (rounds [x0,x1,x2,x3,x4,x5,x6,x7,x8,x9,x10,x11,x12,x13,x14,x15] 0))) (I9 key nonce all n a0 a1 a2 a3 x0 x1 x2 x3 x4 x5 x6 x7 x8 x9 x10 x11 x12 x13 x14 x15 k y)=some (I9 key nonce all n a0 a1 a2 a3 x0 x1 x2 x3 x4 x5 x6 x7 x8 x9 x10 x11 x12 x13 x14 x15 (k+1) (dround y)):=by
 obtain ⟨y0,y1,y2,y3,y4,y5,y6,y7,y8,y9,y10,y11,y12,y13,y14,y15,rfl⟩:=sixteen hy
 match k,hk with
 | 0,_=>exact r9_0 key nonce all n a0 a1 a2 a3 x0 x1 x2 x3 x4 x5 x6 x7 x8 x9 x10 x11 x12 x13 x14 x15 y0 y1 y2 y3 y4 y5 y6 y7 y8 y9 y10 y11 y12 y13 y14 y15
 | 1,_=>exact r9_1 key nonce all n a0 a1 a2 a3 x0 x1 x2 x3 x4 x5 x6 x7 x8 x9 x10 x11 x12 x13 x14 x15 y0 y1 y2 y3 y4 y5 y6 y7 y8 y9 y10 y11 y12 y13 y14 y15
 | 2,_=>exact r9_2 key nonce all n a0 a1 a2 a3 x0 x1 x2 x3 x4 x5 x6 x7 x8 x9 x10 x11 x12 x13 x14 x15 y0 y1 y2 y3 y4 y5 y6 y7 y8 y9 y10 y11 y12 y13 y14 y15
 | 3,_=>exact r9_3 key nonce all n a0 a1 a2 a3 x0 x1 x2 x3 x4 x5 x6 x7 x8 x9 x10 x11 x12 x13 x14 x15 y0 y1 y2 y3 y4 y5 y6 y7 y8 y9 y10 y11 y12 y13 y14 y15
 | 4,_=>exact r9_4 key nonce all n a0 a1 a2 a3 x0 x1 x2 x3 x4 x5 x6 x7 x8 x9 x10 x11 x12 x13 x14 x15 y0 y1 y2 y3 y4 y5 y6 y7 y8 y9 y10 y11 y12 y13 y14 y15
 | 5,_=>exact r9_5 key nonce all n a0 a1 a2 a3 x0 x1 x2 x3 x4 x5 x6 x7 x8 x9 x10 x11 x12 x13 x14 x15 y0 y1 y2 y3 y4 y5 y6 y7 y8 y9 y10 y11 y12 y13 y14 y15
 | 6,_=>exact r9_6 key nonce all n a0 a1 a2 a3 x0 x1 x2 x3 x4 x5 x6 x7 x8 x9 x10 x11 x12 x13 x14 x15 y0 y1 y2 y3 y4 y5 y6 y7 y8 y9 y10 y11 y12 y13 y14 y15
 | 7,_=>exact r9_7 key nonce all n a0 a1 a2 a3 x0 x1 x2 x3 x4 x5 x6 x7 x8 x9 x10 x11 x12 x13 x14 x15 y0 y1 y2 y3 y4 y5 y6 y7 y8 y9 y10 y11 y12 y13 y14 y15
 | 8,_=>exact r9_8 key nonce all n a0 a1 a2 a3 x0 x1 x2 x3 x4 x5 x6 x7 x8 x9 x10 x11 x12 x13 x14 x15 y0 y1 y2 y3 y4 y5 y6 y7 y8 y9 y10 y11 y12 y13 y14 y15
 | 9,_=>exact r9_9 key nonce all n a0 a1 a2 a3 x0 x1 x2 x3 x4 x5 x6 x7 x8 x9 x10 x11 x12 x13 x14 x15 y0 y1 y2 y3 y4 y5 y6 y7 y8 y9 y10 y11 y12 y13 y14 y15
 | k+10,hk=>omega
theorem end9 (key nonce all:List UInt8) (n:UInt32) (a0 a1 a2 a3:UInt8) (x0 x1 x2 x3 x4 x5 x6 x7 x8 x9 x10 x11 x12 x13 x14 x15:UInt32) (y:List UInt32) (hy:y.length=16):evC Tryz.prog cs1 Tryz.f142.ntmps (mask 142) 100 Tryz.prog.globals.size b9 (I9 key nonce all n a0 a1 a2 a3 x0 x1 x2 x3 x4 x5 x6 x7 x8 x9 x10 x11 x12 x13 x14 x15 10 y)=some (.exit 2,J9 key nonce all n a0 a1 a2 a3 x0 x1 x2 x3 x4 x5 x6 x7 x8 x9 x10 x11 x12 x13 x14 x15 y):=by
 obtain ⟨y0,y1,y2,y3,y4,y5,y6,y7,y8,y9,y10,y11,y12,y13,y14,y15,rfl⟩:=sixteen hy
 exact r9_end key nonce all n a0 a1 a2 a3 x0 x1 x2 x3 x4 x5 x6 x7 x8 x9 x10 x11 x12 x13 x14 x15 y0 y1 y2 y3 y4 y5 y6 y7 y8 y9 y10 y11 y12 y13 y14 y15
theorem p9_7:p9[7]? = some (.block 2 (.loop b9)):=by kernel_rfl
theorem loop9 (key nonce all:List UInt8) (n:UInt32) (a0 a1 a2 a3:UInt8) (x0 x1 x2 x3 x4 x5 x6 x7 x8 x9 x10 x11 x12 x13 x14 x15:UInt32):evS Tryz.prog cs1 Tryz.f142.ntmps (mask 142) 100 Tryz.prog.globals.size (p9.drop 7) (I9 key nonce all n a0 a1 a2 a3 x0 x1 x2 x3 x4 x5 x6 x7 x8 x9 x10 x11 x12 x13 x14 x15 0 (rounds [x0,x1,x2,x3,x4,x5,x6,x7,x8,x9,x10,x11,x12,x13,x14,x15] 0))=evS Tryz.prog cs1 Tryz.f142.ntmps (mask 142) 100 Tryz.prog.globals.size (p9.drop 8) (J9 key nonce all n a0 a1 a2 a3 x0 x1 x2 x3 x4 x5 x6 x7 x8 x9 x10 x11 x12 x13 x14 x15 (rounds [x0,x1,x2,x3,x4,x5,x6,x7,x8,x9,x10,x11,x12,x13,x14,x15] 10)):=
 evS_loop p9_7 (fun k=>I9 key nonce all n a0 a1 a2 a3 x0 x1 x2 x3 x4 x5 x6 x7 x8 x9 x10 x11 x12 x13 x14 x15 k (rounds [x0,x1,x2,x3,x4,x5,x6,x7,x8,x9,x10,x11,x12,x13,x14,x15] k)) 10 (fun k hk=>step9 key nonce all n a0 a1 a2 a3 x0 x1 x2 x3 x4 x5 x6 x7 x8 x9 x10 x11 x12 x13 x14 x15 k hk (rounds [x0,x1,x2,x3,x4,x5,x6,x7,x8,x9,x10,x11,x12,x13,x14,x15] k) (rounds_length _ k)) (end9 key nonce all n a0 a1 a2 a3 x0 x1 x2 x3 x4 x5 x6 x7 x8 x9 x10 x11 x12 x13 x14 x15 (rounds [x0,x1,x2,x3,x4,x5,x6,x7,x8,x9,x10,x11,x12,x13,x14,x15] 10) (rounds_length _ 10)) (by omega)
theorem fin9 (key nonce all:List UInt8) (n:UInt32) (a0 a1 a2 a3:UInt8) (x0 x1 x2 x3 x4 x5 x6 x7 x8 x9 x10 x11 x12 x13 x14 x15:UInt32) (y:List UInt32) (hy:y.length=16):finV Tryz.prog Tryz.f142 (evS Tryz.prog cs1 Tryz.f142.ntmps (mask 142) 100 Tryz.prog.globals.size (p9.drop 8) (J9 key nonce all n a0 a1 a2 a3 x0 x1 x2 x3 x4 x5 x6 x7 x8 x9 x10 x11 x12 x13 x14 x15 y))=some (.str (outB [x0,x1,x2,x3,x4,x5,x6,x7,x8,x9,x10,x11,x12,x13,x14,x15] y)):=by
 obtain ⟨y0,y1,y2,y3,y4,y5,y6,y7,y8,y9,y10,y11,y12,y13,y14,y15,rfl⟩:=sixteen hy
 exact s9_b key nonce all n a0 a1 a2 a3 x0 x1 x2 x3 x4 x5 x6 x7 x8 x9 x10 x11 x12 x13 x14 x15 y0 y1 y2 y3 y4 y5 y6 y7 y8 y9 y10 y11 y12 y13 y14 y15
theorem blk9 {key nonce:List UInt8}(hk:key.length=32) (hn:nonce.length=12) (n:UInt32):(run1 Tryz.prog cs1 (mask 142) 100 142 [.str key,.str nonce,.u32 n] [] Tryz.prog.globals.size).map (·.1)=some (.str (block key nonce n)):=by
 obtain ⟨k0,k1,k2,k3,k4,k5,k6,k7,k8,k9,k10,k11,k12,k13,k14,k15,k16,k17,k18,k19,k20,k21,k22,k23,k24,k25,k26,k27,k28,k29,k30,k31,rfl⟩:=thirtytwo hk
 obtain ⟨m0,m1,m2,m3,m4,m5,m6,m7,m8,m9,m10,m11,rfl⟩:=twelve hn
 refine (run1_val (fn:=Tryz.f142) (c:=bodyOf Tryz.f142) (by kernel_rfl) (by kernel_rfl) (by kernel_rfl)).trans ?_
 refine (congrArg (finV Tryz.prog Tryz.f142) (evS_seg (l:=p9) (k:=0) (m:=7) (s9_a k0 k1 k2 k3 k4 k5 k6 k7 k8 k9 k10 k11 k12 k13 k14 k15 k16 k17 k18 k19 k20 k21 k22 k23 k24 k25 k26 k27 k28 k29 k30 k31 m0 m1 m2 m3 m4 m5 m6 m7 m8 m9 m10 m11 n))).trans ?_
 refine (congrArg (finV Tryz.prog Tryz.f142) (loop9 [k0,k1,k2,k3,k4,k5,k6,k7,k8,k9,k10,k11,k12,k13,k14,k15,k16,k17,k18,k19,k20,k21,k22,k23,k24,k25,k26,k27,k28,k29,k30,k31] [m0,m1,m2,m3,m4,m5,m6,m7,m8,m9,m10,m11] (seed [k0,k1,k2,k3,k4,k5,k6,k7,k8,k9,k10,k11,k12,k13,k14,k15,k16,k17,k18,k19,k20,k21,k22,k23,k24,k25,k26,k27,k28,k29,k30,k31] [m0,m1,m2,m3,m4,m5,m6,m7,m8,m9,m10,m11] n) n n.toUInt8 (shr_u32 n 8).toUInt8 (shr_u32 n 16).toUInt8 (shr_u32 n 24).toUInt8 (word (101) (120) (112) (97)) (word (110) (100) (32) (51)) (word (50) (45) (98) (121)) (word (116) (101) (32) (107)) (word (k0) (k1) (k2) (k3)) (word (k4) (k5) (k6) (k7)) (word (k8) (k9) (k10) (k11)) (word (k12) (k13) (k14) (k15)) (word (k16) (k17) (k18) (k19)) (word (k20) (k21) (k22) (k23)) (word (k24) (k25) (k26) (k27)) (word (k28) (k29) (k30) (k31)) (word (n.toUInt8) ((shr_u32 n 8).toUInt8) ((shr_u32 n 16).toUInt8) ((shr_u32 n 24).toUInt8)) (word (m0) (m1) (m2) (m3)) (word (m4) (m5) (m6) (m7)) (word (m8) (m9) (m10) (m11)))).trans ?_
 exact fin9 [k0,k1,k2,k3,k4,k5,k6,k7,k8,k9,k10,k11,k12,k13,k14,k15,k16,k17,k18,k19,k20,k21,k22,k23,k24,k25,k26,k27,k28,k29,k30,k31] [m0,m1,m2,m3,m4,m5,m6,m7,m8,m9,m10,m11] (seed [k0,k1,k2,k3,k4,k5,k6,k7,k8,k9,k10,k11,k12,k13,k14,k15,k16,k17,k18,k19,k20,k21,k22,k23,k24,k25,k26,k27,k28,k29,k30,k31] [m0,m1,m2,m3,m4,m5,m6,m7,m8,m9,m10,m11] n) n n.toUInt8 (shr_u32 n 8).toUInt8 (shr_u32 n 16).toUInt8 (shr_u32 n 24).toUInt8 (word (101) (120) (112) (97)) (word (110) (100) (32) (51)) (word (50) (45) (98) (121)) (word (116) (101) (32) (107)) (word (k0) (k1) (k2) (k3)) (word (k4) (k5) (k6) (k7)) (word (k8) (k9) (k10) (k11)) (word (k12) (k13) (k14) (k15)) (word (k16) (k17) (k18) (k19)) (word (k20) (k21) (k22) (k23)) (word (k24) (k25) (k26) (k27)) (word (k28) (k29) (k30) (k31)) (word (n.toUInt8) ((shr_u32 n 8).toUInt8) ((shr_u32 n 16).toUInt8) ((shr_u32 n 24).toUInt8)) (word (m0) (m1) (m2) (m3)) (word (m4) (m5) (m6) (m7)) (word (m8) (m9) (m10) (m11)) (rounds [(word (101) (120) (112) (97)),(word (110) (100) (32) (51)),(word (50) (45) (98) (121)),(word (116) (101) (32) (107)),(word (k0) (k1) (k2) (k3)),(word (k4) (k5) (k6) (k7)),(word (k8) (k9) (k10) (k11)),(word (k12) (k13) (k14) (k15)),(word (k16) (k17) (k18) (k19)),(word (k20) (k21) (k22) (k23)),(word (k24) (k25) (k26) (k27)),(word (k28) (k29) (k30) (k31)),(word (n.toUInt8) ((shr_u32 n 8).toUInt8) ((shr_u32 n 16).toUInt8) ((shr_u32 n 24).toUInt8)),(word (m0) (m1) (m2) (m3)),(word (m4) (m5) (m6) (m7)),(word (m8) (m9) (m10) (m11))] 10) (rounds_length _ 10)
end Go.Proofs.YtanaackimepkdaaGreatDoor.Cha
namespace Go.Proofs.YtanaackimepkdaaGreatDoor.Cha
open Go Go.Eng Go.Cha
noncomputable def p13:List Code:=pieces (bodyOf Tryz.f162)
noncomputable def b13:Code:=loopOf (p13.getD 7 .skip)
def I13 (key nonce all:List UInt8) (n:UInt32) (a0 a1 a2 a3:UInt8) (x0 x1 x2 x3 x4 x5 x6 x7 x8 x9 x10 x11 x12 x13 x14 x15:UInt32) (k:Nat) (y:List UInt32):SA:=⟨[(0,.str key),(1,.str nonce),(2,.u32 n),(6,.ptr 5 0),(7,.ptr 13 0),(8,.str all),(34,.int .i64 64),(35,.int .i64 64),(36,.bool false),(10,.ptr 213 0),(55,.int .i64 k)],[(5,.cells false (List.replicate 64 (.u8 0))),(13,.cells false ([x0,x1,x2,x3,x4,x5,x6,x7,x8,x9,x10,x11,x12,x13,x14,x15].map .u32)),(125,.cells false [.u8 a0,.u8 a1,.u8 a2,.u8 a3]),(213,.cells false (y.map .u32))],237⟩
def J13 (key nonce all:List UInt8) (n:UInt32) (a0 a1 a2 a3:UInt8) (x0 x1 x2 x3 x4 x5 x6 x7 x8 x9 x10 x11 x12 x13 x14 x15:UInt32) (y:List UInt32):SA:=⟨[(0,.str key),(1,.str nonce),(2,.u32 n),(6,.ptr 5 0),(7,.ptr 13 0),(8,.str all),(34,.int .i64 64),(35,.int .i64 64),(36,.bool false),(10,.ptr 213 0),(55,.int .i64 10),(56,.bool false)],[(5,.cells false (List.replicate 64 (.u8 0))),(13,.cells false ([x0,x1,x2,x3,x4,x5,x6,x7,x8,x9,x10,x11,x12,x13,x14,x15].map .u32)),(125,.cells false [.u8 a0,.u8 a1,.u8 a2,.u8 a3]),(213,.cells false (y.map .u32))],245⟩
theorem r13_0 (key nonce all:List UInt8) (n:UInt32) (a0 a1 a2 a3:UInt8) (x0 x1 x2 x3 x4 x5 x6 x7 x8 x9 x10 x11 x12 x13 x14 x15:UInt32) (y0 y1 y2 y3 y4 y5 y6 y7 y8 y9 y10 y11 y12 y13 y14 y15:UInt32):roundA (evC Tryz.prog cs1 Tryz.f162.ntmps (mask 162) 100 Tryz.prog.globals.size b13) (headA Tryz.prog Tryz.prog.globals.size (I13 key nonce all n a0 a1 a2 a3 x0 x1 x2 x3 x4 x5 x6 x7 x8 x9 x10 x11 x12 x13 x14 x15 0 (rounds [x0,x1,x2,x3,x4,x5,x6,x7,x8,x9,x10,x11,x12,x13,x14,x15] 0))) (I13 key nonce all n a0 a1 a2 a3 x0 x1 x2 x3 x4 x5 x6 x7 x8 x9 x10 x11 x12 x13 x14 x15 0 [y0,y1,y2,y3,y4,y5,y6,y7,y8,y9,y10,y11,y12,y13,y14,y15])=some (I13 key nonce all n a0 a1 a2 a3 x0 x1 x2 x3 x4 x5 x6 x7 x8 x9 x10 x11 x12 x13 x14 x15 1 (dround [y0,y1,y2,y3,y4,y5,y6,y7,y8,y9,y10,y11,y12,y13,y14,y15])):=by kernel_rfl
theorem r13_1 (key nonce all:List UInt8) (n:UInt32) (a0 a1 a2 a3:UInt8) (x0 x1 x2 x3 x4 x5 x6 x7 x8 x9 x10 x11 x12 x13 x14 x15:UInt32) (y0 y1 y2 y3 y4 y5 y6 y7 y8 y9 y10 y11 y12 y13 y14 y15:UInt32):roundA (evC Tryz.prog cs1 Tryz.f162.ntmps (mask 162) 100 Tryz.prog.globals.size b13) (headA Tryz.prog Tryz.prog.globals.size (I13 key nonce all n a0 a1 a2 a3 x0 x1 x2 x3 x4 x5 x6 x7 x8 x9 x10 x11 x12 x13 x14 x15 0 (rounds [x0,x1,x2,x3,x4,x5,x6,x7,x8,x9,x10,x11,x12,x13,x14,x15] 0))) (I13 key nonce all n a0 a1 a2 a3 x0 x1 x2 x3 x4 x5 x6 x7 x8 x9 x10 x11 x12 x13 x14 x15 1 [y0,y1,y2,y3,y4,y5,y6,y7,y8,y9,y10,y11,y12,y13,y14,y15])=some (I13 key nonce all n a0 a1 a2 a3 x0 x1 x2 x3 x4 x5 x6 x7 x8 x9 x10 x11 x12 x13 x14 x15 2 (dround [y0,y1,y2,y3,y4,y5,y6,y7,y8,y9,y10,y11,y12,y13,y14,y15])):=by kernel_rfl
theorem r13_2 (key nonce all:List UInt8) (n:UInt32) (a0 a1 a2 a3:UInt8) (x0 x1 x2 x3 x4 x5 x6 x7 x8 x9 x10 x11 x12 x13 x14 x15:UInt32) (y0 y1 y2 y3 y4 y5 y6 y7 y8 y9 y10 y11 y12 y13 y14 y15:UInt32):roundA (evC Tryz.prog cs1 Tryz.f162.ntmps (mask 162) 100 Tryz.prog.globals.size b13) (headA Tryz.prog Tryz.prog.globals.size (I13 key nonce all n a0 a1 a2 a3 x0 x1 x2 x3 x4 x5 x6 x7 x8 x9 x10 x11 x12 x13 x14 x15 0 (rounds [x0,x1,x2,x3,x4,x5,x6,x7,x8,x9,x10,x11,x12,x13,x14,x15] 0))) (I13 key nonce all n a0 a1 a2 a3 x0 x1 x2 x3 x4 x5 x6 x7 x8 x9 x10 x11 x12 x13 x14 x15 2 [y0,y1,y2,y3,y4,y5,y6,y7,y8,y9,y10,y11,y12,y13,y14,y15])=some (I13 key nonce all n a0 a1 a2 a3 x0 x1 x2 x3 x4 x5 x6 x7 x8 x9 x10 x11 x12 x13 x14 x15 3 (dround [y0,y1,y2,y3,y4,y5,y6,y7,y8,y9,y10,y11,y12,y13,y14,y15])):=by kernel_rfl
theorem r13_3 (key nonce all:List UInt8) (n:UInt32) (a0 a1 a2 a3:UInt8) (x0 x1 x2 x3 x4 x5 x6 x7 x8 x9 x10 x11 x12 x13 x14 x15:UInt32) (y0 y1 y2 y3 y4 y5 y6 y7 y8 y9 y10 y11 y12 y13 y14 y15:UInt32):roundA (evC Tryz.prog cs1 Tryz.f162.ntmps (mask 162) 100 Tryz.prog.globals.size b13) (headA Tryz.prog Tryz.prog.globals.size (I13 key nonce all n a0 a1 a2 a3 x0 x1 x2 x3 x4 x5 x6 x7 x8 x9 x10 x11 x12 x13 x14 x15 0 (rounds [x0,x1,x2,x3,x4,x5,x6,x7,x8,x9,x10,x11,x12,x13,x14,x15] 0))) (I13 key nonce all n a0 a1 a2 a3 x0 x1 x2 x3 x4 x5 x6 x7 x8 x9 x10 x11 x12 x13 x14 x15 3 [y0,y1,y2,y3,y4,y5,y6,y7,y8,y9,y10,y11,y12,y13,y14,y15])=some (I13 key nonce all n a0 a1 a2 a3 x0 x1 x2 x3 x4 x5 x6 x7 x8 x9 x10 x11 x12 x13 x14 x15 4 (dround [y0,y1,y2,y3,y4,y5,y6,y7,y8,y9,y10,y11,y12,y13,y14,y15])):=by kernel_rfl
theorem r13_4 (key nonce all:List UInt8) (n:UInt32) (a0 a1 a2 a3:UInt8) (x0 x1 x2 x3 x4 x5 x6 x7 x8 x9 x10 x11 x12 x13 x14 x15:UInt32) (y0 y1 y2 y3 y4 y5 y6 y7 y8 y9 y10 y11 y12 y13 y14 y15:UInt32):roundA (evC Tryz.prog cs1 Tryz.f162.ntmps (mask 162) 100 Tryz.prog.globals.size b13) (headA Tryz.prog Tryz.prog.globals.size (I13 key nonce all n a0 a1 a2 a3 x0 x1 x2 x3 x4 x5 x6 x7 x8 x9 x10 x11 x12 x13 x14 x15 0 (rounds [x0,x1,x2,x3,x4,x5,x6,x7,x8,x9,x10,x11,x12,x13,x14,x15] 0))) (I13 key nonce all n a0 a1 a2 a3 x0 x1 x2 x3 x4 x5 x6 x7 x8 x9 x10 x11 x12 x13 x14 x15 4 [y0,y1,y2,y3,y4,y5,y6,y7,y8,y9,y10,y11,y12,y13,y14,y15])=some (I13 key nonce all n a0 a1 a2 a3 x0 x1 x2 x3 x4 x5 x6 x7 x8 x9 x10 x11 x12 x13 x14 x15 5 (dround [y0,y1,y2,y3,y4,y5,y6,y7,y8,y9,y10,y11,y12,y13,y14,y15])):=by kernel_rfl
theorem r13_5 (key nonce all:List UInt8) (n:UInt32) (a0 a1 a2 a3:UInt8) (x0 x1 x2 x3 x4 x5 x6 x7 x8 x9 x10 x11 x12 x13 x14 x15:UInt32) (y0 y1 y2 y3 y4 y5 y6 y7 y8 y9 y10 y11 y12 y13 y14 y15:UInt32):roundA (evC Tryz.prog cs1 Tryz.f162.ntmps (mask 162) 100 Tryz.prog.globals.size b13) (headA Tryz.prog Tryz.prog.globals.size (I13 key nonce all n a0 a1 a2 a3 x0 x1 x2 x3 x4 x5 x6 x7 x8 x9 x10 x11 x12 x13 x14 x15 0 (rounds [x0,x1,x2,x3,x4,x5,x6,x7,x8,x9,x10,x11,x12,x13,x14,x15] 0))) (I13 key nonce all n a0 a1 a2 a3 x0 x1 x2 x3 x4 x5 x6 x7 x8 x9 x10 x11 x12 x13 x14 x15 5 [y0,y1,y2,y3,y4,y5,y6,y7,y8,y9,y10,y11,y12,y13,y14,y15])=some (I13 key nonce all n a0 a1 a2 a3 x0 x1 x2 x3 x4 x5 x6 x7 x8 x9 x10 x11 x12 x13 x14 x15 6 (dround [y0,y1,y2,y3,y4,y5,y6,y7,y8,y9,y10,y11,y12,y13,y14,y15])):=by kernel_rfl
theorem r13_6 (key nonce all:List UInt8) (n:UInt32) (a0 a1 a2 a3:UInt8) (x0 x1 x2 x3 x4 x5 x6 x7 x8 x9 x10 x11 x12 x13 x14 x15:UInt32) (y0 y1 y2 y3 y4 y5 y6 y7 y8 y9 y10 y11 y12 y13 y14 y15:UInt32):roundA (evC Tryz.prog cs1 Tryz.f162.ntmps (mask 162) 100 Tryz.prog.globals.size b13) (headA Tryz.prog Tryz.prog.globals.size (I13 key nonce all n a0 a1 a2 a3 x0 x1 x2 x3 x4 x5 x6 x7 x8 x9 x10 x11 x12 x13 x14 x15 0 (rounds [x0,x1,x2,x3,x4,x5,x6,x7,x8,x9,x10,x11,x12,x13,x14,x15] 0))) (I13 key nonce all n a0 a1 a2 a3 x0 x1 x2 x3 x4 x5 x6 x7 x8 x9 x10 x11 x12 x13 x14 x15 6 [y0,y1,y2,y3,y4,y5,y6,y7,y8,y9,y10,y11,y12,y13,y14,y15])=some (I13 key nonce all n a0 a1 a2 a3 x0 x1 x2 x3 x4 x5 x6 x7 x8 x9 x10 x11 x12 x13 x14 x15 7 (dround [y0,y1,y2,y3,y4,y5,y6,y7,y8,y9,y10,y11,y12,y13,y14,y15])):=by kernel_rfl
theorem r13_7 (key nonce all:List UInt8) (n:UInt32) (a0 a1 a2 a3:UInt8) (x0 x1 x2 x3 x4 x5 x6 x7 x8 x9 x10 x11 x12 x13 x14 x15:UInt32) (y0 y1 y2 y3 y4 y5 y6 y7 y8 y9 y10 y11 y12 y13 y14 y15:UInt32):roundA (evC Tryz.prog cs1 Tryz.f162.ntmps (mask 162) 100 Tryz.prog.globals.size b13) (headA Tryz.prog Tryz.prog.globals.size (I13 key nonce all n a0 a1 a2 a3 x0 x1 x2 x3 x4 x5 x6 x7 x8 x9 x10 x11 x12 x13 x14 x15 0 (rounds [x0,x1,x2,x3,x4,x5,x6,x7,x8,x9,x10,x11,x12,x13,x14,x15] 0))) (I13 key nonce all n a0 a1 a2 a3 x0 x1 x2 x3 x4 x5 x6 x7 x8 x9 x10 x11 x12 x13 x14 x15 7 [y0,y1,y2,y3,y4,y5,y6,y7,y8,y9,y10,y11,y12,y13,y14,y15])=some (I13 key nonce all n a0 a1 a2 a3 x0 x1 x2 x3 x4 x5 x6 x7 x8 x9 x10 x11 x12 x13 x14 x15 8 (dround [y0,y1,y2,y3,y4,y5,y6,y7,y8,y9,y10,y11,y12,y13,y14,y15])):=by kernel_rfl
theorem r13_8 (key nonce all:List UInt8) (n:UInt32) (a0 a1 a2 a3:UInt8) (x0 x1 x2 x3 x4 x5 x6 x7 x8 x9 x10 x11 x12 x13 x14 x15:UInt32) (y0 y1 y2 y3 y4 y5 y6 y7 y8 y9 y10 y11 y12 y13 y14 y15:UInt32):roundA (evC Tryz.prog cs1 Tryz.f162.ntmps (mask 162) 100 Tryz.prog.globals.size b13) (headA Tryz.prog Tryz.prog.globals.size (I13 key nonce all n a0 a1 a2 a3 x0 x1 x2 x3 x4 x5 x6 x7 x8 x9 x10 x11 x12 x13 x14 x15 0 (rounds [x0,x1,x2,x3,x4,x5,x6,x7,x8,x9,x10,x11,x12,x13,x14,x15] 0))) (I13 key nonce all n a0 a1 a2 a3 x0 x1 x2 x3 x4 x5 x6 x7 x8 x9 x10 x11 x12 x13 x14 x15 8 [y0,y1,y2,y3,y4,y5,y6,y7,y8,y9,y10,y11,y12,y13,y14,y15])=some (I13 key nonce all n a0 a1 a2 a3 x0 x1 x2 x3 x4 x5 x6 x7 x8 x9 x10 x11 x12 x13 x14 x15 9 (dround [y0,y1,y2,y3,y4,y5,y6,y7,y8,y9,y10,y11,y12,y13,y14,y15])):=by kernel_rfl
theorem r13_9 (key nonce all:List UInt8) (n:UInt32) (a0 a1 a2 a3:UInt8) (x0 x1 x2 x3 x4 x5 x6 x7 x8 x9 x10 x11 x12 x13 x14 x15:UInt32) (y0 y1 y2 y3 y4 y5 y6 y7 y8 y9 y10 y11 y12 y13 y14 y15:UInt32):roundA (evC Tryz.prog cs1 Tryz.f162.ntmps (mask 162) 100 Tryz.prog.globals.size b13) (headA Tryz.prog Tryz.prog.globals.size (I13 key nonce all n a0 a1 a2 a3 x0 x1 x2 x3 x4 x5 x6 x7 x8 x9 x10 x11 x12 x13 x14 x15 0 (rounds [x0,x1,x2,x3,x4,x5,x6,x7,x8,x9,x10,x11,x12,x13,x14,x15] 0))) (I13 key nonce all n a0 a1 a2 a3 x0 x1 x2 x3 x4 x5 x6 x7 x8 x9 x10 x11 x12 x13 x14 x15 9 [y0,y1,y2,y3,y4,y5,y6,y7,y8,y9,y10,y11,y12,y13,y14,y15])=some (I13 key nonce all n a0 a1 a2 a3 x0 x1 x2 x3 x4 x5 x6 x7 x8 x9 x10 x11 x12 x13 x14 x15 10 (dround [y0,y1,y2,y3,y4,y5,y6,y7,y8,y9,y10,y11,y12,y13,y14,y15])):=by kernel_rfl
theorem r13_end (key nonce all:List UInt8) (n:UInt32) (a0 a1 a2 a3:UInt8) (x0 x1 x2 x3 x4 x5 x6 x7 x8 x9 x10 x11 x12 x13 x14 x15:UInt32) (y0 y1 y2 y3 y4 y5 y6 y7 y8 y9 y10 y11 y12 y13 y14 y15:UInt32):evC Tryz.prog cs1 Tryz.f162.ntmps (mask 162) 100 Tryz.prog.globals.size b13 (I13 key nonce all n a0 a1 a2 a3 x0 x1 x2 x3 x4 x5 x6 x7 x8 x9 x10 x11 x12 x13 x14 x15 10 [y0,y1,y2,y3,y4,y5,y6,y7,y8,y9,y10,y11,y12,y13,y14,y15])=some (.exit 2,J13 key nonce all n a0 a1 a2 a3 x0 x1 x2 x3 x4 x5 x6 x7 x8 x9 x10 x11 x12 x13 x14 x15 [y0,y1,y2,y3,y4,y5,y6,y7,y8,y9,y10,y11,y12,y13,y14,y15]):=by kernel_rfl
theorem s13_a (k0 k1 k2 k3 k4 k5 k6 k7 k8 k9 k10 k11 k12 k13 k14 k15 k16 k17 k18 k19 k20 k21 k22 k23 k24 k25 k26 k27 k28 k29 k30 k31 m0 m1 m2 m3 m4 m5 m6 m7 m8 m9 m10 m11:UInt8) (n:UInt32):evS Tryz.prog cs1 Tryz.f162.ntmps (mask 162) 100 Tryz.prog.globals.size ((p13.drop 0).take 7) ⟨startT [.str [k0,k1,k2,k3,k4,k5,k6,k7,k8,k9,k10,k11,k12,k13,k14,k15,k16,k17,k18,k19,k20,k21,k22,k23,k24,k25,k26,k27,k28,k29,k30,k31],.str [m0,m1,m2,m3,m4,m5,m6,m7,m8,m9,m10,m11],.u32 n] 0,[],5⟩=some (.normal,I13 [k0,k1,k2,k3,k4,k5,k6,k7,k8,k9,k10,k11,k12,k13,k14,k15,k16,k17,k18,k19,k20,k21,k22,k23,k24,k25,k26,k27,k28,k29,k30,k31] [m0,m1,m2,m3,m4,m5,m6,m7,m8,m9,m10,m11] (seed [k0,k1,k2,k3,k4,k5,k6,k7,k8,k9,k10,k11,k12,k13,k14,k15,k16,k17,k18,k19,k20,k21,k22,k23,k24,k25,k26,k27,k28,k29,k30,k31] [m0,m1,m2,m3,m4,m5,m6,m7,m8,m9,m10,m11] n) n n.toUInt8 (shr_u32 n 8).toUInt8 (shr_u32 n 16).toUInt8 (shr_u32 n 24).toUInt8 (wordP (101) (120) (112) (97)) (wordP (110) (100) (32) (51)) (wordP (50) (45) (98) (121)) (wordP (116) (101) (32) (107)) (wordP (k0) (k1) (k2) (k3)) (wordP (k4) (k5) (k6) (k7)) (wordP (k8) (k9) (k10) (k11)) (wordP (k12) (k13) (k14) (k15)) (wordP (k16) (k17) (k18) (k19)) (wordP (k20) (k21) (k22) (k23)) (wordP (k24) (k25) (k26) (k27)) (wordP (k28) (k29) (k30) (k31)) (wordP (n.toUInt8) ((shr_u32 n 8).toUInt8) ((shr_u32 n 16).toUInt8) ((shr_u32 n 24).toUInt8)) (wordP (m0) (m1) (m2) (m3)) (wordP (m4) (m5) (m6) (m7)) (wordP (m8) (m9) (m10) (m11)) 0 (rounds [(wordP (101) (120) (112) (97)),(wordP (110) (100) (32) (51)),(wordP (50) (45) (98) (121)),(wordP (116) (101) (32) (107)),(wordP (k0) (k1) (k2) (k3)),(wordP (k4) (k5) (k6) (k7)),(wordP (k8) (k9) (k10) (k11)),(wordP (k12) (k13) (k14) (k15)),(wordP (k16) (k17) (k18) (k19)),(wordP (k20) (k21) (k22) (k23)),(wordP (k24) (k25) (k26) (k27)),(wordP (k28) (k29) (k30) (k31)),(wordP (n.toUInt8) ((shr_u32 n 8).toUInt8) ((shr_u32 n 16).toUInt8) ((shr_u32 n 24).toUInt8)),(wordP (m0) (m1) (m2) (m3)),(wordP (m4) (m5) (m6) (m7)),(wordP (m8) (m9) (m10) (m11))] 0)):=by kernel_rfl
theorem s13_b (key nonce all:List UInt8) (n:UInt32) (a0 a1 a2 a3:UInt8) (x0 x1 x2 x3 x4 x5 x6 x7 x8 x9 x10 x11 x12 x13 x14 x15:UInt32) (y0 y1 y2 y3 y4 y5 y6 y7 y8 y9 y10 y11 y12 y13 y14 y15:UInt32):finV Tryz.prog Tryz.f162 (evS Tryz.prog cs1 Tryz.f162.ntmps (mask 162) 100 Tryz.prog.globals.size (p13.drop 8) (J13 key nonce all n a0 a1 a2 a3 x0 x1 x2 x3 x4 x5 x6 x7 x8 x9 x10 x11 x12 x13 x14 x15 [y0,y1,y2,y3,y4,y5,y6,y7,y8,y9,y10,y11,y12,y13,y14,y15]))=some (bytesV (outB [x0,x1,x2,x3,x4,x5,x6,x7,x8,x9,x10,x11,x12,x13,x14,x15] [y0,y1,y2,y3,y4,y5,y6,y7,y8,y9,y10,y11,y12,y13,y14,y15])):=by kernel_rfl
theorem step13 (key nonce all:List UInt8) (n:UInt32) (a0 a1 a2 a3:UInt8) (x0 x1 x2 x3 x4 x5 x6 x7 x8 x9 x10 x11 x12 x13 x14 x15:UInt32) (k:Nat) (hk:k < 10) (y:List UInt32) (hy:y.length=16):roundA (evC Tryz.prog cs1 Tryz.f162.ntmps (mask 162) 100 Tryz.prog.globals.size b13) (headA Tryz.prog Tryz.prog.globals.size (I13 key nonce all n a0 a1 a2 a3 x0 x1 x2 x3 x4 x5 x6 x7 x8 x9 x10 x11 x12 x13 x14 x15 0 (rounds [x0,x1,x2,x3,x4,x5,x6,x7,x8,x9,x10,x11,x12,x13,x14,x15] 0))) (I13 key nonce all n a0 a1 a2 a3 x0 x1 x2 x3 x4 x5 x6 x7 x8 x9 x10 x11 x12 x13 x14 x15 k y)=some (I13 key nonce all n a0 a1 a2 a3 x0 x1 x2 x3 x4 x5 x6 x7 x8 x9 x10 x11 x12 x13 x14 x15 (k+1) (dround y)):=by
 obtain ⟨y0,y1,y2,y3,y4,y5,y6,y7,y8,y9,y10,y11,y12,y13,y14,y15,rfl⟩:=sixteen hy
 match k,hk with
 | 0,_=>exact r13_0 key nonce all n a0 a1 a2 a3 x0 x1 x2 x3 x4 x5 x6 x7 x8 x9 x10 x11 x12 x13 x14 x15 y0 y1 y2 y3 y4 y5 y6 y7 y8 y9 y10 y11 y12 y13 y14 y15
 | 1,_=>exact r13_1 key nonce all n a0 a1 a2 a3 x0 x1 x2 x3 x4 x5 x6 x7 x8 x9 x10 x11 x12 x13 x14 x15 y0 y1 y2 y3 y4 y5 y6 y7 y8 y9 y10 y11 y12 y13 y14 y15
 | 2,_=>exact r13_2 key nonce all n a0 a1 a2 a3 x0 x1 x2 x3 x4 x5 x6 x7 x8 x9 x10 x11 x12 x13 x14 x15 y0 y1 y2 y3 y4 y5 y6 y7 y8 y9 y10 y11 y12 y13 y14 y15
 | 3,_=>exact r13_3 key nonce all n a0 a1 a2 a3 x0 x1 x2 x3 x4 x5 x6 x7 x8 x9 x10 x11 x12 x13 x14 x15 y0 y1 y2 y3 y4 y5 y6 y7 y8 y9 y10 y11 y12 y13 y14 y15
 | 4,_=>exact r13_4 key nonce all n a0 a1 a2 a3 x0 x1 x2 x3 x4 x5 x6 x7 x8 x9 x10 x11 x12 x13 x14 x15 y0 y1 y2 y3 y4 y5 y6 y7 y8 y9 y10 y11 y12 y13 y14 y15
 | 5,_=>exact r13_5 key nonce all n a0 a1 a2 a3 x0 x1 x2 x3 x4 x5 x6 x7 x8 x9 x10 x11 x12 x13 x14 x15 y0 y1 y2 y3 y4 y5 y6 y7 y8 y9 y10 y11 y12 y13 y14 y15
 | 6,_=>exact r13_6 key nonce all n a0 a1 a2 a3 x0 x1 x2 x3 x4 x5 x6 x7 x8 x9 x10 x11 x12 x13 x14 x15 y0 y1 y2 y3 y4 y5 y6 y7 y8 y9 y10 y11 y12 y13 y14 y15
 | 7,_=>exact r13_7 key nonce all n a0 a1 a2 a3 x0 x1 x2 x3 x4 x5 x6 x7 x8 x9 x10 x11 x12 x13 x14 x15 y0 y1 y2 y3 y4 y5 y6 y7 y8 y9 y10 y11 y12 y13 y14 y15
 | 8,_=>exact r13_8 key nonce all n a0 a1 a2 a3 x0 x1 x2 x3 x4 x5 x6 x7 x8 x9 x10 x11 x12 x13 x14 x15 y0 y1 y2 y3 y4 y5 y6 y7 y8 y9 y10 y11 y12 y13 y14 y15
 | 9,_=>exact r13_9 key nonce all n a0 a1 a2 a3 x0 x1 x2 x3 x4 x5 x6 x7 x8 x9 x10 x11 x12 x13 x14 x15 y0 y1 y2 y3 y4 y5 y6 y7 y8 y9 y10 y11 y12 y13 y14 y15
 | k+10,hk=>omega
theorem end13 (key nonce all:List UInt8) (n:UInt32) (a0 a1 a2 a3:UInt8) (x0 x1 x2 x3 x4 x5 x6 x7 x8 x9 x10 x11 x12 x13 x14 x15:UInt32) (y:List UInt32) (hy:y.length=16):evC Tryz.prog cs1 Tryz.f162.ntmps (mask 162) 100 Tryz.prog.globals.size b13 (I13 key nonce all n a0 a1 a2 a3 x0 x1 x2 x3 x4 x5 x6 x7 x8 x9 x10 x11 x12 x13 x14 x15 10 y)=some (.exit 2,J13 key nonce all n a0 a1 a2 a3 x0 x1 x2 x3 x4 x5 x6 x7 x8 x9 x10 x11 x12 x13 x14 x15 y):=by
 obtain ⟨y0,y1,y2,y3,y4,y5,y6,y7,y8,y9,y10,y11,y12,y13,y14,y15,rfl⟩:=sixteen hy
 exact r13_end key nonce all n a0 a1 a2 a3 x0 x1 x2 x3 x4 x5 x6 x7 x8 x9 x10 x11 x12 x13 x14 x15 y0 y1 y2 y3 y4 y5 y6 y7 y8 y9 y10 y11 y12 y13 y14 y15
theorem p13_7:p13[7]? = some (.block 2 (.loop b13)):=by kernel_rfl
theorem loop13 (key nonce all:List UInt8) (n:UInt32) (a0 a1 a2 a3:UInt8) (x0 x1 x2 x3 x4 x5 x6 x7 x8 x9 x10 x11 x12 x13 x14 x15:UInt32):evS Tryz.prog cs1 Tryz.f162.ntmps (mask 162) 100 Tryz.prog.globals.size (p13.drop 7) (I13 key nonce all n a0 a1 a2 a3 x0 x1 x2 x3 x4 x5 x6 x7 x8 x9 x10 x11 x12 x13 x14 x15 0 (rounds [x0,x1,x2,x3,x4,x5,x6,x7,x8,x9,x10,x11,x12,x13,x14,x15] 0))=evS Tryz.prog cs1 Tryz.f162.ntmps (mask 162) 100 Tryz.prog.globals.size (p13.drop 8) (J13 key nonce all n a0 a1 a2 a3 x0 x1 x2 x3 x4 x5 x6 x7 x8 x9 x10 x11 x12 x13 x14 x15 (rounds [x0,x1,x2,x3,x4,x5,x6,x7,x8,x9,x10,x11,x12,x13,x14,x15] 10)):=
 evS_loop p13_7 (fun k=>I13 key nonce all n a0 a1 a2 a3 x0 x1 x2 x3 x4 x5 x6 x7 x8 x9 x10 x11 x12 x13 x14 x15 k (rounds [x0,x1,x2,x3,x4,x5,x6,x7,x8,x9,x10,x11,x12,x13,x14,x15] k)) 10 (fun k hk=>step13 key nonce all n a0 a1 a2 a3 x0 x1 x2 x3 x4 x5 x6 x7 x8 x9 x10 x11 x12 x13 x14 x15 k hk (rounds [x0,x1,x2,x3,x4,x5,x6,x7,x8,x9,x10,x11,x12,x13,x14,x15] k) (rounds_length _ k)) (end13 key nonce all n a0 a1 a2 a3 x0 x1 x2 x3 x4 x5 x6 x7 x8 x9 x10 x11 x12 x13 x14 x15 (rounds [x0,x1,x2,x3,x4,x5,x6,x7,x8,x9,x10,x11,x12,x13,x14,x15] 10) (rounds_length _ 10)) (by omega)
theorem fin13 (key nonce all:List UInt8) (n:UInt32) (a0 a1 a2 a3:UInt8) (x0 x1 x2 x3 x4 x5 x6 x7 x8 x9 x10 x11 x12 x13 x14 x15:UInt32) (y:List UInt32) (hy:y.length=16):finV Tryz.prog Tryz.f162 (evS Tryz.prog cs1 Tryz.f162.ntmps (mask 162) 100 Tryz.prog.globals.size (p13.drop 8) (J13 key nonce all n a0 a1 a2 a3 x0 x1 x2 x3 x4 x5 x6 x7 x8 x9 x10 x11 x12 x13 x14 x15 y))=some (bytesV (outB [x0,x1,x2,x3,x4,x5,x6,x7,x8,x9,x10,x11,x12,x13,x14,x15] y)):=by
 obtain ⟨y0,y1,y2,y3,y4,y5,y6,y7,y8,y9,y10,y11,y12,y13,y14,y15,rfl⟩:=sixteen hy
 exact s13_b key nonce all n a0 a1 a2 a3 x0 x1 x2 x3 x4 x5 x6 x7 x8 x9 x10 x11 x12 x13 x14 x15 y0 y1 y2 y3 y4 y5 y6 y7 y8 y9 y10 y11 y12 y13 y14 y15
theorem blk13 {key nonce:List UInt8}(hk:key.length=32) (hn:nonce.length=12) (n:UInt32):(run1 Tryz.prog cs1 (mask 162) 100 162 [.str key,.str nonce,.u32 n] [] Tryz.prog.globals.size).map (·.1)=some (bytesV (block key nonce n)):=by
 obtain ⟨k0,k1,k2,k3,k4,k5,k6,k7,k8,k9,k10,k11,k12,k13,k14,k15,k16,k17,k18,k19,k20,k21,k22,k23,k24,k25,k26,k27,k28,k29,k30,k31,rfl⟩:=thirtytwo hk
 obtain ⟨m0,m1,m2,m3,m4,m5,m6,m7,m8,m9,m10,m11,rfl⟩:=twelve hn
 refine (run1_val (fn:=Tryz.f162) (c:=bodyOf Tryz.f162) (by kernel_rfl) (by kernel_rfl) (by kernel_rfl)).trans ?_
 refine (congrArg (finV Tryz.prog Tryz.f162) (evS_seg (l:=p13) (k:=0) (m:=7) (s13_a k0 k1 k2 k3 k4 k5 k6 k7 k8 k9 k10 k11 k12 k13 k14 k15 k16 k17 k18 k19 k20 k21 k22 k23 k24 k25 k26 k27 k28 k29 k30 k31 m0 m1 m2 m3 m4 m5 m6 m7 m8 m9 m10 m11 n))).trans ?_
 refine (congrArg (finV Tryz.prog Tryz.f162) (loop13 [k0,k1,k2,k3,k4,k5,k6,k7,k8,k9,k10,k11,k12,k13,k14,k15,k16,k17,k18,k19,k20,k21,k22,k23,k24,k25,k26,k27,k28,k29,k30,k31] [m0,m1,m2,m3,m4,m5,m6,m7,m8,m9,m10,m11] (seed [k0,k1,k2,k3,k4,k5,k6,k7,k8,k9,k10,k11,k12,k13,k14,k15,k16,k17,k18,k19,k20,k21,k22,k23,k24,k25,k26,k27,k28,k29,k30,k31] [m0,m1,m2,m3,m4,m5,m6,m7,m8,m9,m10,m11] n) n n.toUInt8 (shr_u32 n 8).toUInt8 (shr_u32 n 16).toUInt8 (shr_u32 n 24).toUInt8 (wordP (101) (120) (112) (97)) (wordP (110) (100) (32) (51)) (wordP (50) (45) (98) (121)) (wordP (116) (101) (32) (107)) (wordP (k0) (k1) (k2) (k3)) (wordP (k4) (k5) (k6) (k7)) (wordP (k8) (k9) (k10) (k11)) (wordP (k12) (k13) (k14) (k15)) (wordP (k16) (k17) (k18) (k19)) (wordP (k20) (k21) (k22) (k23)) (wordP (k24) (k25) (k26) (k27)) (wordP (k28) (k29) (k30) (k31)) (wordP (n.toUInt8) ((shr_u32 n 8).toUInt8) ((shr_u32 n 16).toUInt8) ((shr_u32 n 24).toUInt8)) (wordP (m0) (m1) (m2) (m3)) (wordP (m4) (m5) (m6) (m7)) (wordP (m8) (m9) (m10) (m11)))).trans ?_
 refine (fin13 [k0,k1,k2,k3,k4,k5,k6,k7,k8,k9,k10,k11,k12,k13,k14,k15,k16,k17,k18,k19,k20,k21,k22,k23,k24,k25,k26,k27,k28,k29,k30,k31] [m0,m1,m2,m3,m4,m5,m6,m7,m8,m9,m10,m11] (seed [k0,k1,k2,k3,k4,k5,k6,k7,k8,k9,k10,k11,k12,k13,k14,k15,k16,k17,k18,k19,k20,k21,k22,k23,k24,k25,k26,k27,k28,k29,k30,k31] [m0,m1,m2,m3,m4,m5,m6,m7,m8,m9,m10,m11] n) n n.toUInt8 (shr_u32 n 8).toUInt8 (shr_u32 n 16).toUInt8 (shr_u32 n 24).toUInt8 (wordP (101) (120) (112) (97)) (wordP (110) (100) (32) (51)) (wordP (50) (45) (98) (121)) (wordP (116) (101) (32) (107)) (wordP (k0) (k1) (k2) (k3)) (wordP (k4) (k5) (k6) (k7)) (wordP (k8) (k9) (k10) (k11)) (wordP (k12) (k13) (k14) (k15)) (wordP (k16) (k17) (k18) (k19)) (wordP (k20) (k21) (k22) (k23)) (wordP (k24) (k25) (k26) (k27)) (wordP (k28) (k29) (k30) (k31)) (wordP (n.toUInt8) ((shr_u32 n 8).toUInt8) ((shr_u32 n 16).toUInt8) ((shr_u32 n 24).toUInt8)) (wordP (m0) (m1) (m2) (m3)) (wordP (m4) (m5) (m6) (m7)) (wordP (m8) (m9) (m10) (m11)) (rounds [(wordP (101) (120) (112) (97)),(wordP (110) (100) (32) (51)),(wordP (50) (45) (98) (121)),(wordP (116) (101) (32) (107)),(wordP (k0) (k1) (k2) (k3)),(wordP (k4) (k5) (k6) (k7)),(wordP (k8) (k9) (k10) (k11)),(wordP (k12) (k13) (k14) (k15)),(wordP (k16) (k17) (k18) (k19)),(wordP (k20) (k21) (k22) (k23)),(wordP (k24) (k25) (k26) (k27)),(wordP (k28) (k29) (k30) (k31)),(wordP (n.toUInt8) ((shr_u32 n 8).toUInt8) ((shr_u32 n 16).toUInt8) ((shr_u32 n 24).toUInt8)),(wordP (m0) (m1) (m2) (m3)),(wordP (m4) (m5) (m6) (m7)),(wordP (m8) (m9) (m10) (m11))] 10) (rounds_length _ 10)).trans ?_
 simp only [wordP_eq]
 rfl
end Go.Proofs.YtanaackimepkdaaGreatDoor.Cha
namespace Go.Cha
open Go Go.Eng
def may (key nonce:List UInt8):Bool:=key.length == 32 && nonce.length == 12
theorem may_true {key nonce:List UInt8}:may key nonce=true ↔ key.length=32∧nonce.length=12:=by simp [may]
def byteAt (key nonce:List UInt8) (n:UInt32) (i:Nat):UInt8:=(block key nonce n).getD i 0
theorem outB_list (x y:List UInt32):outB x y=[(outB x y).getD 0 0,(outB x y).getD 1 0,(outB x y).getD 2 0,(outB x y).getD 3 0,(outB x y).getD 4 0,(outB x y).getD 5 0,(outB x y).getD 6 0,(outB x y).getD 7 0,(outB x y).getD 8 0,(outB x y).getD 9 0,(outB x y).getD 10 0,(outB x y).getD 11 0,(outB x y).getD 12 0,(outB x y).getD 13 0,(outB x y).getD 14 0,(outB x y).getD 15 0,(outB x y).getD 16 0,(outB x y).getD 17 0,(outB x y).getD 18 0,(outB x y).getD 19 0,(outB x y).getD 20 0,(outB x y).getD 21 0,(outB x y).getD 22 0,(outB x y).getD 23 0,(outB x y).getD 24 0,(outB x y).getD 25 0,(outB x y).getD 26 0,(outB x y).getD 27 0,(outB x y).getD 28 0,(outB x y).getD 29 0,(outB x y).getD 30 0,(outB x y).getD 31 0,(outB x y).getD 32 0,(outB x y).getD 33 0,(outB x y).getD 34 0,(outB x y).getD 35 0,(outB x y).getD 36 0,(outB x y).getD 37 0,(outB x y).getD 38 0,(outB x y).getD 39 0,(outB x y).getD 40 0,(outB x y).getD 41 0,(outB x y).getD 42 0,(outB x y).getD 43 0,(outB x y).getD 44 0,(outB x y).getD 45 0,(outB x y).getD 46 0,(outB x y).getD 47 0,(outB x y).getD 48 0,(outB x y).getD 49 0,(outB x y).getD 50 0,(outB x y).getD 51 0,(outB x y).getD 52 0,(outB x y).getD 53 0,(outB x y).getD 54 0,(outB x y).getD 55 0,(outB x y).getD 56 0,(outB x y).getD 57 0,(outB x y).getD 58 0,(outB x y).getD 59 0,(outB x y).getD 60 0,(outB x y).getD 61 0,(outB x y).getD 62 0,(outB x y).getD 63 0]:=by kernel_rfl
def blockX (key nonce:List UInt8) (n:UInt32):List UInt8:=[byteAt key nonce n 0,byteAt key nonce n 1,byteAt key nonce n 2,byteAt key nonce n 3,byteAt key nonce n 4,byteAt key nonce n 5,byteAt key nonce n 6,byteAt key nonce n 7,byteAt key nonce n 8,byteAt key nonce n 9,byteAt key nonce n 10,byteAt key nonce n 11,byteAt key nonce n 12,byteAt key nonce n 13,byteAt key nonce n 14,byteAt key nonce n 15,byteAt key nonce n 16,byteAt key nonce n 17,byteAt key nonce n 18,byteAt key nonce n 19,byteAt key nonce n 20,byteAt key nonce n 21,byteAt key nonce n 22,byteAt key nonce n 23,byteAt key nonce n 24,byteAt key nonce n 25,byteAt key nonce n 26,byteAt key nonce n 27,byteAt key nonce n 28,byteAt key nonce n 29,byteAt key nonce n 30,byteAt key nonce n 31,byteAt key nonce n 32,byteAt key nonce n 33,byteAt key nonce n 34,byteAt key nonce n 35,byteAt key nonce n 36,byteAt key nonce n 37,byteAt key nonce n 38,byteAt key nonce n 39,byteAt key nonce n 40,byteAt key nonce n 41,byteAt key nonce n 42,byteAt key nonce n 43,byteAt key nonce n 44,byteAt key nonce n 45,byteAt key nonce n 46,byteAt key nonce n 47,byteAt key nonce n 48,byteAt key nonce n 49,byteAt key nonce n 50,byteAt key nonce n 51,byteAt key nonce n 52,byteAt key nonce n 53,byteAt key nonce n 54,byteAt key nonce n 55,byteAt key nonce n 56,byteAt key nonce n 57,byteAt key nonce n 58,byteAt key nonce n 59,byteAt key nonce n 60,byteAt key nonce n 61,byteAt key nonce n 62,byteAt key nonce n 63]
theorem block_list (key nonce:List UInt8) (n:UInt32):block key nonce n=blockX key nonce n:=outB_list _ _
end Go.Cha
namespace Go.Eng
open Go
def closE (g:FuncId) (css:List (List AVal)):EffA:=.eff fun base _ =>
 some (.fn g ((List.range css.length).map fun j=>.ptr (base+j) 0),(List.range css.length).map fun j=>(base+j,some (.cells false (css.getD j []))))
theorem callOk_clos {P:Program}{cs:CS}(hcs:CSOk P cs) (hm:P.follows .mixedOrders=true){nn F:Nat}{f:FuncId}{args:List AVal}{g:FuncId}{ns:List Nat}{css:List (List AVal)}{H1:HL}{fr1:Nat}
  (h:run1 P cs nn F f args [] P.globals.size=some (.fn g (ns.map fun n=>.ptr n 0),H1,fr1)) (ha:allV args=true) (hnd:nodupB ns=true) (hl:css.length=ns.length) (hk:Nat.ble ns.length 8=true)
  (hc:∀ j n,ns[j]? = some n→aget H1 n=some (.cells false (css.getD j []))∧ltL 0 (css.getD j [])=true):CallOk P f args (closE g css):=by
 intro σ args' H w base v0 H0 hla hg hH happ hfree
 have hnd:=nodupB_ok hnd
 have hk:=Nat.le_of_ble_eq_true hk
 simp only [closE,EffA.app,Option.some.injEq,Prod.mk.injEq] at happ
 obtain ⟨rfl,rfl⟩:=happ
 have hl0:LR (cut P.globals.size σ) args args':=hla.cut0 (allV_mem ha) _
 have hg0:GRel P (cut P.globals.size σ):=fun g hgl=>by
  obtain ⟨sz,hs⟩:=hg g hgl
  exact ⟨sz,cut_of hs hgl⟩
 obtain ⟨fn,c,hf,hb,hrun⟩:=run1_some h
 refine (runF_ok hcs hm hf hb hrun hl0 ⟨fun n o hn=>by simp [aget] at hn,fun n m o o' p q hn=>by simp [aget] at hn⟩ hg0 (cut_fresh _ _)).mono fun r w' hrw => ?_
 obtain ⟨σ1,v',rfl,g1,g2,g3,g4⟩:=hrw
 have hold:∀ b,b < w.heap.size→w'.heap[b]? = w.heap[b]? ∧ ¬ Own σ1 (aget H1) b:=fun b hb=>g3.old b hb fun ⟨n,o,p,a1,_⟩=>by simp [aget] at a1
 -- the places of the new names
 obtain ⟨σ2,hσ2⟩:∃ σ2:Sig,σ2=fun n=>if base≤n∧n < base+ns.length then σ1 (ns.getD (n - base) 0) else σ n:=⟨_,rfl⟩
 have at2:∀ j n,ns[j]? = some n→σ2 (base+j)=σ1 n:=fun j n hj=>by
  have hjl:j < ns.length:=(List.getElem?_eq_some_iff.1 hj).1
  rw [hσ2]
  simp only
  rw [if_pos ⟨by omega,by omega⟩,Nat.add_sub_cancel_left,List.getD_eq_getElem?_getD,hj]; rfl
 have off2:∀ n,¬ (base≤n∧n < base+ns.length)→σ2 n=σ n:=fun n hn=>by
  rw [hσ2]
  exact if_neg hn
 have le2:Sig.le σ σ2:=fun n p hp=>by
  rw [off2 n fun hn => ?_]
  ·exact hp
  ·have:=hfree (n - base) (by omega)
   rw [show base+(n - base)=n by omega,hp] at this
   cases this
 have obj1:∀ j n,ns[j]? = some n→∃ p,σ1 n=some p∧ORel σ1 w' p (.cells false (css.getD j []))∧w.heap.size≤p.blk:=fun j n hj=>by
  obtain ⟨p,hp,ho⟩:=g2.obj n _ (hc j n hj).1
  exact ⟨p,hp,ho,Nat.le_of_not_lt fun hlt=>(hold p.blk hlt).2 ⟨n,_,p,(hc j n hj).1,rfl,hp,rfl⟩⟩
 have us:∀ m x,(m,x) ∈ ((List.range css.length).map fun j=>(base+j,some (AObj.cells false (css.getD j []))))→∃ j,j < css.length∧m=base+j∧x=some (.cells false (css.getD j [])):=fun m x hx=>by
  obtain ⟨j,hj,e⟩:=List.mem_map.1 hx
  cases e
  exact ⟨j,List.mem_range.1 hj,rfl,rfl⟩
 have getH:∀ m o,aget (appU H ((List.range css.length).map fun j=>(base+j,some (AObj.cells false (css.getD j []))))) m=some o →
   (∃ j n,ns[j]? = some n∧m=base+j∧o=.cells false (css.getD j [])) ∨ (¬ (base≤m∧m < base+ns.length)∧aget H m=some o):=fun m o hm=>by
  rcases appU_get (us:=(List.range css.length).map fun j=>(base+j,some (AObj.cells false (css.getD j [])))) (H:=H) (fun m x hx=>by obtain ⟨j,_,_,rfl⟩:=us m x hx; rfl) m with ⟨o',a1,a2⟩ | ⟨a1,a2⟩
  ·rw [a2] at hm
   cases hm
   obtain ⟨j,hj,rfl,e⟩:=us m _ a1
   cases e
   exact .inl ⟨j,ns[j]'(by omega),List.getElem?_eq_getElem (by omega),rfl,rfl⟩
  ·rw [a2] at hm
   refine .inr ⟨fun hb => ?_,hm⟩
   exact a1 (some (.cells false (css.getD (m - base) []))) (List.mem_map.2 ⟨m - base,List.mem_range.2 (by omega),by rw [show base+(m - base)=m by omega]⟩)
 refine ⟨σ2,v',rfl,?_,⟨fun m o hm => ?_,fun m m' o o' p q hm hm' hp hq hpq => ?_⟩,⟨le2,g3.size,g3.os,g3.output,g3.tape,fun b hb hn=>⟨(hold b hb).1,?_⟩⟩,fun n hn=>off2 n (by omega)⟩
 ·cases g1 with
  | fn hs hcap =>
   refine .fn (by rw [← hs]; simp [hl]) fun i u u' hu hu' => ?_
   have hi:i < css.length:=by
    have:=(List.getElem?_eq_some_iff.1 hu).1
    simpa using this
   have e1:u=.ptr (base+i) 0:=by
    rw [List.getElem?_map,List.getElem?_range hi] at hu
    simpa using hu.symm
   subst e1
   have hn:ns[i]? = some (ns[i]'(by omega)):=List.getElem?_eq_getElem (by omega)
   have hv:=hcap i (.ptr (ns[i]'(by omega)) 0) u' (by rw [List.getElem?_map,hn]; rfl) hu'
   cases hv with
   | ptr hp=>exact .ptr (by rw [at2 i _ hn]; exact hp)
 ·rcases getH m o hm with ⟨j,n,hj,rfl,rfl⟩ | ⟨hb,ho⟩
  ·obtain ⟨p,hp,ho,_⟩:=obj1 j n hj
   exact ⟨p,by rw [at2 j n hj]; exact hp,ho.plain (hc j n hj).2⟩
  ·obtain ⟨p,hp,hor⟩:=hH.obj m o ho
   exact ⟨p,le2 m p hp,hor.mono le2 (hold _ hor.lt).1⟩
 ·rcases getH m o hm with ⟨j,n,hj,rfl,rfl⟩ | ⟨hb,ho⟩ <;> rcases getH m' o' hm' with ⟨j',n',hj',rfl,rfl⟩ | ⟨hb',ho'⟩
  ·rw [at2 j n hj] at hp
   rw [at2 j' n' hj'] at hq
   rcases g2.inj n n' _ _ p q (hc j n hj).1 (hc j' n' hj').1 hp hq hpq with e | ⟨e,_⟩
   ·subst e
    have:j=j':=(List.getElem?_inj (List.getElem?_eq_some_iff.1 hj).1 hnd).1 (hj.trans hj'.symm)
    exact .inl (by rw [this])
   ·cases e
  ·exfalso
   obtain ⟨p1,hp1,_,hge⟩:=obj1 j n hj
   rw [at2 j n hj,hp1] at hp
   cases hp
   obtain ⟨q1,hq1,hor⟩:=hH.obj m' o' ho'
   rw [off2 m' hb',hq1] at hq
   cases hq
   have:=hor.lt
   omega
  ·exfalso
   obtain ⟨p1,hp1,_,hge⟩:=obj1 j' n' hj'
   rw [at2 j' n' hj',hp1] at hq
   cases hq
   obtain ⟨q1,hq1,hor⟩:=hH.obj m o ho
   rw [off2 m hb,hq1] at hp
   cases hp
   have:=hor.lt
   omega
  ·rw [off2 m hb] at hp
   rw [off2 m' hb'] at hq
   exact hH.inj m m' o o' p q ho ho' hp hq hpq
 ·rintro ⟨m,o,p,h1,h2,h3,h4⟩
  rcases getH m o h1 with ⟨j,n,hj,rfl,rfl⟩ | ⟨hb2,ho⟩
  ·obtain ⟨p1,hp1,_,hge⟩:=obj1 j n hj
   rw [at2 j n hj,hp1] at h3
   cases h3
   omega
  ·rw [off2 m hb2] at h3
   exact hn ⟨m,o,p,ho,h2,h3,h4⟩
end Go.Eng
