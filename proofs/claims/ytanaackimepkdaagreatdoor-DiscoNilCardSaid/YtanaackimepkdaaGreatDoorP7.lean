/- Texts Eng67, Qb6, Qb7, Qb8, Qb9, Qc0, Eng32, Eng33, Eng34, Eng64, Eng68, Qe0, Qe2, QAPl0, QBt1: what they show that this claim uses. -/
import Derived.Test.YtanaackimepkdaaGreatDoorP6
import Derived.Test.YtanaackimepkdaaGreatDoorP5
import Derived.OrdersIn
import Derived.LoopNIn
import Derived.ControlIn
import Derived.RangeFuncLeaves
import Derived.RangeFuncSeq
import Derived.ScopeJumps
import Derived.Test.YtanaackimepkdaaGreatDoorChecked
import Derived.Lib.Builder
import Derived.Lib.UnsafeStr
import Derived.WalkSpells
import Derived.WalkKit
import Derived.ProofKit
set_option maxRecDepth 100000
set_option maxHeartbeats 1000000
set_option linter.unusedVariables false
set_option linter.unusedSimpArgs false
namespace Go.Eng
open Go
noncomputable def headY (dl:List Nat) (P:Program) (bs:Nat) (s0 s:SA) (ob:List Bool):Option (SA × List Bool):=
 match renAllx dl P bs (pairsT s0.fr 0 s0.T s.T) s ob with
 | some (r,ob1)=>cond (okHead P s0 r) none (match renAllx dl P bs (pairsH s0.fr 0 s0.H r.H) r ob1 with
  | some (r2,ob2)=>some (⟨reshape s0.T r2.T,reshapeH s0.H r2.H++extraH s0.H s0.fr r2.H,s0.fr⟩,ob2)
  | none=>none)
 | none=>none
theorem headY_ok {dl:List Nat}{P:Program}{bs:Nat}{s0 s s1:SA}{ob ob':List Bool}(h:headY dl P bs s0 s ob=some (s1,ob')) (ha:allT ob'=true) (ho:okS P s1=true):headA P bs s0 s=s1∧allT ob=true:=by
 unfold headY at h
 split at h
 ·rename_i r ob1 hr
  cases hc:okHead P s0 r with
  | true=>rw [hc] at h; cases h
  | false =>
   rw [hc,cond_false] at h
   split at h
   ·rename_i r2 ob2 hr2
    cases h
    obtain ⟨e2,a2⟩:=renAllx_ok hr2 ha
    obtain ⟨e1,a1⟩:=renAllx_ok hr a2
    refine ⟨?_,a1⟩
    unfold headA headC
    rw [e1,hc,cond_false,e2]
    have ho2:okHead P s0 r2=true:=ho
    rw [ho2,cond_true]
    unfold headB
    unfold okHead at ho2
    rw [ho2,cond_true]
   ·cases h
 ·cases h
noncomputable def roundO4 (dl:List Nat) (P:Program) (ps:PS) (cs:CS) (sy:List Nat) (os:List Bool) (vs:List AVal) (nt nn F bs:Nat) (b:Code) (s0 s:SA):Option (SA × List Bool):=
 match evT P ps cs sy nt nn F bs b s ⟨os,vs,[]⟩ with
 | some (.normal,s',q)=>headY dl P bs s0 s' q.ob
 | _=>none
theorem roundO4_ok {dl:List Nat}{P:Program}{ps:PS}{cs:CS}(hps:PSOk ps cs){sy:List Nat}{os:List Bool}{vs:List AVal}{nt nn F bs:Nat}{b:Code}{s0 s s1:SA}{ob:List Bool}(h:roundO4 dl P ps cs sy os vs nt nn F bs b s0 s=some (s1,ob)) (ha:allT ob=true) (ho:okS P s1=true) :
  roundA (evC P cs nt nn F bs b) (headA P bs s0) s=some s1:=by
 unfold roundO4 at h
 split at h
 ·rename_i s' q hev
  obtain ⟨e1,e2⟩:=headY_ok h ha ho
  simp only [roundA,(evT_ok hps b _ _ _ _ _ hev e2).1,e1]
 ·cases h
noncomputable def newB (g h:Nat) (ct pre:List AVal) (post:Nat→List AVal) (newc:List AVal) (v:AVal):EffA:=.eff fun base η =>
 cond (decP (η g=some (.cells true ct)∧η h=some (.cells false pre)∧h ≠ base)) (some (v,[(h,some (.cells false (post base))),(base,some (.cells false newc))])) none
theorem newB_app {g h base:Nat}{ct pre:List AVal}{post:Nat→List AVal}{newc:List AVal}{v:AVal}{H:HL}(h1:aget H g=some (.cells true ct)) (h2:aget H h=some (.cells false pre)) (h3:h ≠ base) :
  (newB g h ct pre post newc v).app base H=some (v,appU H [(h,some (.cells false (post base))),(base,some (.cells false newc))]):=by
 unfold newB
 simp only [EffA.app]
 rw [decP_of ⟨h1,h2,h3⟩]
 rfl
theorem callOk_new1 {P:Program}{cs:CS}(hcs:CSOk P cs) (hm:P.follows .mixedOrders=true){f:FuncId}{g h nn F fr kk:Nat}{xs ct pre newc:List AVal}{post:Nat→List AVal}{v:AVal}{G:Nat}(hG:P.globals.size=G)
  (hgl:g < G) (hpre:ltL 0 pre=true) (hct:ltL 0 ct=true) (hxs:ltL 0 xs=true) (hnew:ltL 0 newc=true) (hv:ltV 0 v=true) (hpost:∀ (ρ:Nat→Nat→Prop) a b,ρ a b→RL ρ (post a) (post b))
  (hrun:ansR [G,kk] (run1 P cs nn F f (.ptr G 0::xs) [(g,.cells true ct),(G,.cells false pre)] fr)=some (v,[some (.cells false (post kk)),some (.cells false newc)])) (hfr:G+1≤fr) (hkk:fr≤kk) :
  CallOk P f (.ptr h 0::xs) (newB g h ct pre post newc v):=by
 subst hG
 unfold newB
 refine callOk_deep hcs hm fun base η v' us hK => ?_
 cases hd:decP (η g=some (.cells true ct)∧η h=some (.cells false pre)∧h ≠ base) with
 | false=>rw [hd] at hK; cases hK
 | true =>
 rw [hd] at hK
 simp only [cond_true,Option.some.injEq,Prod.mk.injEq] at hK
 obtain ⟨rfl,rfl⟩:=hK
 obtain ⟨h1,h2,h3⟩:=of_decP hd
 unfold ansR at hrun
 split at hrun
 rotate_left
 ·cases hrun
 rename_i v' H' fr' hr
 simp only [Option.some.injEq,Prod.mk.injEq,List.map_cons,List.map_nil,List.cons.injEq,and_true] at hrun
 obtain ⟨rfl,e1,e2⟩:=hrun
 refine ⟨{ nn:=nn,F:=F,ns:=[h],ks:=[kk],cargs:=.ptr P.globals.size 0::xs,Hc:=[(g,.cells true ct),(P.globals.size,.cells false pre)],fr:=fr,v0:=v',H':=H',fr':=fr',hns:=by simp,hη:=fun n hn => ?_,hargs:=RL.cons (.ptr (.inr ⟨0,rfl,rfl⟩)) (RL.same hxs),hblk:=fun k o hk => ?_,hfr:=hfr,hrun:=hr,hks:=by simp,hks8:=by simp,hkfr:=fun k hk => ?_,hv:=.same hv,hnd:=?_,hus:=fun m x hm => ?_,hall:=fun i n o hi ho hro => ?_ }⟩
 ·simp only [List.mem_singleton] at hn
  subst hn
  exact .inl ⟨_,h2⟩
 ·simp only [aget] at hk
  rcases beq_cases g k with ⟨e,hb⟩ | ⟨e,hb⟩ <;> rw [hb] at hk
  ·simp only [cond_true,Option.some.injEq] at hk
   subst hk
   subst e
   exact ⟨g,_,.inl ⟨hgl,rfl⟩,h1,.inl ⟨true,ct,ct,rfl,rfl,RL.same hct⟩,fun _=>rfl⟩
  ·simp only [cond_false] at hk
   rcases beq_cases P.globals.size k with ⟨e',hb'⟩ | ⟨e',hb'⟩ <;> rw [hb'] at hk
   ·simp only [cond_true,Option.some.injEq] at hk
    subst hk
    exact ⟨h,_,.inr ⟨0,by omega,rfl⟩,h2,.inl ⟨false,pre,pre,rfl,rfl,RL.same hpre⟩,fun hk=>by omega⟩
   ·cases hk
 ·simp only [List.mem_singleton] at hk
  subst hk
  exact hkk
 ·simpa using h3
 ·simp only [List.mem_cons,Prod.mk.injEq,List.not_mem_nil,or_false] at hm
  have hp:ρ1 P.globals.size [h] [kk] base kk base:=.inr ⟨0,rfl,rfl⟩
  rcases hm with ⟨rfl,rfl⟩ | ⟨rfl,rfl⟩
  ·exact .inl ⟨0,rfl,.inr ⟨_,_,rfl,e1,rfl,.inl ⟨false,_,_,rfl,rfl,hpost _ _ _ hp⟩⟩⟩
  ·exact .inr ⟨0,kk,_,_,rfl,rfl,rfl,e2,rfl,.inl ⟨false,_,_,rfl,rfl,RL.same hnew⟩⟩
 ·cases i with
  | zero=>simp only [List.getElem?_cons_zero,Option.some.injEq] at hi; subst hi; exact ⟨_,List.mem_cons_self ..⟩
  | succ i=>simp at hi
def mkE (c:List AVal) (mk:Nat→AVal):EffA:=.eff fun base _=>some (mk base,[(base,some (.cells false c))])
def newQ (k:Nat) (x:Option (AVal × HL × Nat)):Option (AVal × List AVal):=match x with
 | some (v,H',_)=>match aget H' k with
  | some (.cells false c)=>some (v,c)
  | _=>none
 | none=>none
theorem callOk_mk {P:Program}{cs:CS}(hcs:CSOk P cs) (hm:P.follows .mixedOrders=true){f:FuncId}{nn F G kk:Nat}{args c:List AVal}{mk:Nat→AVal}(hG:P.globals.size=G) (hargs:ltL 0 args=true) (hc:ltL 0 c=true)
  (hmk:∀ (ρ:Nat→Nat→Prop) a b,ρ a b→RN ρ (mk a) (mk b)) (hrun:newQ kk (run1 P cs nn F f args [] G)=some (mk kk,c)) (hkk:G≤kk):CallOk P f args (mkE c mk):=by
 subst hG
 unfold mkE
 refine callOk_deep hcs hm fun base η v' us hK => ?_
 simp only [Option.some.injEq,Prod.mk.injEq] at hK
 obtain ⟨rfl,rfl⟩:=hK
 unfold newQ at hrun
 split at hrun
 rotate_left
 ·cases hrun
 rename_i v0 H' fr' hr
 split at hrun
 rotate_left
 ·cases hrun
 rename_i c' hk
 simp only [Option.some.injEq,Prod.mk.injEq] at hrun
 obtain ⟨rfl,rfl⟩:=hrun
 have hp:ρ1 P.globals.size [] [kk] base kk base:=.inr ⟨0,rfl,rfl⟩
 refine ⟨{ nn:=nn,F:=F,ns:=[],ks:=[kk],cargs:=args,Hc:=[],fr:=P.globals.size,v0:=mk kk,H':=H',fr':=fr',hns:=List.nodup_nil,hη:=fun n hn=>by (cases hn),hargs:=RL.same hargs,hblk:=fun k o hk=>by (cases hk),hfr:=Nat.le_refl _,hrun:=hr,hks:=by simp,hks8:=by simp,hkfr:=fun k hk=>by (simp only [List.mem_singleton] at hk; subst hk; exact hkk),hv:=hmk _ _ _ hp,hnd:=by simp,hus:=fun m x hm => ?_,hall:=fun i n o hi ho hro=>by (simp at hi) }⟩
 simp only [List.mem_cons,Prod.mk.injEq,List.not_mem_nil,or_false] at hm
 obtain ⟨rfl,rfl⟩:=hm
 exact .inr ⟨0,kk,_,_,rfl,rfl,rfl,hk,rfl,.inl ⟨false,_,_,rfl,rfl,RL.same hc⟩⟩
end Go.Eng
namespace Go.Proofs.YtanaackimepkdaaGreatDoor.Bk
open Go Go.Eng Go.Num Go.Bla
def ST (s:List UInt8) (x:Int):TL:=[(0,.ptr 5 0),(1,.str s),(4,.int .i64 0),(14,.bool false),(16,.int .i64 (s.length:Int)),(17,.int .i64 x)]
def I0 (h:Nat→UInt32) (s:List UInt8):SA:=⟨ST s 0,[(4,.cells true ordC),(5,.cells false (hC h .nilSlice 0))],110⟩
def HA (h:Nat→UInt32) (n:UInt64) (k:Nat) (c:List AVal):HL:=[(4,.cells true ordC),(5,.cells false (hC h (.slice 109 0 k 1) n)),(109,.cells false c)]
def IA (h:Nat→UInt32) (n:UInt64) (k:Nat) (c:List AVal) (s:List UInt8) (x:Int):SA:=⟨ST s x,HA h n k c,110⟩
noncomputable def b83:Code:=loopOf ((pieces (bodyOf Tryz.f229)).getD 4 .skip)
def inB (s:List UInt8) (j:Nat):Bool:=decide ((0:Int)≤(j:Int)) && decide ((j:Int) < (s.length:Int))
def ltB (s:List UInt8) (j:Nat):Bool:=decide ((j:Int) < (s.length:Int))
noncomputable def tkO (h h2:Nat→UInt32) (n n2:UInt64) (p:Nat→UInt8):Bool:=oB (tkE [.ptr 5 0,.slice 109 0 64 1,.bool false]) 286 (HA h n 64 (cellsB 64 p)) (.tup []) (HA h2 n2 64 (cellsB 64 p))
def grC (k:Nat) (p:Nat→UInt8) (x:UInt8):List AVal:=((cellsB k p).drop 0).take (k * 1)++[.u8 x]
def grO (k:Nat) (p:Nat→UInt8):Bool:=Nat.ble (0+1 * 1) 1 && (((Nat.ble ((k+1) * 1) 140737488355328 && Nat.ble (k+1) 140737488355328) && true) && Nat.ble (0+k * 1) (cellsB k p).length)
section
variable (F:Nat) (h0 h h2:Nat→UInt32) (n n2:UInt64) (s:List UInt8) (j k:Nat) (p:Nat→UInt8)
theorem pre83:segO (evSO Tryz.prog noPS (csOne 234 g106) [] Tryz.f229.ntmps (mask 229) F 6 ((pieces (bodyOf Tryz.f229)).take 4) ⟨startT [.ptr 5 0,.str s] 0,[(4,.cells true ordC),(5,.cells false (hC h0 .nilSlice 0))],6⟩ ⟨[],[],[]⟩)=some (I0 h0 s,[]):=by kernel_rfl
theorem rn83:roundO4 [] Tryz.prog noPS (csOne 234 g106) [18,54] [true] [] Tryz.f229.ntmps (mask 229) F 6 b83 (I0 h0 s) (I0 h0 s)=some (IA h0 0 1 [.u8 (s.getD 0 0)] s 1,[inB s 0,ltB s 0]):=by kernel_rfl
theorem rm83:roundO4 [254] Tryz.prog noPS (csOne 234 g106) [18,25,54,56] [true,false] [] Tryz.f229.ntmps (mask 229) F 6 b83 (I0 h0 s) (IA h n k (cellsB k p) s (j:Nat))=some (IA h n (k+1) (grC k p (s.getD j 0)) s (IntKind.wrap .i64 ((j:Int)+1)),[ltL 0 (grC k p (s.getD j 0)),grO k p,inB s j,!((k:Int) == 64),ltB s j]):=by kernel_rfl
theorem rf83:roundO4 [] Tryz.prog noPS (csOne 234 g106) [18,54,300038] [true] [.tup [],.tup [.ptr 5 0,.agg (hC h2 (.slice 109 0 64 1) n2),.ptr 109 0,.agg (cellsB 64 p)]] Tryz.f229.ntmps (mask 229) F 6 b83 (I0 h0 s) (IA h n 64 (cellsB 64 p) s (j:Nat))=some (IA h2 n2 1 [.u8 (s.getD j 0)] s (IntKind.wrap .i64 ((j:Int)+1)),[inB s j,tkO h h2 (n+64) n2 p,ltB s j]):=by kernel_rfl
theorem en83 (c:List AVal):endM Tryz.prog noPS (csOne 234 g106) [18] Tryz.f229 [5,109] (mask 229) F 6 0 b83 ((pieces (bodyOf Tryz.f229)).drop 5) (IA h n k c s (j:Nat)) ⟨[false],[],[]⟩=some (.int .i64 0,[some (.cells false (hC h (.slice 109 0 k 1) n)),some (.cells false c)],[!(ltB s j)]):=by kernel_rfl
end
end Go.Proofs.YtanaackimepkdaaGreatDoor.Bk
namespace Go.Proofs.YtanaackimepkdaaGreatDoor.Bk
open Go Go.Eng Go.Num Go.Bla
theorem ordC_lt:ltL 0 ordC=true:=by kernel_rfl
theorem tkO_ok (h:Nat→UInt32) (n:UInt64) (p:Nat→UInt8):tkO h (takeF h n p false) n n p=true:=by
 refine oB_of ?_
 refine Eq.trans (inlS_run (G:=5) (ns:=[5,109]) (takeA 64 h n p) (by rfl) ordC_lt (by rfl) gl1 (by kernel_rfl) (by rfl) (by rfl) (by kernel_rfl) (by rfl) (us:=[(5,some (.cells false (hC (takeF h n p false) (.slice 109 0 64 1) n))),(109,some (.cells false (cellsB 64 p)))]) (by kernel_rfl)) ?_
 rfl
def pcF (s:List UInt8) (q i:Nat):UInt8:=s.getD (64 * q+i) 0
def hsF (h:Nat→UInt32) (s:List UInt8):Nat→Nat→UInt32
 | 0=>h
 | q+1=>takeF (hsF h s q) (UInt64.ofNat (64 * q)+64) (pcF s q) false
def nq (q:Nat):UInt64:=UInt64.ofNat (64 * q)
theorem nq_s (q:Nat):nq q+64=nq (q+1):=by
 unfold nq
 rw [Nat.mul_succ,UInt64.ofNat_add]
 rfl
def Ij (h:Nat→UInt32) (s:List UInt8):Nat→SA
 | 0=>I0 h s
 | j+1=>IA (hsF h s (j / 64)) (nq (j / 64)) (j % 64+1) (cellsB (j % 64+1) (pcF s (j / 64))) s ((j+1:Nat):Int)
theorem grC_eq (k:Nat) (p:Nat→UInt8):grC k p (p k)=cellsB (k+1) p:=by
 unfold grC cellsB
 rw [List.drop_zero,List.take_of_length_le (by simp),List.range_succ,List.map_append]
 rfl
theorem ltL_B (m k:Nat) (p:Nat→UInt8):ltL m (cellsB k p)=true:=by
 unfold cellsB
 induction List.range k with
 | nil=>rfl
 | cons x l ih=>exact ih
theorem IA_ok (h:Nat→UInt32) (n:UInt64) (k:Nat) (c:List AVal) (s:List UInt8) (x:Int) (hc:ltL 110 c=true):okS Tryz.prog (IA h n k c s x)=true:=by
 have e:okS Tryz.prog (IA h n k c s x)=(true && cond (true && ltL 110 c) true false && true):=by kernel_rfl
 rw [e,hc]; rfl
theorem getD_ltS (s:List UInt8) (j:Nat) (h:j < s.length):inB s j=true∧ltB s j=true:=by
 unfold inB ltB
 simp
 omega
theorem step83 (F:Nat) (h:Nat→UInt32) (s:List UInt8) (hl:s.length≤140737488355328) (j:Nat) (hj:j < s.length):roundA (evC Tryz.prog (csOne 234 g106) Tryz.f229.ntmps (mask 229) F 6 b83) (headA Tryz.prog 6 (I0 h s)) (Ij h s j)=some (Ij h s (j+1)):=by
 obtain ⟨b1,b2⟩:=getD_ltS s j hj
 cases j with
 | zero =>
  refine roundO4_ok (noPS_ok _) (rn83 F h s) (allM b1 (allM b2 rfl)) (IA_ok _ _ _ _ _ _ rfl)
 | succ j =>
  have hw:IntKind.wrap .i64 (((j+1:Nat):Int)+1)=((j+1+1:Nat):Int):=by
   rw [wrapI _ (by omega) (by omega)]; rfl
  by_cases hk:j % 64+1=64
  ·have e1:(j+1) / 64=j / 64+1:=by omega
   have e2:(j+1) % 64=0:=by omega
   have hr:=rf83 F h (hsF h s (j / 64)) (hsF h s (j / 64+1)) (nq (j / 64)) (nq (j / 64+1)) s (j+1) (pcF s (j / 64))
   have ht:tkO (hsF h s (j / 64)) (hsF h s (j / 64+1)) (nq (j / 64)+64) (nq (j / 64+1)) (pcF s (j / 64))=true:=by
    rw [← nq_s]
    exact tkO_ok _ _ _
   rw [hw] at hr
   have hx:=roundO4_ok (noPS_ok _) hr (allM b1 (allM ht (allM b2 rfl))) (IA_ok _ _ _ _ _ _ rfl)
   show roundA _ _ (IA (hsF h s (j / 64)) (nq (j / 64)) (j % 64+1) (cellsB (j % 64+1) (pcF s (j / 64))) s ((j+1:Nat):Int))=some (IA (hsF h s ((j+1) / 64)) (nq ((j+1) / 64)) ((j+1) % 64+1) (cellsB ((j+1) % 64+1) (pcF s ((j+1) / 64))) s ((j+1+1:Nat):Int))
   rw [hk,e1,e2]
   have e3:cellsB (0+1) (pcF s (j / 64+1))=[.u8 (s.getD (j+1) 0)]:=by
    show [AVal.u8 (s.getD (64 * (j / 64+1)+0) 0)]=_
    rw [show 64 * (j / 64+1)+0=j+1 by omega]
   rw [e3]
   exact hx
  ·have e1:(j+1) / 64=j / 64:=by omega
   have e2:(j+1) % 64=j % 64+1:=by omega
   have hp:s.getD (j+1) 0=pcF s (j / 64) (j % 64+1):=by
    unfold pcF
    rw [show 64 * (j / 64)+(j % 64+1)=j+1 by omega]
   have hr:=rm83 F h (hsF h s (j / 64)) (nq (j / 64)) s (j+1) (j % 64+1) (pcF s (j / 64))
   rw [hw,hp,grC_eq] at hr
   have hg:grO (j % 64+1) (pcF s (j / 64))=true:=by
    unfold grO
    have:(cellsB (j % 64+1) (pcF s (j / 64))).length=j % 64+1:=by simp [cellsB]
    rw [this]
    have i1:Nat.ble ((j % 64+1+1) * 1) 140737488355328=true:=by rw [Nat.ble_eq]; omega
    have i2:Nat.ble (j % 64+1+1) 140737488355328=true:=by rw [Nat.ble_eq]; omega
    have i3:Nat.ble (0+(j % 64+1) * 1) (j % 64+1)=true:=by rw [Nat.ble_eq]; omega
    rw [i1,i2,i3]
    rfl
   have hne:(!(((j % 64+1:Nat):Int) == 64))=true:=by
    simp
    omega
   have hx:=roundO4_ok (noPS_ok _) hr (allM (ltL_B _ _ _) (allM hg (allM b1 (allM hne (allM b2 rfl))))) (IA_ok _ _ _ _ _ _ (ltL_B _ _ _))
   show roundA _ _ (IA (hsF h s (j / 64)) (nq (j / 64)) (j % 64+1) (cellsB (j % 64+1) (pcF s (j / 64))) s ((j+1:Nat):Int))=some (IA (hsF h s ((j+1) / 64)) (nq ((j+1) / 64)) ((j+1) % 64+1) (cellsB ((j+1) % 64+1) (pcF s ((j+1) / 64))) s ((j+1+1:Nat):Int))
   rw [e1,e2]
   exact hx
def qL (s:List UInt8):Nat:=(s.length - 1) / 64
def kL (s:List UInt8):Nat:=(s.length - 1) % 64+1
def postA (h:Nat→UInt32) (s:List UInt8) (r:Nat):List AVal:=hC (hsF h s (qL s)) (.slice r 0 (kL s) 1) (nq (qL s))
theorem at83:Tryz.prog.funcs[229]? = some Tryz.f229:=by kernel_rfl
theorem bo83:Tryz.f229.body=some (bodyOf Tryz.f229):=by kernel_rfl
theorem lp83:(pieces (bodyOf Tryz.f229))[4]? = some (.block 0 (.loop b83)):=by kernel_rfl
theorem add83 (h:Nat→UInt32) (s:List UInt8) (hl:s.length≤140737488355328) (h0:0 < s.length):ansR [5,109] (run1 Tryz.prog (csOne 234 g106) (mask 229) (s.length+1) 229 [.ptr 5 0,.str s] [(4,.cells true ordC),(5,.cells false (hC h .nilSlice 0))] 6)=some (.int .i64 0,[some (.cells false (postA h s 109)),some (.cells false (cellsB (kL s) (pcF s (qL s))))]):=by
 have he:=en83 (s.length+1) (hsF h s (qL s)) (nq (qL s)) s s.length (kL s) (cellsB (kL s) (pcF s (qL s)))
 have hi:Ij h s s.length=IA (hsF h s (qL s)) (nq (qL s)) (kL s) (cellsB (kL s) (pcF s (qL s))) s (s.length:Nat):=by
  obtain ⟨m,hm⟩:∃ m,s.length=m+1:=⟨s.length - 1,by omega⟩
  unfold qL kL
  rw [hm]
  simp only [Nat.add_sub_cancel]
  rfl
 rw [← hi] at he
 have hb:(!(ltB s s.length))=true:=by simp [ltB]
 exact run_loopM (noPS_ok _) (ns:=[5,109]) at83 bo83 rfl 4 lp83 (Ij h s) s.length (pre83 (s.length+1) h s) rfl (fun j hj=>step83 _ h s hl j hj) he (allM hb rfl) (Nat.lt_succ_self _)
noncomputable def adE (a:Nat) (h:Nat→UInt32) (s:List UInt8):EffA:=newB 4 a ordC (hC h .nilSlice 0) (postA h s) (cellsB (kL s) (pcF s (qL s))) (.int .i64 0)
theorem addE_ok (h:Nat→UInt32) (s:List UInt8) (hl:s.length≤140737488355328) (h0:0 < s.length) (a:Nat):CallOk Tryz.prog 229 [.ptr a 0,.str s] (adE a h s):=by
 refine callOk_new1 (csOne_ok fun args e he => ?_) hmix gl1 (by decide) (by kernel_rfl) ordC_lt rfl (ltL_B _ _ _) rfl (fun ρ a b hab => ?_) (add83 h s hl h0) (by decide) (by decide)
 ·unfold g106 at he
  split at he
  ·cases he
   exact inlS_ok (nU_ok _) hmix rfl
  ·cases he
 ·unfold postA hC
  refine RL.append (RL.same rfl) ?_
  exact RL.cons (.same rfl) (RL.cons (.slice hab) (RL.same rfl))
end Go.Proofs.YtanaackimepkdaaGreatDoor.Bk
namespace Go.Proofs.YtanaackimepkdaaGreatDoor.Bk
open Go Go.Eng Go.Num Go.Bla
def h0F (i:Nat):UInt32:=cond (Nat.beq i 0) (iv 0 ^^^ ((0x01010000 ^^^ shl_u32 (UInt32.ofInt 0) 8) ^^^ UInt32.ofInt 32)) (iv i)
theorem new82:newQ 133 (run1 Tryz.prog (nU 2) (mask 228) 200 228 [.int .i64 32,.str []] [] 5)=some (.tup [.ptr 133 0,.int .i64 0],hC h0F .nilSlice 0):=by kernel_rfl
noncomputable def g82:List AVal→Option EffA
 | [.int .i64 32,.str []]=>some (mkE (hC h0F .nilSlice 0) fun b=>.tup [.ptr b 0,.int .i64 0])
 | _=>none
theorem g82_ok:CSOk Tryz.prog (csOne 228 g82):=csOne_ok fun args e he=>by
 unfold g82 at he
 split at he
 ·cases he
  exact callOk_mk (nU_ok _) hmix gl1 rfl (by kernel_rfl) (fun ρ a b h=>.tupL (RL.cons (.ptr h) (RL.same rfl))) new82 (by decide)
 ·cases he
def padF (k:Nat) (f:Nat→UInt8) (i:Nat):UInt8:=cond (Nat.blt i k) (f i) 0
def outC (h:Nat→UInt32):List UInt8:=(List.range 32).map fun i=>(shr_u32 (h (i / 4)) (8 * (i % 4))).toUInt8
def HS7 (h:Nat→UInt32) (n:UInt64) (k:Nat) (f:Nat→UInt8) (n1:UInt64):HL:=[(4,.cells true ordC),(5,.cells false (hC h (.slice 6 0 k 1) n)),(6,.cells false (cellsB k f)),(111,.cells false (hC h (.slice 6 0 k 1) n1)),(199,.cells false (cellsB 64 (padF k f)))]
def HS8 (h:Nat→UInt32) (n:UInt64) (k:Nat) (f:Nat→UInt8) (h2:Nat→UInt32) (n1:UInt64):HL:=[(4,.cells true ordC),(5,.cells false (hC h (.slice 6 0 k 1) n)),(111,.cells false (hC h2 (.slice 6 0 k 1) n1)),(199,.cells false (cellsB 64 (padF k f)))]
def S7 (h:Nat→UInt32) (n:UInt64) (k:Nat) (f:Nat→UInt8) (n1:UInt64):SA:=⟨[(0,.ptr 5 0),(2,.str []),(15,.bool false),(3,.ptr 111 0),(4,.ptr 199 0)],HS7 h n k f n1,239⟩
noncomputable def p84:List Code:=pieces (bodyOf Tryz.f230)
noncomputable def obT (h:Nat→UInt32) (n:UInt64) (k:Nat) (f:Nat→UInt8) (h2:Nat→UInt32) (n1:UInt64):Bool:=oB (tkE [.ptr 111 0,.slice 199 0 64 1,.bool true]) 247 (HS7 h n k f n1) (.tup []) (HS8 h n k f h2 n1)
theorem suf84 (h:Nat→UInt32) (n:UInt64) (k:Nat) (f:Nat→UInt8) (h2:Nat→UInt32) (n1:UInt64):ansG Tryz.prog Tryz.f230 [] (evSO Tryz.prog noPS (csOne 234 g106) [300032] Tryz.f230.ntmps (mask 230) 200 7 (p84.drop 7) (S7 h n k f n1) ⟨[],[.tup [],.tup [.ptr 111 0,.agg (hC h2 (.slice 6 0 k 1) n1),.ptr 199 0,.agg (cellsB 64 (padF k f)),.ptr 6 0,.nilMap]],[]⟩)=some (.str (outC h2),[],[obT h n k f h2 n1]):=by kernel_rfl
def P84 (h:Nat→UInt32) (n:UInt64) (f:Nat→UInt8) (k:Nat):Prop:=segO (evSO Tryz.prog noPS (csOne 234 g106) [] Tryz.f230.ntmps (mask 230) 200 7 (p84.take 7) ⟨startT [.ptr 5 0] 0,[(4,.cells true ordC),(5,.cells false (hC h (.slice 6 0 k 1) n)),(6,.cells false (cellsB k f))],7⟩ ⟨[],[],[]⟩)=some (S7 h n k f (n+UInt64.ofInt (k:Nat)),[])
theorem pre84_0 (h:Nat→UInt32) (n:UInt64) (f:Nat→UInt8):(b:Nat)→b < 8→P84 h n f (8 * 0+b+1)
 | 0,_=>by unfold P84; kernel_rfl
 | 1,_=>by unfold P84; kernel_rfl
 | 2,_=>by unfold P84; kernel_rfl
 | 3,_=>by unfold P84; kernel_rfl
 | 4,_=>by unfold P84; kernel_rfl
 | 5,_=>by unfold P84; kernel_rfl
 | 6,_=>by unfold P84; kernel_rfl
 | 7,_=>by unfold P84; kernel_rfl
theorem pre84_1 (h:Nat→UInt32) (n:UInt64) (f:Nat→UInt8):(b:Nat)→b < 8→P84 h n f (8 * 1+b+1)
 | 0,_=>by unfold P84; kernel_rfl
 | 1,_=>by unfold P84; kernel_rfl
 | 2,_=>by unfold P84; kernel_rfl
 | 3,_=>by unfold P84; kernel_rfl
 | 4,_=>by unfold P84; kernel_rfl
 | 5,_=>by unfold P84; kernel_rfl
 | 6,_=>by unfold P84; kernel_rfl
 | 7,_=>by unfold P84; kernel_rfl
theorem pre84_2 (h:Nat→UInt32) (n:UInt64) (f:Nat→UInt8):(b:Nat)→b < 8→P84 h n f (8 * 2+b+1)
 | 0,_=>by unfold P84; kernel_rfl
 | 1,_=>by unfold P84; kernel_rfl
 | 2,_=>by unfold P84; kernel_rfl
 | 3,_=>by unfold P84; kernel_rfl
 | 4,_=>by unfold P84; kernel_rfl
 | 5,_=>by unfold P84; kernel_rfl
 | 6,_=>by unfold P84; kernel_rfl
 | 7,_=>by unfold P84; kernel_rfl
theorem pre84_3 (h:Nat→UInt32) (n:UInt64) (f:Nat→UInt8):(b:Nat)→b < 8→P84 h n f (8 * 3+b+1)
 | 0,_=>by unfold P84; kernel_rfl
 | 1,_=>by unfold P84; kernel_rfl
 | 2,_=>by unfold P84; kernel_rfl
 | 3,_=>by unfold P84; kernel_rfl
 | 4,_=>by unfold P84; kernel_rfl
 | 5,_=>by unfold P84; kernel_rfl
 | 6,_=>by unfold P84; kernel_rfl
 | 7,_=>by unfold P84; kernel_rfl
theorem pre84_4 (h:Nat→UInt32) (n:UInt64) (f:Nat→UInt8):(b:Nat)→b < 8→P84 h n f (8 * 4+b+1)
 | 0,_=>by unfold P84; kernel_rfl
 | 1,_=>by unfold P84; kernel_rfl
 | 2,_=>by unfold P84; kernel_rfl
 | 3,_=>by unfold P84; kernel_rfl
 | 4,_=>by unfold P84; kernel_rfl
 | 5,_=>by unfold P84; kernel_rfl
 | 6,_=>by unfold P84; kernel_rfl
 | 7,_=>by unfold P84; kernel_rfl
theorem pre84_5 (h:Nat→UInt32) (n:UInt64) (f:Nat→UInt8):(b:Nat)→b < 8→P84 h n f (8 * 5+b+1)
 | 0,_=>by unfold P84; kernel_rfl
 | 1,_=>by unfold P84; kernel_rfl
 | 2,_=>by unfold P84; kernel_rfl
 | 3,_=>by unfold P84; kernel_rfl
 | 4,_=>by unfold P84; kernel_rfl
 | 5,_=>by unfold P84; kernel_rfl
 | 6,_=>by unfold P84; kernel_rfl
 | 7,_=>by unfold P84; kernel_rfl
theorem pre84_6 (h:Nat→UInt32) (n:UInt64) (f:Nat→UInt8):(b:Nat)→b < 8→P84 h n f (8 * 6+b+1)
 | 0,_=>by unfold P84; kernel_rfl
 | 1,_=>by unfold P84; kernel_rfl
 | 2,_=>by unfold P84; kernel_rfl
 | 3,_=>by unfold P84; kernel_rfl
 | 4,_=>by unfold P84; kernel_rfl
 | 5,_=>by unfold P84; kernel_rfl
 | 6,_=>by unfold P84; kernel_rfl
 | 7,_=>by unfold P84; kernel_rfl
theorem pre84_7 (h:Nat→UInt32) (n:UInt64) (f:Nat→UInt8):(b:Nat)→b < 8→P84 h n f (8 * 7+b+1)
 | 0,_=>by unfold P84; kernel_rfl
 | 1,_=>by unfold P84; kernel_rfl
 | 2,_=>by unfold P84; kernel_rfl
 | 3,_=>by unfold P84; kernel_rfl
 | 4,_=>by unfold P84; kernel_rfl
 | 5,_=>by unfold P84; kernel_rfl
 | 6,_=>by unfold P84; kernel_rfl
 | 7,_=>by unfold P84; kernel_rfl
theorem pre84_a (h:Nat→UInt32) (n:UInt64) (f:Nat→UInt8) (b:Nat) (hb:b < 8):(a:Nat)→a < 8→P84 h n f (8 * a+b+1)
 | 0,_=>pre84_0 h n f b hb
 | 1,_=>pre84_1 h n f b hb
 | 2,_=>pre84_2 h n f b hb
 | 3,_=>pre84_3 h n f b hb
 | 4,_=>pre84_4 h n f b hb
 | 5,_=>pre84_5 h n f b hb
 | 6,_=>pre84_6 h n f b hb
 | 7,_=>pre84_7 h n f b hb
theorem pre84 (h:Nat→UInt32) (n:UInt64) (f:Nat→UInt8) (k:Nat) (h0:0 < k) (h1:k < 65):P84 h n f k:=by
 have:=pre84_a h n f ((k - 1) % 8) (by omega) ((k - 1) / 8) (by omega)
 rwa [show 8 * ((k - 1) / 8)+(k - 1) % 8+1=k by omega] at this
end Go.Proofs.YtanaackimepkdaaGreatDoor.Bk
namespace Go.Proofs.YtanaackimepkdaaGreatDoor.Bk
open Go Go.Eng Go.Num Go.Bla
theorem cellsB_nm (k:Nat) (f:Nat→UInt8):(cellsB k f).flatMap nmV=[]:=by
 unfold cellsB
 induction List.range k with
 | nil=>rfl
 | cons x l ih=>exact ih
theorem obT_ok (h:Nat→UInt32) (n:UInt64) (k:Nat) (f:Nat→UInt8) (n1:UInt64):obT h n k f (takeF h n1 (padF k f) true) n1=true:=by
 refine oB_of ?_
 refine Eq.trans (inlS_run (G:=5) (ns:=[111,199,6]) (takeB k h n1 (padF k f)) (by rfl) ordC_lt (by rfl) gl1 ?_ (by rfl) (by rfl) (by kernel_rfl) (by rfl) (us:=[(111,some (.cells false (hC (takeF h n1 (padF k f) true) (.slice 6 0 k 1) n1))),(199,some (.cells false (cellsB 64 (padF k f))))]) (by kernel_rfl)) ?_
 ·have e:reach (aget (HS7 h n k f n1)) [.ptr 111 0,.slice 199 0 64 1,.bool true]=addN [111,199,6] ([6]++([]++((cellsB k f).flatMap nmV++[]))):=by kernel_rfl
  rw [e,cellsB_nm]
  rfl
 ·rfl
theorem at84:Tryz.prog.funcs[230]? = some Tryz.f230:=by kernel_rfl
theorem bo84:Tryz.f230.body=some (bodyOf Tryz.f230):=by kernel_rfl
theorem sum84 (h:Nat→UInt32) (n:UInt64) (k:Nat) (f:Nat→UInt8) (h0:0 < k) (h1:k < 65):ansR [] (run1 Tryz.prog (csOne 234 g106) (mask 230) 200 230 [.ptr 5 0] [(4,.cells true ordC),(5,.cells false (hC h (.slice 6 0 k 1) n)),(6,.cells false (cellsB k f))] 7)=some (.str (outC (takeF h (n+UInt64.ofInt (k:Nat)) (padF k f) true)),[]):=by
 have hp:=pre84 h n f k h0 h1
 unfold P84 at hp
 refine preM (noPS_ok _) at84 bo84 rfl 7 hp rfl ?_
 exact (ansG_ok (noPS_ok _) (suf84 h n k f _ _) (allM (obT_ok _ _ _ _ _) rfl)).1
noncomputable def smE (a:Nat):EffA:=inlS Tryz.prog (csOne 234 g106) 4 (mask 230) 200 230 2 0 [.ptr a 0]
noncomputable def g84:List AVal→Option EffA
 | [.ptr a 0]=>some (smE a)
 | _=>none
theorem g84_ok:CSOk Tryz.prog (csOne 230 g84):=csOne_ok fun args e he=>by
 unfold g84 at he
 split at he
 ·cases he
  exact inlS_ok g106_ok hmix rfl
 ·cases he
def gd (s:List UInt8):Bool:=Nat.blt 0 s.length && Nat.ble s.length 12000
theorem gd_ok {s:List UInt8}(h:gd s=true):0 < s.length∧s.length≤12000:=by
 unfold gd at h
 rw [Bool.and_eq_true] at h
 exact ⟨by simpa using h.1,Nat.le_of_ble_eq_true h.2⟩
def failE:EffA:=.eff fun _ _=>none
theorem fail_ok {f:FuncId}{args:List AVal}:CallOk Tryz.prog f args failE:=by
 intro σ args' H w base v H' hl hg hH happ hf
 unfold failE EffA.app at happ
 simp only at happ
 cases happ
noncomputable def adG (a:Nat) (s:List UInt8):EffA:=cond (gd s) (adE a h0F s) failE
noncomputable def g83:List AVal→Option EffA
 | [.ptr a 0,.str s]=>some (adG a s)
 | _=>none
theorem g83_ok:CSOk Tryz.prog (csOne 229 g83):=csOne_ok fun args e he=>by
 unfold g83 at he
 split at he
 ·rename_i a s
  cases he
  unfold adG
  cases hg:gd s with
  | true=>exact addE_ok h0F s (Nat.le_trans (gd_ok hg).2 (by decide)) (gd_ok hg).1 a
  | false=>exact fail_ok
 ·cases he
noncomputable def csH:CS:=csAlt (csOne 228 g82) (csAlt (csOne 229 g83) (csOne 230 g84))
theorem csH_ok:CSOk Tryz.prog csH:=csAlt_ok g82_ok (csAlt_ok g83_ok g84_ok)
end Go.Proofs.YtanaackimepkdaaGreatDoor.Bk
namespace Go.Proofs.YtanaackimepkdaaGreatDoor.Bk
open Go Go.Eng Go.Num Go.Bla
def H0:HL:=[(4,.cells true ordC)]
def eqL:List AVal→List AVal→Bool
 | [],[]=>true
 | a::l,b::m=>eqS a b && eqL l m
 | _,_=>false
theorem eqL_eq:∀ {l m:List AVal},eqL l m=true→l=m
 | [],[],_=>rfl
 | [],_::_,h=>by cases h
 | _::_,[],h=>by cases h
 | a::l,b::m,h=>by
  simp only [eqL,Bool.and_eq_true] at h
  rw [eqS_eq h.1,eqL_eq h.2]
def tK (v:Option AVal) (η:Nat→Option AObj):Option AVal:=match η 4 with
 | some (.cells true a)=>cond (eqL a ordC) v none
 | _=>none
def tL (v:Option AVal):EffA:=.look 5 (tK v)
theorem tK_cut (v:Option AVal) (η:Nat→Option AObj):tK v (cutH 5 η)=tK v η:=rfl
theorem callOk_tL {cs:CS}(hcs:CSOk Tryz.prog cs){f:FuncId}{args:List AVal}(hcan:(∀ η,reach η args=[])∧cnW 5 [] args=some args){v:Option AVal}
  (h:∀ x,v=some x→unS 5 [] x=some x∧∃ F nn H' fr',run1 Tryz.prog cs nn F f args H0 5=some (x,H',fr')):CallOk Tryz.prog f args (tL v):=by
 cases hv:v with
 | none =>
  intro σ args' H w base v0 H1 hl hg hH happ hf
  unfold tL at happ
  simp only [EffA.app] at happ
  unfold tK at happ
  split at happ
  ·rename_i y hy
   split at hy
   ·rename_i a _
    cases hb:eqL a ordC <;> rw [hb] at hy <;> cases hy
   ·cases hy
  ·cases happ
 | some x =>
  obtain ⟨hx,F,nn,H',fr',hr⟩:=h x hv
  refine callOk_same2 (inlS_ok (g:=4) (nn:=nn) (F:=F) (m:=0) (k:=0) hcs hmix (by rw [gl1]; rfl)) fun base H y H2 ha => ?_
  unfold tL at ha
  simp only [EffA.app,tK_cut] at ha
  cases hk:tK (some x) (aget H) with
  | none=>rw [hk] at ha; cases ha
  | some z =>
   rw [hk] at ha
   simp only [Option.some.injEq,Prod.mk.injEq] at ha
   obtain ⟨rfl,rfl⟩:=ha
   unfold tK at hk
   split at hk
   ·rename_i a h0
    cases hb:eqL a ordC <;> rw [hb] at hk <;> simp only [cond_true,cond_false] at hk
    ·cases hk
    ·cases hk
     have ea:=eqL_eq hb
     subst ea
     refine ⟨_,inlS_run (ns:=[]) (Hc:=[]) (L:=[]) (us:=[]) ?_ h0 ordC_lt rfl gl1 (hcan.1 _) rfl hcan.2 rfl hx rfl,?_⟩
     ·show ansR [] (run1 Tryz.prog cs nn F f args H0 5)=_
      rw [hr]
      rfl
     ·rfl
   ·cases hk
theorem blD_step {G:Nat}{η:Nat→Option AObj}{ns l:List Nat}{n i:Nat}{c c':List AVal}{H:HL}(hη:η n=some (.cells false c)) (hl:blD G η ns l (i+1)=some H) (hc:cnW G ns c=some c'):blD G η ns (n::l) i=some ((G+i,.cells false c')::H):=by
 simp only [blD,hη,hl,hc]
theorem cnW_B (G:Nat) (ns:List Nat) (k:Nat) (f:Nat→UInt8):cnW G ns (cellsB k f)=some (cellsB k f):=by
 unfold cellsB
 induction List.range k with
 | nil=>rfl
 | cons x l ih =>
  simp only [List.map_cons,cnW,ih]
  rfl
def nF (s:List UInt8):UInt64:=nq (qL s)+UInt64.ofInt (kL s:Nat)
def wF (s:List UInt8):Nat→UInt32:=takeF (hsF h0F s (qL s)) (nF s) (padF (kL s) (pcF s (qL s))) true
def oF (s:List UInt8):List UInt8:=outC (wF s)
def HN1:HL:=[(4,.cells true ordC),(37,.cells false (hC h0F .nilSlice 0))]
def HN2 (s:List UInt8):HL:=[(4,.cells true ordC),(37,.cells false (postA h0F s 117)),(117,.cells false (cellsB (kL s) (pcF s (qL s))))]
noncomputable def obN (s:List UInt8):Bool:=oB (adG 37 s) 117 HN1 (.int .i64 0) (HN2 s)
noncomputable def obS (s o:List UInt8):Bool:=oB (smE 37) 133 (HN2 s) (.str o) H0
theorem run60 (s o:List UInt8):ansO (run1O Tryz.prog noPS csH [300021,300023] [] [.int .i64 0,.tup [.ptr 37 0,.agg (postA h0F s 117),.ptr 117 0,.agg (cellsB (kL s) (pcF s (qL s)))],.str o,.tup [.ptr 37 0,.nilMap,.ptr 117 0,.nilMap]] (mask 221) 200 221 [.int .i64 32,.str [],.str s] H0 5)=some (.tup [.str o,.int .i64 0],[obS s o,obN s]):=by kernel_rfl
theorem obN_ok (s:List UInt8) (hg:gd s=true):obN s=true:=by
 refine oB_of ?_
 unfold adG
 rw [hg,cond_true]
 exact newB_app rfl rfl (by decide)
theorem obS_ok (s:List UInt8) (hg:gd s=true):obS s (oF s)=true:=by
 refine oB_of ?_
 have hk:kL s < 65:=by unfold kL; omega
 refine Eq.trans (inlS_run (G:=5) (ns:=[37,117]) (sum84 (hsF h0F s (qL s)) (nq (qL s)) (kL s) (pcF s (qL s)) (Nat.succ_pos _) hk) (by rfl) ordC_lt (by rfl) gl1 ?_ (by rfl) (by rfl) ?_ (by rfl) (us:=[]) (by rfl)) ?_
 ·have e:reach (aget (HN2 s)) [.ptr 37 0]=addN [37,117] ([117]++((cellsB (kL s) (pcF s (qL s))).flatMap nmV++[])):=by kernel_rfl
  rw [e,cellsB_nm]
  rfl
 ·exact blD_step (by rfl) (blD_step (by rfl) (by rfl) (cnW_B _ _ _ _)) (by kernel_rfl)
 ·rfl
noncomputable def g60:List AVal→Option (EffA × Bool)
 | [.int .i64 32,.str [],.str s]=>some (tL (some (.tup [.str (oF s),.int .i64 0])),gd s)
 | _=>none
theorem g60_ok:CSOk Tryz.prog (csP (psOne 221 g60)):=psOne_ok fun args e he=>by
 unfold g60 at he
 split at he
 ·rename_i s
  simp only [Option.some.injEq,Prod.mk.injEq] at he
  obtain ⟨rfl,hg⟩:=he
  refine callOk_tL csH_ok ⟨fun _=>rfl,rfl⟩ fun x hx => ?_
  cases hx
  refine ⟨rfl,200,mask 221,?_⟩
  exact run_of (ansO_run (noPS_ok _) (run60 s (oF s)) (allM (obS_ok s hg) (allM (obN_ok s hg) rfl)))
 ·cases he
theorem run40 (s:List UInt8):ansO (run1O Tryz.prog (psOne 221 g60) (csAlt (csP (psOne 221 g60)) noCS) [7] [] [] (mask 202) 200 202 [.str s] H0 5)=some (.str (oF s),[gd s]):=by kernel_rfl
noncomputable def g40:List AVal→Option (EffA × Bool)
 | [.str s]=>some (tL (some (.str (oF s))),gd s)
 | _=>none
theorem g40_ok:CSOk Tryz.prog (csP (psOne 202 g40)):=psOne_ok fun args e he=>by
 unfold g40 at he
 split at he
 ·rename_i s
  simp only [Option.some.injEq,Prod.mk.injEq] at he
  obtain ⟨rfl,hg⟩:=he
  refine callOk_tL (csAlt_ok g60_ok (noCS_ok _)) ⟨fun _=>rfl,rfl⟩ fun x hx => ?_
  cases hx
  refine ⟨rfl,200,mask 202,?_⟩
  exact run_of (ansO_run csP_ok (run40 s) (allM hg rfl))
 ·cases he
end Go.Proofs.YtanaackimepkdaaGreatDoor.Bk
namespace Go.Eng
open Go
def Fw (ro:Option Nat):Fence:={ Fence.wide with round:=ro }
theorem callsIn_Fw {ro:Option Nat}{n:Nat}{P:Program}{f:FuncId}{args:Array Value}{w:World}{R:Ending→World→Prop}(h:Calls P f args w R):CallsIn (Fw ro) n P f args w R:=
 (callsIn_wide (n:=n)).2 h
theorem rowsIn_Fw {ro:Option Nat}{n:Nat}{P:Program}{row:String}{args:Array Value}{w:World}{R:Value→World→Prop}(h:Rows P row args w R):RowsIn (Fw ro) n P row args w R:=
 fun c cs _=>by
  obtain ⟨v,w',r,s⟩:=h c cs
  exact ⟨v,w',r,stepsIn_wide.2 s⟩
def bare (a:Act):Act:={ a with defers:=[] }
def dressed (D:List Deferred) (a:Act):Act:={ a with defers:=D }
theorem bare_put (a:Act) (d:Option Tmp) (v:Value):dressed a.defers ((bare a).put d v)=a.put d v:=by cases d <;> rfl
theorem effA_nd {P:Program}{cs:CS}{ρ:Operand→Option AVal}{o:Oper}{e:EffA}(h:effA P cs ρ o=some e):∀ c,o.op ≠ .defer c:=by
 intro c hc
 unfold effA at h
 rw [hc] at h
 cases h
theorem wpIn_of_wp {P:Program}{o:Oper}{a:Act}{w:World}{ro:Option Nat}{n:Nat}{K:Act→World→Prop}{Q:Exit→Act→World→Prop}(hnd:∀ c,o.op ≠ .defer c)
  (h:o.wp P (bare a) w (fun a' w'=>a'.defers=[]∧K (dressed a.defers a') w') (fun _ _ _=>False)):o.wpIn (Fw ro) n P a w K Q:=by
 refine ⟨fun _ _=>trivial,?_⟩
 unfold Oper.wp at h
 rw [Oper.semAt_eq _ _ _ hnd]
 have he:(bare a).eval=a.eval:=rfl
 rw [he] at h
 generalize (execOp a.eval o).run P w=r at h ⊢
 have hd:(Fw ro).depth.isSome=true→1≤n:=fun h=>by cases h
 unfold Oper.upon at h
 unfold Oper.uponIn
 split at h
 ·have:=h.2
  rw [bare_put] at this
  exact this
 ·have:=h.2
  rw [bare_put] at this
  exact this
 ·have:=h.1
  cases hdst:o.dst <;> rw [hdst] at this <;> cases this
 ·refine ⟨hd,callsIn_Fw (Calls.mono h fun e w'' he => ?_)⟩
  cases e with
  | returned v =>
   have:=he.2
   rw [bare_put] at this
   exact this
  | panicked ch=>exact he.elim
  | outgrown =>
   obtain ⟨_,_,h⟩:=he
   exact h.elim
 ·refine ⟨hd,rowsIn_Fw ?_⟩
  intro c cs
  obtain ⟨v,w2,h1,h2⟩:=h c cs
  have:=h1.2
  rw [bare_put] at this
  exact ⟨v,w2,this,h2⟩
 ·exact h.elim
 ·exact h.elim
structure RD (P:Program) (σ:Sig) (nt:Nat) (T:TL) (H:HL) (D:List Deferred) (pin:List (Tmp × Value)) (a:Act) (w:World):Prop where
 rel:RRel P σ nt T H (bare a) w
 defers:a.defers=D
 pins:∀ s v,(s,v) ∈ pin→a.tmps[s]? = some v
theorem RD.of {P:Program}{σ:Sig}{nt:Nat}{T:TL}{H:HL}{a:Act}{w:World}(h:RRel P σ nt T H a w):RD P σ nt T H [] [] a w:=⟨⟨h.tmps,h.size,rfl,h.heap,h.glob⟩,h.defers,fun _ _ h=>by cases h⟩
def pinO (ss:List Tmp) (o:Oper):Bool:=match o.dst with
 | none=>true
 | some d => !memN d ss
def pinL (ss:List Tmp):List Oper→Bool
 | []=>true
 | o::l=>pinO ss o && pinL ss l
def pinB (ss:List Tmp):Code→Bool
 | .region _ ops _=>pinL ss ops.toList
 | .seq a b=>pinB ss a && pinB ss b
 | .cond _ a b=>pinB ss a && pinB ss b
 | .block _ b=>pinB ss b
 | .loop b=>pinB ss b
 | _=>true
theorem pinO_nil (o:Oper):pinO [] o=true:=by
 unfold pinO
 split <;> rfl
theorem pinL_nil:∀ l,pinL [] l=true
 | []=>rfl
 | o::l=>by unfold pinL; rw [pinO_nil,pinL_nil l]; rfl
theorem pinB_nil:∀ c,pinB [] c=true
 | .region _ ops _=>pinL_nil _
 | .seq a b=>by unfold pinB; rw [pinB_nil a,pinB_nil b]; rfl
 | .cond _ a b=>by unfold pinB; rw [pinB_nil a,pinB_nil b]; rfl
 | .block _ b=>by unfold pinB; exact pinB_nil b
 | .loop b=>by unfold pinB; exact pinB_nil b
 | .skip=>rfl
 | .label _=>rfl
 | .exit _=>rfl
 | .ret=>rfl
 | .goto _=>rfl
 | .rangeFunc _ _ _ _=>rfl
 | .scope _=>rfl
 | .refuse _=>rfl
theorem pinL_mem {ss:List Tmp}:∀ {l:List Oper},pinL ss l=true→∀ o ∈ l,pinO ss o=true
 | [],_,o,h=>by cases h
 | x::l,h,o,ho=>by
  simp only [pinL,Bool.and_eq_true] at h
  rcases List.mem_cons.1 ho with rfl | ho
  ·exact h.1
  ·exact pinL_mem h.2 o ho
theorem memN_iff:∀ {l:List Nat}{n:Nat},n ∈ l→memN n l=true
 | x::l,n,h=>by
  simp only [memN]
  rcases List.mem_cons.1 h with rfl | h
  ·rw [Nat.beq_refl]; rfl
  ·rw [memN_iff h]
   cases Nat.beq n x <;> cases Nat.beq x n <;> rfl
theorem pin_put {pin:List (Tmp × Value)}{o:Oper}(ho:pinO (pin.map (·.1)) o=true){a:Act}(h:∀ s v,(s,v) ∈ pin→a.tmps[s]? = some v) (u:Value):∀ s v,(s,v) ∈ pin→(a.put o.dst u).tmps[s]? = some v:=fun s v hs=>by
 cases hd:o.dst with
 | none=>exact h s v hs
 | some d =>
  unfold pinO at ho
  rw [hd] at ho
  have hne:d ≠ s:=fun e=>by
   subst e
   have:=memN_iff (List.mem_map.2 ⟨(d,v),hs,rfl⟩:d ∈ pin.map (·.1))
   simp only [this] at ho
   cases ho
  show (a.tmps.setIfInBounds d u)[s]? = some v
  rw [Array.getElem?_setIfInBounds_ne hne]
  exact h s v hs
section
variable {P:Program}{cs:CS}{nt:Nat}{ro:Option Nat}{n:Nat}{D:List Deferred}{pin:List (Tmp × Value)}
theorem stepA_okI (hcs:CSOk P cs){σ:Sig}{T T':TL}{H H':HL}{a:Act}{w:World}{ops:Array Oper}{base i:Nat}{o:Oper}(hi:ops[i]? = some o) (h:stepA P cs nt ops base o T H=some (T',H')) (hr:RD P σ nt T H D pin a w) (hpo:pinO (pin.map (·.1)) o=true)
  (hf:Free σ base) {K:Act→World→Prop} {Q:Exit→Act→World→Prop}
  (hK:∀ σ' a' w',RD P σ' nt T' H' D pin a' w'→Frm σ (aget H) w σ' (aget H') w'→Only σ σ' base→K a' w'):wpOpIn (Fw ro) n P ops Q i K a w:=by
 have hput:∀ u,(a.put o.dst u).defers=a.defers:=fun u=>by cases o.dst <;> rfl
 have hbp:∀ u,bare (a.put o.dst u)=(bare a).put o.dst u:=fun u=>by cases o.dst <;> rfl
 unfold stepA at h
 unfold wpOpIn
 simp only [hi]
 have hy:yielded ops (bare a).tmps=yielded ops a.tmps:=rfl
 split at h
 ·cases h
 ·rename_i hw
  have hwant:=wantA_ok hr.rel hw
  rw [hy] at hwant
  rw [hwant]
  simp only [Bool.false_eq_true,if_false]
  refine ⟨fun _ _=>trivial,?_⟩
  split at h
  ·rename_i T1 hp
   cases h
   refine hK σ _ w ⟨?_,(hput _).trans hr.defers,pin_put hpo hr.pins _⟩ (Frm.refl _ _ _) (Only.refl _ _)
   rw [hbp]
   exact hr.rel.put (Sig.le_refl σ) hr.rel.heap (.tup rfl fun i v v' h=>by simp at h) hp
  ·cases h
 ·rename_i hw
  have hwant:=wantA_ok hr.rel hw
  rw [hy] at hwant
  rw [hwant]
  simp only [if_true]
  split at h
  ·cases h
  ·rename_i e he
   split at h
   ·cases h
   ·rename_i v H1 ha
    split at h
    ·rename_i T1 hp
     cases h
     refine wpIn_of_wp (effA_nd he) (effA_ok hcs hr.rel.env hr.rel.glob he H w base v H' hr.rel.heap ha hf _ _ fun σ' v' w' h1 h2 h3 h4 => ?_)
     refine ⟨by cases o.dst <;> rfl,?_⟩
     rw [bare_put]
     refine hK σ' _ w' ⟨?_,(hput _).trans hr.defers,pin_put hpo hr.pins _⟩ h3 h4
     rw [hbp]
     exact hr.rel.put h3.ext h2 h1 hp
    ·cases h
theorem runA_okI (hcs:CSOk P cs){ops:Array Oper}{Q:Exit→Act→World→Prop}:∀ (l:List Oper) (k base:Nat) (σ:Sig) (T T':TL) (H H':HL) (a:Act) (w:World),(∀ j,l[j]? = ops[k+j]?)→pinL (pin.map (·.1)) l=true →
  runA P cs nt ops l base T H=some (T',H')→RD P σ nt T H D pin a w→Fresh σ base →
  (∀ σ' a' w',RD P σ' nt T' H' D pin a' w'→Frm σ (aget H) w σ' (aget H') w'→Fresh σ' (base+8 * l.length)→Q .normal a' w')→wpOpsIn (Fw ro) n P ops Q (List.range' k l.length) a w:=by
 intro l
 induction l with
 | nil =>
  intro k base σ T T' H H' a w _ _ h hr hf hQ
  simp only [runA,Option.some.injEq,Prod.mk.injEq] at h
  obtain ⟨rfl,rfl⟩:=h
  exact hQ σ a w hr (Frm.refl _ _ _) (by simpa using hf)
 | cons o l ih =>
  intro k base σ T T' H H' a w hl hpl h hr hf hQ
  simp only [pinL,Bool.and_eq_true] at hpl
  simp only [runA] at h
  split at h
  ·cases h
  ·rename_i T1 H1 h1
   have hi:ops[k]? = some o:=by simpa using (hl 0).symm
   simp only [List.length_cons,List.range'_succ,wpOpsIn_cons]
   refine stepA_okI hcs hi h1 hr hpl.1 hf.free fun σ' a' w' g1 g2 g3 => ?_
   refine ih (k+1) (base+8) σ' T1 T' H1 H' a' w' (fun j=>by have:=hl (j+1); simpa [Nat.add_assoc,Nat.add_comm 1 j] using this) hpl.2 h g1 (hf.only g3) fun σ'' a'' w'' q1 q2 q3 => ?_
   exact hQ σ'' a'' w'' q1 (g2.trans q2) (by simp only [List.length_cons]; rw [show base+8 * (l.length+1)=base+8+8 * l.length by omega]; exact q3)
theorem wpAny_ofI {ops:Array Oper}{fr:Nat}{tab:List Nat}{cl:List EKd}{Q:Exit→Act→World→Prop}(hpl:pinL (pin.map (·.1)) ops.toList=true) (hcs:CSOk P cs){G:TL→HL→Prop}:∀ (fuel:Nat) (listed:Array Bool) (T:TL) (H:HL) (σ:Sig) (a:Act) (w:World),AAny P cs nt ops fr tab cl G fuel listed T H→listed.size=ops.size→RD P σ nt T H D pin a w →
  (∀ i,i < ops.size → ¬ LL listed i→Free σ (fr+8 * i))→Fresh σ (fr+8 * ops.size) →
  (∀ σ' T' H' a' w',G T' H'→RD P σ' nt T' H' D pin a' w'→Frm σ (aget H) w σ' (aget H') w'→Fresh σ' (fr+8 * ops.size)→Q .normal a' w')→wpAnyIn (Fw ro) n P .any ops Q fuel listed a w
 | 0,listed,T,H,σ,a,w,hA,_,hr,_,hfr,hQ=>⟨hA.1,hQ σ T H a w hA.2 hr (Frm.refl _ _ _) hfr⟩
 | fuel+1,listed,T,H,σ,a,w,hA,hs,hr,hfree,hfr,hQ=>by
  refine ⟨fun h0=>hQ σ T H a w (hA.1 h0) hr (Frm.refl _ _ _) hfr,fun i hi => ?_⟩
  obtain ⟨T1,H1,hst,hA1⟩:=hA.2 i hi
  obtain ⟨o,e,ho,hk,_,_,hse⟩:=stepD_some hst
  obtain ⟨hilt,hin,_⟩:=ready_facts hs hi
  have hstA:stepA P cs nt ops (fr+8 * i) o T H=some (T1,H1):=by rw [stepA_kind,hk]; exact hse
  refine stepA_okI hcs ho hstA hr (pinL_mem hpl o (by rw [Array.mem_toList_iff]; exact Array.mem_of_getElem? ho)) (hfree i hilt hin) fun σ' a' w' g1 g2 g3 => ?_
  refine wpAny_ofI hpl hcs fuel _ T1 H1 σ' a' w' hA1 (by simpa using hs) g1 (fun m hm hmn => ?_) (fun n hn=>by rw [g3 n (.inr (by omega))]; exact hfr n hn) fun σ'' T'' H'' a'' w'' q1 q2 q3 q4=>hQ σ'' T'' H'' a'' w'' q1 q2 (g2.trans q3) q4
  rw [LL_set (by omega)] at hmn
  have hmi:m ≠ i:=fun e=>hmn (.inl e)
  intro j hj
  rw [g3 _ (by omega)]
  exact hfree m hm (fun h=>hmn (.inr h)) j hj
theorem RD.ext {σ:Sig}{T T':TL}{H H':HL}{a:Act}{w:World}(h:RD P σ nt T H D pin a w) (hT:aget T=aget T') (hH:aget H=aget H'):RD P σ nt T' H' D pin a w:=⟨h.rel.ext hT hH,h.defers,h.pins⟩
theorem RD.less {σ:Sig}{T T':TL}{H H':HL}{a:Act}{w:World}(h:RD P σ nt T H D pin a w) (hT:∀ s v,aget T' s=some v→aget T s=some v) (hH:∀ n o,aget H' n=some o→aget H n=some o):RD P σ nt T' H' D pin a w:=⟨h.rel.less hT hH,h.defers,h.pins⟩
theorem regA_okI (hcs:CSOk P cs) (hm:P.follows .mixedOrders=true){id:Nat}{ops:Array Oper}(hpl:pinL (pin.map (·.1)) ops.toList=true){draw:Bool}{fr:Nat}{T T':TL}{H H':HL}(h:regA P cs nt ops draw fr T H=some (T',H'))
  {σ:Sig} {a:Act} {w:World} (hr:RD P σ nt T H D pin a w) (hfr:Fresh σ fr) {Q:Exit→Act→World→Prop}
  (hQ:∀ σ' a' w',RD P σ' nt T' H' D pin a' w'→Frm σ (aget H) w σ' (aget H') w'→Fresh σ' (fr+8 * ops.size)→Q .normal a' w'):(Code.region id ops draw).wpIn (Fw ro) n P Q a w:=by
 unfold regA at h
 cases draw with
 | false =>
  simp only at h
  refine wpIn_region ?_
  have:=runA_okI (ro:=ro) (n:=n) hcs (Q:=Q) ops.toList 0 fr σ T T' H H' a w (by simp) hpl h hr hfr (by simpa using hQ)
  rw [List.range_eq_range']
  simpa using this
 | true =>
  simp only at h
  cases hrun:runK P cs nt ops fr (befs ops.toList []) ops.toList 0 T H with
  | none=>rw [hrun] at h; cases h
  | some q =>
   obtain ⟨T2,H2,cl⟩:=q
   rw [hrun] at h
   simp only at h
   cases hp:pairsOk ops (befs ops.toList []) cl ops.toList 0 with
   | false=>rw [hp] at h; cases h
   | true =>
    rw [hp] at h
    simp only [cond_true,Option.some.injEq,Prod.mk.injEq] at h
    obtain ⟨rfl,rfl⟩:=h
    refine wpIn_region_any hm ?_
    have hall:∀ i,¬ LL (Array.replicate ops.size false) i:=fun i h=>by
     unfold LL at h
     simp only [Array.getD_eq_getD_getElem?,Array.getElem?_replicate] at h
     split at h <;> simp at h
    have hdc:DC ops (Array.replicate ops.size false):=fun i o hi _ _ _ _=>absurd hi (hall i)
    have htab:∀ listed,DC ops listed→TabOk ops listed (befs ops.toList []):=fun listed hd=>befs_ok hd ops.toList [] (by simp) (fun j b hj=>by simp at hj)
    have hA:=AAny_lex (P:=P) (cs:=cs) (nt:=nt) (fr:=fr) (cl:=cl) (G:=fun X Y=>aget X=aget T2∧aget Y=aget H2) (fun T1 T3 H1 H3 a1 a2 a3=>⟨a1 ▸ a3.1,a2 ▸ a3.2⟩) htab ops.toList 0 (Array.replicate ops.size false) T T2 H H2 cl (by simp) (by simp)
     (fun i=>⟨fun h=>absurd h (hall i),fun h=>by omega⟩) (by simp) hdc hrun (by simp) hp ⟨rfl,rfl⟩
    refine wpAny_ofI hpl (tab:=befs ops.toList []) (cl:=cl) hcs ops.size _ T H σ a { w with drawn:=w.drawn+1 } (by simpa using hA) (by simp) ⟨⟨hr.rel.tmps,hr.rel.size,hr.rel.defers,hr.rel.heap.drew rfl,hr.rel.glob⟩,hr.defers,hr.pins⟩ (fun i _ _ j _=>hfr _ (by omega)) (fun n hn=>hfr n (by omega)) ?_
    intro σ' T3 H3 a' w' g1 g2 g3 g4
    refine hQ σ' a' w' (g2.ext g1.1 g1.2) ?_ g4
    rw [← g1.2]
    exact ⟨g3.ext,g3.size,g3.os,g3.output,g3.tape,g3.old⟩
end
def SimI (P:Program) (bs nt:Nat) (c:Code) (s:SA) (x:XA) (s':SA):Prop:=
 ∀ (ro:Option Nat) (n:Nat) (D:List Deferred) (pin:List (Tmp × Value)) (_:pinB (pin.map (·.1)) c=true) (σ:Sig) (a:Act) (w:World) (Q:Exit→Act→World→Prop),RD P σ nt s.T s.H D pin a w→Fresh σ s.fr →
  (∀ σ' a' w',RD P σ' nt s'.T s'.H D pin a' w'→FrmB bs σ (aget s.H) w σ' (aget s'.H) w'→Fresh σ' s'.fr→Q x.out a' w')→c.wpIn (Fw ro) n P Q a w
theorem iterA_okI {P:Program}{bs nt:Nat}{b:Code}{f:SA→Option (XA × SA)}(hf:∀ s x s',f s=some (x,s')→SimI P bs nt b s x s') (s0:SA):∀ (m:Nat) (s:SA) (x:XA) (s':SA),iterA f (headA P bs s0) m s=some (x,s') →
  ∀ (ro:Option Nat) (n:Nat) (D:List Deferred) (pin:List (Tmp × Value)) (_:pinB (pin.map (·.1)) b=true) (σ0:Sig) (w0:World),Fresh σ0 s0.fr→∀ (σ:Sig) (a:Act) (w:World) (Q:Exit→Act→World→Prop),RD P σ nt s.T s.H D pin a w→Fresh σ s.fr→FrmB bs σ0 (aget s0.H) w0 σ (aget s.H) w →
  (∀ σ' a' w',RD P σ' nt s'.T s'.H D pin a' w'→FrmB bs σ0 (aget s0.H) w0 σ' (aget s'.H) w'→Fresh σ' s'.fr→Q x.out a' w')→Code.roundsIn (Fw ro) n P b Q m a w
 | 0,s,x,s',h,_,_,_,_,_,_,_,_,_,_,_,_,_,_,_,_=>by cases h
 | m+1,s,x,s',h,ro,n,D,pin,hpb,σ0,w0,hf0,σ,a,w,Q,hr,hfr,hfm,hQ=>by
  rw [roundsIn_succ]
  simp only [iterA] at h
  cases hs:f s with
  | none=>rw [hs] at h; cases h
  | some p =>
   obtain ⟨y,s1⟩:=p
   rw [hs] at h
   refine hf s y s1 hs ro n D pin hpb σ a w _ hr hfr fun σ1 a1 w1 g1 g2 g3 => ?_
   cases y with
   | normal =>
    simp only at h
    obtain ⟨σ2,q1,q2,q3⟩:=headA_ok (bs:=bs) s0 s1 g1.rel g3 hf0 (hfm.trans g2)
    exact iterA_okI hf s0 m _ x s' h ro n D pin hpb σ0 w0 hf0 σ2 a1 w1 Q ⟨q1,g1.defers,g1.pins⟩ q2 q3 hQ
   | exit id =>
    simp only [Option.some.injEq,Prod.mk.injEq] at h
    obtain ⟨rfl,rfl⟩:=h
    exact hQ σ1 a1 w1 g1 (hfm.trans g2) g3
   | ret =>
    simp only [Option.some.injEq,Prod.mk.injEq] at h
    obtain ⟨rfl,rfl⟩:=h
    exact hQ σ1 a1 w1 g1 (hfm.trans g2) g3
theorem evC_okI {P:Program}{cs:CS}(hcs:CSOk P cs) (hm:P.follows .mixedOrders=true){nt nn F bs:Nat}:∀ (c:Code) (s:SA) (x:XA) (s':SA),evC P cs nt nn F bs c s=some (x,s')→SimI P bs nt c s x s'
 | .skip,s,x,s',h=>by
  simp only [evC,Option.some.injEq,Prod.mk.injEq] at h
  obtain ⟨rfl,rfl⟩:=h
  exact fun ro n D pin hpb σ a w Q hr hf hQ=>wpIn_skip (hQ σ a w hr (FrmB.refl _ _ _ _) hf)
 | .label l,s,x,s',h=>by
  simp only [evC,Option.some.injEq,Prod.mk.injEq] at h
  obtain ⟨rfl,rfl⟩:=h
  exact fun ro n D pin hpb σ a w Q hr hf hQ=>wpIn_label (hQ σ a w hr (FrmB.refl _ _ _ _) hf)
 | .region id ops d,s,x,s',h=>by
  simp only [evC] at h
  split at h
  ·rename_i T' H' hreg
   cases h
   exact fun ro n D pin hpb σ a w Q hr hf hQ=>regA_okI hcs hm hpb hreg hr hf fun σ' a' w' g1 g2 g3=>hQ σ' a' w' (g1.less (fun _ _=>prune_get) (fun _ _ h=>h)) (g2.b bs) g3
  ·cases h
 | .seq a b,s,x,s',h=>by
  simp only [evC] at h
  cases hs:evC P cs nt nn F bs a s with
  | none=>rw [hs] at h; cases h
  | some p =>
   obtain ⟨y,s1⟩:=p
   rw [hs] at h
   have ha:=evC_okI hcs hm a s y s1 hs
   intro ro n D pin hpb σ ac w Q hr hf hQ
   simp only [pinB,Bool.and_eq_true] at hpb
   refine wpIn_seq (ha ro n D pin hpb.1 σ ac w _ hr hf fun σ1 a1 w1 g1 g2 g3 => ?_)
   cases y with
   | normal =>
    simp only at h
    exact evC_okI hcs hm b s1 x s' h ro n D pin hpb.2 σ1 a1 w1 Q g1 g3 fun σ2 a2 w2 q1 q2 q3=>hQ σ2 a2 w2 q1 (g2.trans q2) q3
   | exit id=>simp only [Option.some.injEq,Prod.mk.injEq] at h; obtain ⟨rfl,rfl⟩:=h; exact hQ σ1 a1 w1 g1 g2 g3
   | ret=>simp only [Option.some.injEq,Prod.mk.injEq] at h; obtain ⟨rfl,rfl⟩:=h; exact hQ σ1 a1 w1 g1 g2 g3
 | .cond c a b,s,x,s',h=>by
  simp only [evC] at h
  split at h
  ·rename_i t ht
   intro ro n D pin hpb σ ac w Q hr hf hQ
   have hv:=hr.rel.env c _ ht
   have hb:ac.eval c=.bool t:=by
    have he:(bare ac).eval c=ac.eval c:=rfl
    rw [he] at hv
    generalize ac.eval c=z at hv; cases hv; rfl
   simp only [pinB,Bool.and_eq_true] at hpb
   refine wpIn_cond hb ?_
   cases t with
   | true=>exact evC_okI hcs hm a s x s' h ro n D pin hpb.1 σ ac w Q hr hf hQ
   | false=>exact evC_okI hcs hm b s x s' h ro n D pin hpb.2 σ ac w Q hr hf hQ
  ·cases h
 | .block id b,s,x,s',h=>by
  simp only [evC] at h
  cases hs:evC P cs nt nn F bs b s with
  | none=>rw [hs] at h; cases h
  | some p =>
   obtain ⟨y,s1⟩:=p
   rw [hs] at h
   have hb:=evC_okI hcs hm b s y s1 hs
   intro ro n D pin hpb σ ac w Q hr hf hQ
   refine wpIn_block (hb ro n D pin hpb σ ac w _ hr hf fun σ1 a1 w1 g1 g2 g3 => ?_)
   cases y with
   | normal=>simp only [Option.some.injEq,Prod.mk.injEq] at h; obtain ⟨rfl,rfl⟩:=h; exact hQ σ1 a1 w1 g1 g2 g3
   | ret=>simp only [Option.some.injEq,Prod.mk.injEq] at h; obtain ⟨rfl,rfl⟩:=h; exact hQ σ1 a1 w1 g1 g2 g3
   | exit id' =>
    simp only at h
    simp only [XA.out,Exit.inBlock]
    rcases beq_cases id' id with ⟨he,hbe⟩ | ⟨he,hbe⟩ <;> rw [hbe] at h <;> simp only [cond_true,cond_false,Option.some.injEq,Prod.mk.injEq] at h
    ·obtain ⟨rfl,rfl⟩:=h
     rw [if_pos he]; exact hQ σ1 a1 w1 g1 g2 g3
    ·obtain ⟨rfl,rfl⟩:=h
     rw [if_neg he]; exact hQ σ1 a1 w1 g1 g2 g3
 | .loop b,s,x,s',h=>by
  simp only [evC] at h
  intro ro n D pin hpb σ ac w Q hr hf hQ
  exact wpIn_loop_rounds F (iterA_okI (fun s x s' hs=>evC_okI hcs hm b s x s' hs) s F s x s' h ro n D pin hpb σ w hf σ ac w Q hr hf (FrmB.refl _ _ _ _) hQ)
 | .exit id,s,x,s',h=>by
  simp only [evC,Option.some.injEq,Prod.mk.injEq] at h
  obtain ⟨rfl,rfl⟩:=h
  exact fun ro n D pin hpb σ a w Q hr hf hQ=>wpIn_exit (hQ σ a w hr (FrmB.refl _ _ _ _) hf)
 | .ret,s,x,s',h=>by
  simp only [evC,Option.some.injEq,Prod.mk.injEq] at h
  obtain ⟨rfl,rfl⟩:=h
  exact fun ro n D pin hpb σ a w Q hr hf hQ=>wpIn_ret (hQ σ a w hr (FrmB.refl _ _ _ _) hf)
 | .rangeFunc _ _ _ _,s,x,s',h=>by simp [evC] at h
 | .scope _,s,x,s',h=>by simp [evC] at h
end Go.Eng
namespace Go.Eng
open Go Go.RowKit
structure Grown (A B:World):Prop where
 size:A.heap.size≤B.heap.size
 old:∀ b,b < A.heap.size→B.heap[b]? = A.heap[b]?
 os:B.os=A.os
 output:B.output=A.output
 tape:B.tape=A.tape
theorem Grown.refl (A:World):Grown A A:=⟨Nat.le_refl _,fun _ _=>rfl,rfl,rfl,rfl⟩
theorem Grown.trans {A B C:World}(h:Grown A B) (k:Grown B C):Grown A C:=
 ⟨Nat.le_trans h.size k.size,fun b hb=>(k.old b (Nat.lt_of_lt_of_le hb h.size)).trans (h.old b hb),k.os.trans h.os,k.output.trans h.output,k.tape.trans h.tape⟩
theorem HRel.grown {σ:Sig}{H:Heap}{A B:World}(h:HRel σ H A) (g:Grown A B):HRel σ H B:=
 ⟨fun n o hn=>by
  obtain ⟨p,hp,ho⟩:=h.obj n o hn
  exact ⟨p,hp,ho.mono (Sig.le_refl σ) (g.old _ ho.lt)⟩,h.inj⟩
theorem Frm.grown {σ σ':Sig}{H H':Heap}{w A B:World}(h:Frm σ H w σ' H' A) (g:Grown A B):Frm σ H w σ' H' B:=
 ⟨h.ext,Nat.le_trans h.size g.size,g.os.trans h.os,g.output.trans h.output,g.tape.trans h.tape,fun b hb hn=>by
  obtain ⟨h1,h2⟩:=h.old b hb hn
  exact ⟨(g.old b (Nat.lt_of_lt_of_le hb h.size)).trans h1,h2⟩⟩
def LessRo (Hc H:HL):Prop:=∀ n o,aget Hc n=some o→∃ ro c,o=.cells true c∧aget H n=some (.cells ro c)
theorem HRel.lessRo {σ:Sig}{Hc H:HL}{w:World}(h:HRel σ (aget H) w) (hl:LessRo Hc H):HRel σ (aget Hc) w:=
 ⟨fun n o hn=>by
  obtain ⟨ro,c,rfl,h2⟩:=hl n o hn
  obtain ⟨p,hp,d,t,fz,e1,e2,e3,e4⟩:=h.obj n _ h2
  exact ⟨p,hp,d,t,fz,e1,e2,e3,(fun e=>by cases e),e4.2⟩,fun n m o o' p q h1 h2 _ _ _=>by
  obtain ⟨_,_,rfl,_⟩:=hl n o h1
  obtain ⟨_,_,rfl,_⟩:=hl m o' h2
  exact .inr ⟨rfl,rfl⟩⟩
theorem not_own {σ:Sig}{H:Heap}{w:World}(h:HRel σ H w){b:Nat}{ob:Obj}(hb:w.heap[b]? = some ob) (hc:(∀ c t fz,ob ≠ .cells c t fz)∧∀ en clk,ob ≠ .map en clk):¬ Own σ H b:=by
 rintro ⟨n,o,p,h1,h2,h3,h4⟩
 obtain ⟨q,hq,ho⟩:=h.obj n o h1
 rw [h3] at hq
 cases hq
 cases o with
 | cells ro c =>
  obtain ⟨c',t,fz,h5,_⟩:=ho
  rw [h4,hb] at h5
  cases h5
  exact hc.1 _ _ _ rfl
 | mp c =>
  obtain ⟨en,clk,h5,_⟩:=ho
  rw [h4,hb] at h5
  cases h5
  exact hc.2 _ _ rfl
theorem HRel.putObj {σ:Sig}{H:Heap}{w:World}(h:HRel σ H w){l:Nat}{o o':Obj}(hl:w.heap[l]? = some o) (hc:(∀ c t fz,o ≠ .cells c t fz)∧∀ en clk,o ≠ .map en clk):HRel σ H (w.putObj l o'):=
 ⟨fun n ob hn=>by
  obtain ⟨p,hp,ho⟩:=h.obj n ob hn
  refine ⟨p,hp,ho.mono (Sig.le_refl σ) (World.putObj_heap_other fun e => ?_)⟩
  cases ob with
  | cells ro c =>
   obtain ⟨c',t,fz,h5,_⟩:=ho
   rw [e,hl] at h5
   cases h5
   exact hc.1 _ _ _ rfl
  | mp c =>
   obtain ⟨en,clk,h5,_⟩:=ho
   rw [e,hl] at h5
   cases h5
   exact hc.2 _ _ rfl,h.inj⟩
theorem Frm.putObj {σ σ':Sig}{H H':Heap}{w w':World}(h:Frm σ H w σ' H' w'){l:Nat}{o:Obj}(hl:w.heap.size≤l):Frm σ H w σ' H' (w'.putObj l o):=
 ⟨h.ext,by rw [show (w'.putObj l o).heap.size=w'.heap.size by simp [World.putObj]]; exact h.size,h.os,h.output,h.tape,fun b hb hn=>by
  obtain ⟨h1,h2⟩:=h.old b hb hn
  exact ⟨(World.putObj_heap_other (by omega)).trans h1,h2⟩⟩
theorem FrmB.full {bs:Nat}{σ σ':Sig}{H H':Heap}{w w':World}(h:FrmB bs σ H w σ' H' w') (hf:Fresh σ bs):Frm σ H w σ' H' w':=
 ⟨fun n p hp=>h.ext n p (Nat.lt_of_not_le fun hle=>by rw [hf n hle] at hp; cases hp) hp,h.size,h.os,h.output,h.tape,h.old⟩
def putPs:TL→List Tmp→List AVal→TL
 | T,p::ps,v::vs=>putPs (aset T p v) ps vs
 | T,_,_=>T
theorem putPs_ok {σ:Sig}{nt:Nat}:∀ (ps:List Tmp) (vs:List AVal) (vs':List Value) (T:TL) (t:Array Value),(∀ p ∈ ps,p < nt)→LR σ vs vs'.toArray→(∀ s v,aget T s=some v→∃ v',t[s]? = some v'∧VR σ v v')→t.size=nt →
  (∀ s v,aget (putPs T ps vs) s=some v→∃ v',((ps.zip vs').foldl (fun (t:Array Value) (p:Tmp × Value)=>t.setIfInBounds p.1 p.2) t)[s]? = some v'∧VR σ v v')∧((ps.zip vs').foldl (fun (t:Array Value) (p:Tmp × Value)=>t.setIfInBounds p.1 p.2) t).size=nt
 | [],_,_,T,t,_,_,hT,hs=>by simpa [putPs] using ⟨hT,hs⟩
 | p::ps,[],vs',T,t,_,hl,hT,hs=>by
  have:vs'=[]:=by
   have:=hl.1
   simpa using this.symm
  subst this
  simpa [putPs] using ⟨hT,hs⟩
 | p::ps,v::vs,[],T,t,_,hl,hT,hs=>by
  have:=hl.1
  simp at this
 | p::ps,v::vs,v'::vs',T,t,hp,hl,hT,hs=>by
  have hv:VR σ v v':=hl.2 0 v v' rfl rfl
  have hl2:LR σ vs vs'.toArray:=⟨by have:=hl.1; simpa using this,fun i x x' h1 h2=>hl.2 (i+1) x x' (by simpa using h1) (by simpa using h2)⟩
  have hpn:p < nt:=hp p (by simp)
  simp only [putPs,List.zip_cons_cons,List.foldl_cons]
  refine putPs_ok ps vs vs' _ _ (fun q hq=>hp q (by simp [hq])) hl2 (fun s u hu => ?_) (by simp [hs])
  rw [aget_aset] at hu
  split at hu
  ·rename_i e
   subst e
   cases hu
   exact ⟨v',by rw [Array.getElem?_setIfInBounds_self,if_pos (by rw [hs]; exact hpn)],hv⟩
  ·rename_i e
   obtain ⟨u',h1,h2⟩:=hT s u hu
   exact ⟨u',by rw [Array.getElem?_setIfInBounds_ne e]; exact h1,h2⟩
def ItOk (P:Program) (gf:FuncId) (cap:List AVal) (Hc:HL) (X:Nat→List AVal) (N:Nat) (fin:Bool):Prop:=
 ∀ (lb:Array Value) (l:Nat) (J:Nat→World→Prop) (Jx:World→Prop) (W:World),
  (∀ k A B,J k A→Grown A B→J k B)→(∀ A B,Jx A→Grown A B→Jx B) →
  (∀ k W1,J k W1→k≤N∧∃ σ1,GRel P σ1∧HRel σ1 (aget Hc) W1∧LR σ1 cap lb∧((k < N ∨ fin=false)→∀ xs,LR σ1 (X k) xs→∀ m,YieldAt Fence.wide m P l xs W1 fun e W'=>(e=.returned (.bool true)∧J (k+1) W') ∨ (e=.returned (.bool false)∧Jx W'))) →
  J 0 W→Calls P gf (#[.func (.yield l) #[] #[]]++lb) W fun e W'=>(∃ v,e=.returned v)∧((fin=true∧J N W') ∨ Jx W')
def outX (fin:Bool) (id:Nat):Exit:=cond fin .normal (.exit id)
theorem rangeFunc_okI {P:Program}{cs:CS}(hcs:CSOk P cs) (hm:P.follows .mixedOrders=true){nt nn F:Nat}{g:Operand}{ps:Array Tmp}{assign body:Code}{s:SA}{gf:FuncId}{cap:List AVal}{Hc:HL}{X:Nat→List AVal}{N:Nat}{fin:Bool}
  (hg:opd P (aget s.T) g=some (.fn gf cap)) (hent:∀ args w,(callFunc gf args).run P w=.ok (.enter gf args) w) (hit:ItOk P gf cap Hc X N fin) (hgl:P.globals.size≤s.fr)
  (HH:Nat→HL) (h0:∀ n o,aget (HH 0) n=some o→aget s.H n=some o) (hlt:∀ k,k≤N→ltH s.fr (HH k)=true) (hHc:∀ k,k≤N→LessRo Hc (HH k))
  (hX:∀ k,(X k).length=ps.size) (hps:∀ p ∈ ps.toList,p < nt)
  (hround:∀ k,k < N→∃ sa s',evC P cs nt nn F s.fr assign ⟨putPs s.T ps.toList (X k),HH k,s.fr⟩=some (.normal,sa)∧evC P cs nt nn F s.fr body sa=some (.normal,s')∧∀ n o,aget (HH (k+1)) n=some o→aget s'.H n=some o)
  {id:Nat} {Hf:HL} (hfin:fin=true→Hf=HH N) (hltf:ltH s.fr Hf=true)
  (hlast:fin=false→∃ sa s',evC P cs nt nn F s.fr assign ⟨putPs s.T ps.toList (X N),HH N,s.fr⟩=some (.normal,sa)∧evC P cs nt nn F s.fr body sa=some (.exit id,s')∧∀ n o,aget Hf n=some o→aget s'.H n=some o)
  {n:Nat} {D:List Deferred} {σ:Sig} {a:Act} {w:World} {Q:Exit→Act→World→Prop} (hr:RD P σ nt s.T s.H D [] a w) (hf:Fresh σ s.fr)
  (hQ:∀ σ' a' w' B,RD P σ' nt s.T Hf ({ target:=.collected B,args:=#[] }::D) [] a' w'→Frm σ (aget s.H) w σ' (aget Hf) w'→Fresh σ' s.fr→w'.heap[B]? = some (.deferred (some []))→w.heap.size≤B→Q (outX fin id) a' w') :
  (Code.rangeFunc g ps assign body).wpIn (Fw none) n P Q a w:=by
 refine wpIn_rangeFunc ?_
 intro fnn hfn
 have hgv:=hr.rel.env g _ hg
 have hgv2:VR σ (.fn gf cap) (a.eval g):=hgv
 obtain ⟨cap',hge,hcap⟩:∃ cap',a.eval g=.func (.func gf) #[] cap'∧LR σ cap cap':=by
  generalize a.eval g=z at hgv2
  cases hgv2 with
  | fn h1 h2=>exact ⟨_,rfl,h1,h2⟩
 obtain ⟨rec,hrec⟩:∃ rec:LoopState→Option Code→Loop,rec=fun st pe => { state:=st,pending:=pe,fn:=fnn,tmps:=a.tmps,params:=ps,assign,body,defers:=w.heap.size }:=⟨_,rfl⟩
 obtain ⟨W1,hW1⟩:∃ W1,(w.alloc (.deferred (some []))).alloc (.loop (rec .ready none))=W1:=⟨_,rfl⟩
 have hL1:W1.heap[w.heap.size+1]? = some (.loop (rec .ready none)):=by
  rw [← hW1]; have:=World.alloc_heap_new (w.alloc (.deferred (some []))) (.loop (rec .ready none)); rwa [World.size_alloc] at this
 have hK1:W1.heap[w.heap.size]? = some (.deferred (some [])):=by
  rw [← hW1]; exact (Below.heap_alloc _ _ _ (by simp)).trans (World.alloc_heap_new w _)
 have hGr:Grown w W1:=by
  rw [← hW1]
  exact ⟨by simp; omega,fun b hb=>(Below.heap_alloc _ _ _ (by simp; omega)).trans (Below.heap_alloc w _ b hb),rfl,rfl,rfl⟩
 -- what holds between two rounds
 obtain ⟨J,hJ⟩:∃ J:Nat→World→Prop,J=fun k W=>k≤N∧(∃ σ',HRel σ' (aget (HH k)) W∧Frm σ (aget s.H) w σ' (aget (HH k)) W∧Fresh σ' s.fr)∧W.heap[w.heap.size+1]? = some (.loop (rec .ready none))∧W.heap[w.heap.size]? = some (.deferred (some [])):=⟨_,rfl⟩
 obtain ⟨Jx,hJx⟩:∃ Jx:World→Prop,Jx=fun W=>fin=false∧(∃ σ',HRel σ' (aget Hf) W∧Frm σ (aget s.H) w σ' (aget Hf) W∧Fresh σ' s.fr)∧W.heap[w.heap.size+1]? = some (.loop (rec .done (some (.exit id))))∧W.heap[w.heap.size]? = some (.deferred (some [])):=⟨_,rfl⟩
 have hlp:∀ st pe,(∀ c t fz,Obj.loop (rec st pe) ≠ .cells c t fz)∧∀ en clk,Obj.loop (rec st pe) ≠ .map en clk:=fun _ _=>⟨fun _ _ _ h=>(nomatch h),fun _ _ h=>(nomatch h)⟩
 have hdf:(∀ c t fz,Obj.deferred (some []) ≠ .cells c t fz)∧∀ en clk,Obj.deferred (some []) ≠ .map en clk:=⟨fun _ _ _ h=>(nomatch h),fun _ _ h=>(nomatch h)⟩
 have keep:∀ {A B:World} {b:Nat} {o:Obj},A.heap[b]? = some o→Grown A B→B.heap[b]? = some o:=fun h g=>(g.old _ (Array.getElem?_eq_some_iff.1 h).1).trans h
 refine ⟨w.heap.size+1,[{ target:=.collected w.heap.size,args:=#[] }],W1,{ target:=.fn (.func gf) cap',args:=#[.func (.yield (w.heap.size+1)) #[] #[]] },W1,gf,
  #[.func (.yield (w.heap.size+1)) #[] #[]]++cap',W1,?_,?_,?_,?_,(fun h=>by cases h),?_⟩
 ·rw [← hW1,hrec]; exact run_enterLoop_outer _ _ _ _ _
 ·simp only [resolve,hge]
  simp [go_sem]
 ·intro f' hf'; trivial
 ·simp [invoke,go_sem,hent]
 ·refine callsIn_Fw ((hit cap' (w.heap.size+1) J Jx W1 ?_ ?_ ?_ ?_).mono ?_)
  ·rw [hJ]
   rintro k A B ⟨hk,⟨σ',q1,q2,q3⟩,q4,q5⟩ gr
   exact ⟨hk,⟨σ',q1.grown gr,q2.grown gr,q3⟩,keep q4 gr,keep q5 gr⟩
  ·rw [hJx]
   rintro A B ⟨hk,⟨σ',q1,q2,q3⟩,q4,q5⟩ gr
   exact ⟨hk,⟨σ',q1.grown gr,q2.grown gr,q3⟩,keep q4 gr,keep q5 gr⟩
  ·rw [hJ]
   rintro k W ⟨hk,⟨σ1,q1,q2,q3⟩,hl,hd⟩
   refine ⟨hk,σ1,hr.rel.glob.mono q2.ext,q1.lessRo (hHc k hk),hcap.mono q2.ext,fun hkN xs hxs m => ?_⟩
   have hlW:w.heap.size+1 < W.heap.size:=(Array.getElem?_eq_some_iff.1 hl).1
   have hsz:xs.size=(rec .ready none).params.size:=by rw [← hxs.1,hX k,hrec]
   have hy:=run_yield (P:=P) hl hsz
   refine ⟨fnn,_,assign,body,by rw [hrec] at hy; exact hy,roundIn_of_wpIn hfn ?_⟩
   -- the round's own activation
   obtain ⟨xl⟩:=xs
   have hput:=putPs_ok (σ:=σ1) (nt:=nt) ps.toList (X k) xl s.T a.tmps hps hxs (fun t v hv=>by
    obtain ⟨v',e1,e2⟩:=hr.rel.tmps t v hv
    exact ⟨v',e1,e2.mono q2.ext⟩) hr.rel.size
   have harr:(ps.zip xl.toArray).foldl (fun tmps (p:Tmp × Value)=>tmps.setIfInBounds p.1 p.2) a.tmps=(ps.toList.zip xl).foldl (fun (t:Array Value) (p:Tmp × Value)=>t.setIfInBounds p.1 p.2) a.tmps:=by
    rw [← Array.foldl_toList,Array.toList_zip]
   have hr1:RD P σ1 nt (putPs s.T ps.toList (X k)) (HH k) [] [] { tmps:=(ps.zip xl.toArray).foldl (fun tmps (p:Tmp × Value)=>tmps.setIfInBounds p.1 p.2) a.tmps,defers:=[] } W:=by
    refine ⟨⟨fun t v hv => ?_,?_,rfl,q1,hr.rel.glob.mono q2.ext⟩,rfl,fun _ _ h=>by cases h⟩
    ·obtain ⟨v',e1,e2⟩:=hput.1 t v hv
     exact ⟨v',by show ((ps.zip xl.toArray).foldl _ a.tmps)[t]? = some v'; rw [harr]; exact e1,e2⟩
    ·show ((ps.zip xl.toArray).foldl _ a.tmps).size=nt
     rw [harr]; exact hput.2
   have go:∀ (x:XA) (sa s':SA),evC P cs nt nn F s.fr assign ⟨putPs s.T ps.toList (X k),HH k,s.fr⟩=some (.normal,sa)→evC P cs nt nn F s.fr body sa=some (x,s')→∀ R:Ending→World→Prop,
     (∀ σ3 a3 w3,RD P σ3 nt s'.T s'.H [] [] a3 w3→Frm σ (aget s.H) w σ3 (aget s'.H) w3→w3.heap[w.heap.size+1]? = some (.loop (rec .busy none))→w3.heap[w.heap.size]? = some (.deferred (some []))→roundPost P (w.heap.size+1) R x.out a3 w3) →
     assign.wpIn (Fence.wide.inRound (w.heap.size+1)) m P (Exit.then (fun a₁ w₁ => ∃ w₂,(Instr.beginRound (w.heap.size+1)).run P w₁=.ok () w₂∧body.wpIn (Fence.wide.inRound (w.heap.size+1)) m P (roundPost P (w.heap.size+1) R) a₁ w₂) (fun _ _ _=>False))
      { tmps:=(ps.zip xl.toArray).foldl (fun tmps (p:Tmp × Value)=>tmps.setIfInBounds p.1 p.2) a.tmps,defers:=[] } W:=fun x sa s' ha hb R hR=>by
    refine evC_okI hcs hm assign _ _ _ ha (some (w.heap.size+1)) m [] [] (pinB_nil _) σ1 _ W _ hr1 q3 fun σ2 a1 w1 g1 g2 g3 => ?_
    have G2:=g2.full q3
    have hl1:=(G2.old _ hlW (not_own q1 hl (hlp _ _))).1.trans hl
    have hd1:=(G2.old _ (by omega) (not_own q1 hd hdf)).1.trans hd
    have hb1:=run_beginRound (P:=P) hl1 (by rw [hrec])
    have hrb:({ rec .ready none with state:=.busy }:Loop)=rec .busy none:=by rw [hrec]
    rw [hrb] at hb1
    refine ⟨_,hb1,?_⟩
    have hw1:w.heap.size+1 < w1.heap.size:=(Array.getElem?_eq_some_iff.1 hl1).1
    have A:=(q2.trans G2).putObj (l:=w.heap.size+1) (o:=.loop (rec .busy none)) (by omega)
    have hh2:=g1.rel.heap.putObj (o':=.loop (rec .busy none)) hl1 (hlp _ _)
    have hl2:(w1.putObj (w.heap.size+1) (.loop (rec .busy none))).heap[w.heap.size+1]? = some (.loop (rec .busy none)):=World.putObj_heap_same hw1
    have hd2:(w1.putObj (w.heap.size+1) (.loop (rec .busy none))).heap[w.heap.size]? = some (.deferred (some [])):=(World.putObj_heap_other (by omega)).trans hd1
    refine evC_okI hcs hm body sa x s' hb (some (w.heap.size+1)) m [] [] (pinB_nil _) σ2 a1 _ _ ⟨⟨g1.rel.tmps,g1.rel.size,g1.rel.defers,hh2,g1.rel.glob⟩,g1.defers,g1.pins⟩ g3 fun σ3 a3 w3 k1 k2 k3 => ?_
    have B:=((A.b s.fr).trans k2).full hf
    exact hR σ3 a3 w3 k1 B ((k2.old _ (Array.getElem?_eq_some_iff.1 hl2).1 (not_own hh2 hl2 (hlp _ _))).1.trans hl2) ((k2.old _ (Array.getElem?_eq_some_iff.1 hd2).1 (not_own hh2 hd2 hdf)).1.trans hd2)
   have next:∀ {σ3:Sig} {a3:Act} {w3:World} {s':SA} {H':HL} {o:Obj},RD P σ3 nt s'.T s'.H [] [] a3 w3→Frm σ (aget s.H) w σ3 (aget s'.H) w3→w3.heap[w.heap.size+1]? = some (.loop (rec .busy none))→(∀ n o,aget H' n=some o→aget s'.H n=some o)→ltH s.fr H'=true →
     ∃ σ',HRel σ' (aget H') (w3.putObj (w.heap.size+1) o)∧Frm σ (aget s.H) w σ' (aget H') (w3.putObj (w.heap.size+1) o)∧Fresh σ' s.fr:=fun {σ3 a3 w3 s' H' o} k1 B hl3 hs hlt'=>by
    have c1:=(k1.rel.less (T':=[]) (fun _ _ h=>by simp [aget] at h) hs).cut (m:=s.fr) rfl hlt' hgl
    have c2:=((B.less hs).b s.fr).cut hf
    exact ⟨_,c1.heap.putObj hl3 (hlp _ _),(c2.full hf).putObj (by omega),cut_fresh _ _⟩
   by_cases hkn:k < N
   ·obtain ⟨sa,s',ha,hb,hs⟩:=hround k hkn
    refine go _ sa s' ha hb _ fun σ3 a3 w3 k1 B hl3 hd3 => ?_
    have he:=run_endRound (P:=P) none hl3
    have hrb:({ rec .busy none with state:=if (none:Option Code).isNone then .ready else .done,pending:=none }:Loop)=rec .ready none:=by rw [hrec]; rfl
    rw [hrb] at he
    refine ⟨_,_,he,.inl ⟨rfl,hkn,next k1 B hl3 hs (hlt (k+1) hkn),World.putObj_heap_same (Array.getElem?_eq_some_iff.1 hl3).1,(World.putObj_heap_other (by omega)).trans hd3⟩⟩
   ·have hk2:k=N:=by omega
    subst hk2
    have hff:=hkN.resolve_left hkn
    obtain ⟨sa,s',ha,hb,hs⟩:=hlast hff
    refine go _ sa s' ha hb _ fun σ3 a3 w3 k1 B hl3 hd3 => ?_
    have he:=run_endRound (P:=P) (some (.exit id)) hl3
    have hrb:({ rec .busy none with state:=if (some (Code.exit id)).isNone then .ready else .done,pending:=some (.exit id) }:Loop)=rec .done (some (.exit id)):=by rw [hrec]; rfl
    rw [hrb] at he
    refine ⟨_,_,he,.inr ⟨rfl,?_⟩⟩
    rw [hJx]
    exact ⟨hff,next k1 B hl3 hs hltf,World.putObj_heap_same (Array.getElem?_eq_some_iff.1 hl3).1,(World.putObj_heap_other (by omega)).trans hd3⟩
  ·rw [hJ]
   exact ⟨Nat.zero_le _,⟨σ,(hr.rel.heap.less h0).grown hGr,((Frm.refl σ (aget s.H) w).less h0).grown hGr,hf⟩,hL1,hK1⟩
  ·rintro e W3 ⟨⟨v,rfl⟩,⟨hfn1,hj⟩ | hj⟩
   ·rw [hJ] at hj
    obtain ⟨hk,⟨σ',q1,q2,q3⟩,hl,hd⟩:=hj
    have hend:=run_endLoop (P:=P) hl (by rw [hrec]; simp)
    have hp:(rec .ready none).pending=none:=by rw [hrec]
    rw [hp] at hend
    refine ⟨none,_,hend,?_⟩
    subst hfn1
    rw [hfin rfl] at hQ
    refine hQ σ' _ _ w.heap.size ⟨⟨fun t v hv => ?_,hr.rel.size,rfl,q1.putObj hl (hlp _ _),hr.rel.glob.mono q2.ext⟩,?_,fun _ _ h=>by cases h⟩ (q2.putObj (by omega)) q3 ?_ (Nat.le_refl _)
    ·obtain ⟨v',e1,e2⟩:=hr.rel.tmps t v hv
     exact ⟨v',e1,e2.mono q2.ext⟩
    ·show [_]++a.defers=_
     rw [hr.defers]; rfl
    ·rw [World.putObj_heap_other (by omega)]; exact hd
   ·rw [hJx] at hj
    obtain ⟨hk,⟨σ',q1,q2,q3⟩,hl,hd⟩:=hj
    have hend:=run_endLoop (P:=P) hl (by rw [hrec]; simp)
    have hp:(rec .done (some (.exit id))).pending=some (.exit id):=by rw [hrec]
    rw [hp] at hend
    refine ⟨some (.exit id),_,hend,wpIn_exit ?_⟩
    subst hk
    refine hQ σ' _ _ w.heap.size ⟨⟨fun t v hv => ?_,hr.rel.size,rfl,q1.putObj hl (hlp _ _),hr.rel.glob.mono q2.ext⟩,?_,fun _ _ h=>by cases h⟩ (q2.putObj (by omega)) q3 ?_ (Nat.le_refl _)
    ·obtain ⟨v',e1,e2⟩:=hr.rel.tmps t v hv
     exact ⟨v',e1,e2.mono q2.ext⟩
    ·show [_]++a.defers=_
     rw [hr.defers]; rfl
    ·rw [World.putObj_heap_other (by omega)]; exact hd
end Go.Eng
namespace Go.Eng
open Go Go.RowKit
def wpS (ro:Option Nat) (n:Nat) (P:Program):List Code→(Exit→Act→World→Prop)→Act→World→Prop
 | [],Q=>Q .normal
 | c::l,Q=>c.wpIn (Fw ro) n P (Exit.then (wpS ro n P l Q) Q)
section
variable {P:Program}{ro:Option Nat}{n:Nat}
theorem wpS_mono:∀ (l:List Code){Q Q':Exit→Act→World→Prop}{a:Act}{w:World},wpS ro n P l Q a w→(∀ e a w,Q e a w→Q' e a w)→wpS ro n P l Q' a w
 | [],_,_,_,_,h,hq=>hq _ _ _ h
 | c::l,Q,Q',a,w,h,hq=>wpIn_mono h fun e a w he=>by
  cases e with
  | normal=>exact wpS_mono l he hq
  | exit id=>exact hq _ _ _ he
  | goto t=>exact hq _ _ _ he
  | ret=>exact hq _ _ _ he
  | panic ch=>exact hq _ _ _ he
  | outgrown=>exact hq _ _ _ he
theorem wpS_app:∀ (l m:List Code){Q:Exit→Act→World→Prop}{a:Act}{w:World},wpS ro n P (l++m) Q a w→wpS ro n P l (Exit.then (wpS ro n P m Q) Q) a w
 | [],m,Q,a,w,h=>h
 | c::l,m,Q,a,w,h=>wpIn_mono h fun e a w he=>by
  cases e with
  | normal=>exact wpS_app l m he
  | exit id=>exact he
  | goto t=>exact he
  | ret=>exact he
  | panic ch=>exact he
  | outgrown=>exact he
theorem wpS_app':∀ (l m:List Code){Q:Exit→Act→World→Prop}{a:Act}{w:World},wpS ro n P l (Exit.then (wpS ro n P m Q) Q) a w→wpS ro n P (l++m) Q a w
 | [],m,Q,a,w,h=>h
 | c::l,m,Q,a,w,h=>wpIn_mono h fun e a w he=>by
  cases e with
  | normal=>exact wpS_app' l m he
  | exit id=>exact he
  | goto t=>exact he
  | ret=>exact he
  | panic ch=>exact he
  | outgrown=>exact he
theorem wpS_pieces:∀ (c:Code){Q:Exit→Act→World→Prop}{a:Act}{w:World},wpS ro n P (pieces c) Q a w→c.wpIn (Fw ro) n P Q a w:=by
 have one:∀ (c:Code) {Q:Exit→Act→World→Prop} {a:Act} {w:World},wpS ro n P [c] Q a w→c.wpIn (Fw ro) n P Q a w:=fun c Q a w h=>wpIn_mono h fun e a w he=>by cases e <;> exact he
 intro c
 induction c with
 | seq a b iha ihb =>
  intro Q ac w h
  refine wpIn_seq (iha (wpS_mono _ (wpS_app _ _ h) fun e a w he => ?_))
  cases e with
  | normal=>exact ihb he
  | exit id=>exact he
  | goto t=>exact he
  | ret=>exact he
  | panic ch=>exact he
  | outgrown=>exact he
 | _=>intro Q ac w h; exact one _ h
end
def pinS (ss:List Tmp):List Code→Bool
 | []=>true
 | c::l=>pinB ss c && pinS ss l
theorem pinS_nil:∀ l,pinS [] l=true
 | []=>rfl
 | c::l=>by unfold pinS; rw [pinB_nil,pinS_nil l]; rfl
theorem evS_okI {P:Program}{cs:CS}(hcs:CSOk P cs) (hm:P.follows .mixedOrders=true){nt nn F bs:Nat}:∀ (l:List Code) (s:SA) (x:XA) (s':SA),evS P cs nt nn F bs l s=some (x,s') →
  ∀ (ro:Option Nat) (n:Nat) (D:List Deferred) (pin:List (Tmp × Value)) (_:pinS (pin.map (·.1)) l=true) (σ:Sig) (a:Act) (w:World) (Q:Exit→Act→World→Prop),RD P σ nt s.T s.H D pin a w→Fresh σ s.fr →
  (∀ σ' a' w',RD P σ' nt s'.T s'.H D pin a' w'→FrmB bs σ (aget s.H) w σ' (aget s'.H) w'→Fresh σ' s'.fr→Q x.out a' w')→wpS ro n P l Q a w
 | [],s,x,s',h,ro,n,D,pin,hpb,σ,a,w,Q,hr,hf,hQ=>by
  simp only [evS,Option.some.injEq,Prod.mk.injEq] at h
  obtain ⟨rfl,rfl⟩:=h
  exact hQ σ a w hr (FrmB.refl _ _ _ _) hf
 | c::l,s,x,s',h,ro,n,D,pin,hpb,σ,a,w,Q,hr,hf,hQ=>by
  simp only [pinS,Bool.and_eq_true] at hpb
  simp only [evS] at h
  cases hs:evC P cs nt nn F bs c s with
  | none=>rw [hs] at h; cases h
  | some p =>
   obtain ⟨y,s1⟩:=p
   rw [hs] at h
   refine evC_okI hcs hm c s y s1 hs ro n D pin hpb.1 σ a w _ hr hf fun σ1 a1 w1 g1 g2 g3 => ?_
   cases y with
   | normal =>
    simp only at h
    exact evS_okI hcs hm l s1 x s' h ro n D pin hpb.2 σ1 a1 w1 Q g1 g3 fun σ2 a2 w2 q1 q2 q3=>hQ σ2 a2 w2 q1 (g2.trans q2) q3
   | exit id=>simp only [Option.some.injEq,Prod.mk.injEq] at h; obtain ⟨rfl,rfl⟩:=h; exact hQ σ1 a1 w1 g1 g2 g3
   | ret=>simp only [Option.some.injEq,Prod.mk.injEq] at h; obtain ⟨rfl,rfl⟩:=h; exact hQ σ1 a1 w1 g1 g2 g3
def finR (P:Program) (fn:Func) (s:SA):Option (AVal × HL × Nat):=match resA P s.T s.H fn.results.toList with
 | none=>none
 | some [v]=>some (v,s.H,s.fr)
 | some vs=>some (.tup vs,s.H,s.fr)
theorem finR_ok {P:Program}{fn:Func}{s:SA}{v:AVal}{H':HL}{fr':Nat}(h:finR P fn s=some (v,H',fr')){σ:Sig}{nt:Nat}{a:Act}{w:World}(g1:RRel P σ nt s.T s.H a w) :
  H'=s.H∧fr'=s.fr∧∃ u,(results fn a.tmps).run P w=.ok u w∧VR σ v u:=by
 unfold finR at h
 cases hres:resA P s.T s.H fn.results.toList with
 | none=>rw [hres] at h; cases h
 | some vs =>
  rw [hres] at h
  obtain ⟨vs',k1,k2⟩:=resA_ok g1 hres
  have hrun:(fn.results.mapM (m:=Sem) fun
    | .tmp t=>pure (a.tmps.getD t undef)
    | .cell b t=>do loadVar t (← asAddr (a.tmps.getD b undef))).run P w=.ok vs'.toArray w:=by
   rw [Array.mapM_eq_mapM_toList]
   simp only [Sem.run_map]
   exact congrArg (fun r=>Result.andThen r fun (a:List Value) w'=>Result.ok a.toArray w') k1
  have hres2:(results fn a.tmps).run P w=.ok (if h:vs'.toArray.size=1 then vs'.toArray[0] else .tuple vs'.toArray) w:=by
   unfold results
   simp only [Sem.run_bind]
   exact congrArg (fun r=>Result.andThen r fun (vs:Array Value) w''=>(pure (if h:vs.size=1 then vs[0] else .tuple vs):Sem Value).run P w'') hrun
  match vs,k2,h with
  | [u],k2,h =>
   simp only [Option.some.injEq,Prod.mk.injEq] at h
   obtain ⟨rfl,rfl,rfl⟩:=h
   obtain ⟨x',e1,e2⟩:=k2.inv1
   have:vs'=[x']:=by simpa using e1
   subst this
   exact ⟨rfl,rfl,x',hres2,e2⟩
  | [],k2,h =>
   simp only [Option.some.injEq,Prod.mk.injEq] at h
   obtain ⟨rfl,rfl,rfl⟩:=h
   have hl:vs'.toArray.size ≠ 1:=by have:=k2.1; simp at this ⊢; omega
   rw [dif_neg hl] at hres2
   exact ⟨rfl,rfl,_,hres2,.tup k2.1 k2.2⟩
  | x::y::l,k2,h =>
   simp only [Option.some.injEq,Prod.mk.injEq] at h
   obtain ⟨rfl,rfl,rfl⟩:=h
   have hl:vs'.toArray.size ≠ 1:=by have:=k2.1; simp at this ⊢; omega
   rw [dif_neg hl] at hres2
   exact ⟨rfl,rfl,_,hres2,.tup k2.1 k2.2⟩
theorem runR_ok {P:Program}{cs:CS}(hcs:CSOk P cs) (hm:P.follows .mixedOrders=true){nn F:Nat}{f:FuncId}{fn:Func}{c:Code}(hfn:P.funcs[f]? = some fn) (hb:fn.body=some c){args:List AVal}{H:HL}{fr:Nat}(hn:Nat.ble args.length fn.ntmps=true)
  {l1 l2:List Code} {rid:Nat} {g:Operand} {ps:Array Tmp} {assign body:Code} (hp:pieces c=l1 ++ .block rid (.rangeFunc g ps assign body)::l2) {s:SA} (h1:evS P cs fn.ntmps nn F fr l1 ⟨startT args 0,H,fr⟩=some (.normal,s))
  {gf:FuncId} {cap:List AVal} {Hc:HL} {X:Nat→List AVal} {N:Nat} {fin:Bool}
  (hg:opd P (aget s.T) g=some (.fn gf cap)) (hent:∀ args w,(callFunc gf args).run P w=.ok (.enter gf args) w) (hit:ItOk P gf cap Hc X N fin) (hgl:P.globals.size≤s.fr)
  (HH:Nat→HL) (h0:∀ n o,aget (HH 0) n=some o→aget s.H n=some o) (hlt:∀ k,k≤N→ltH s.fr (HH k)=true) (hHc:∀ k,k≤N→LessRo Hc (HH k))
  (hX:∀ k,(X k).length=ps.size) (hps:∀ p ∈ ps.toList,p < fn.ntmps)
  (hround:∀ k,k < N→∃ sa s',evC P cs fn.ntmps nn F s.fr assign ⟨putPs s.T ps.toList (X k),HH k,s.fr⟩=some (.normal,sa)∧evC P cs fn.ntmps nn F s.fr body sa=some (.normal,s')∧∀ n o,aget (HH (k+1)) n=some o→aget s'.H n=some o)
  {Hf:HL} (hfin:fin=true→Hf=HH N) (hltf:ltH s.fr Hf=true)
  (hlast:fin=false→∃ sa s',evC P cs fn.ntmps nn F s.fr assign ⟨putPs s.T ps.toList (X N),HH N,s.fr⟩=some (.normal,sa)∧evC P cs fn.ntmps nn F s.fr body sa=some (.exit rid,s')∧∀ n o,aget Hf n=some o→aget s'.H n=some o)
  {x:XA} {s2:SA} (h2:evS P cs fn.ntmps nn F fr l2 ⟨s.T,Hf,s.fr⟩=some (x,s2)) (hx:x=.normal ∨ x=.ret) {v:AVal} {H':HL} {fr':Nat} (hres:finR P fn s2=some (v,H',fr'))
  {σ:Sig} {args':Array Value} {w:World} (ha:LR σ args args') (hH:HRel σ (aget H) w) (hgr:GRel P σ) (hfr:Fresh σ fr) :
  Calls P f args' w fun r w' => ∃ σ' v',r=.returned v'∧VR σ' v v'∧HRel σ' (aget H') w'∧Frm σ (aget H) w σ' (aget H') w'∧Fresh σ' fr':=by
 have hn:=Nat.le_of_ble_eq_true hn
 have hr0:RRel P σ fn.ntmps (startT args 0) H { tmps:=args' ++ Array.replicate (fn.ntmps - args'.size) undef,defers:=[] } w:=by
  refine ⟨fun s v hv => ?_,by simp [← ha.1]; omega,rfl,hH,hgr⟩
  obtain ⟨_,h1⟩:=startT_get hv
  obtain ⟨v',g1,g2⟩:=ha.get (by simpa using h1)
  refine ⟨v',?_,g2⟩
  simp only
  rw [Array.getElem?_append_left (Array.getElem?_eq_some_iff.1 g1).1]
  exact g1
 refine (callsIn_wide (n:=0)).1 (callsIn_of_wp_marks (F:=Fence.wide) hfn hb trivial ?_ rfl)
 refine wpS_pieces (ro:=none) (n:=0) c ?_
 rw [hp]
 refine wpS_app' _ _ (evS_okI hcs hm l1 _ _ _ h1 none 0 [] [] (pinS_nil _) σ _ w _ (.of hr0) hfr fun σ1 a1 w1 g1 g2 g3 => ?_)
 have G2:=g2.full hfr
 show (Code.block rid (.rangeFunc g ps assign body)).wpIn (Fw none) 0 P _ a1 w1
 refine wpIn_block (rangeFunc_okI hcs hm hg hent hit hgl HH h0 hlt hHc hX hps hround hfin hltf hlast g1 g3 fun σ2 a2 w2 B q1 q2 q3 q4 q5 => ?_)
 have goal:wpS none 0 P l2 (bodyPostM Fence.wide 0 P fn fun r w' => ∃ σ' v',r=.returned v'∧VR σ' v v'∧HRel σ' (aget H') w'∧Frm σ (aget H) w σ' (aget H') w'∧Fresh σ' fr') a2 w2:=by
  refine evS_okI hcs hm l2 _ _ _ h2 none 0 _ [] (pinS_nil _) σ2 a2 w2 _ q1 q3 fun σ3 a3 w3 k1 k2 k3 => ?_
  have hB:=(k2.old B (Array.getElem?_eq_some_iff.1 q4).1 (not_own q1.rel.heap q4 ⟨fun _ _ _ h=>(nomatch h),fun _ _ h=>(nomatch h)⟩)).1.trans q4
  have hBw:w.heap.size≤B:=Nat.le_trans G2.size q5
  have fin:LeavesInM Fence.wide 0 P fn a3.tmps (fun r w' => ∃ σ' v',r=.returned v'∧VR σ' v v'∧HRel σ' (aget H') w'∧Frm σ (aget H) w σ' (aget H') w'∧Fresh σ' fr') a3.defers .returning w3:=by
   rw [k1.defers]
   refine ⟨by simp,.inl ⟨B,_,rfl,run_takeDeferred hB,?_⟩⟩
   have hh:=k1.rel.heap.putObj (o':=.deferred none) hB ⟨fun _ _ _ h=>(nomatch h),fun _ _ h=>(nomatch h)⟩
   have rr:RRel P σ3 fn.ntmps s2.T s2.H (bare a3) (w3.putObj B (.deferred none)):=⟨k1.rel.tmps,k1.rel.size,k1.rel.defers,hh,k1.rel.glob⟩
   obtain ⟨rfl,rfl,u,e1,e2⟩:=finR_ok hres rr
   refine ⟨u,e1,σ3,u,rfl,e2,hh,?_,k3⟩
   exact ((((G2.trans q2).b fr).trans k2).full hfr).putObj hBw
  rcases hx with rfl | rfl
  ·exact fin
  ·exact fin
 unfold outX
 cases fin with
 | true=>exact goal
 | false =>
  simp only [cond_false,Exit.inBlock,if_true]
  exact goal
theorem callOk_of {P:Program}{f:FuncId}{args:List AVal}{v:AVal}{H':HL}{fr':Nat}
  (h:∀ (σ:Sig) (args':Array Value) (w:World),LR σ args args'→HRel σ (aget []) w→GRel P σ→Fresh σ P.globals.size→Calls P f args' w fun r w' => ∃ σ' v',r=.returned v'∧VR σ' v v'∧HRel σ' (aget H') w'∧Frm σ (aget []) w σ' (aget H') w'∧Fresh σ' fr')
  (ha:allV args=true) (hv:ltV 0 v=true):CallOk P f args (.pure v):=by
 intro σ args' H w base v0 H0 hl hg hH happ hfree
 simp only [EffA.app,Option.some.injEq,Prod.mk.injEq] at happ
 obtain ⟨rfl,rfl⟩:=happ
 have hl0:LR (cut P.globals.size σ) args args':=hl.cut0 (allV_mem ha) _
 have hg0:GRel P (cut P.globals.size σ):=fun g hgl=>by
  obtain ⟨sz,hs⟩:=hg g hgl
  exact ⟨sz,cut_of hs hgl⟩
 refine (h _ _ _ hl0 ⟨fun n o hn=>by simp [aget] at hn,fun n m o o' p q hn=>by simp [aget] at hn⟩ hg0 (cut_fresh _ _)).mono fun r w' hrw => ?_
 obtain ⟨σ',v',rfl,g1,g2,g3,g4⟩:=hrw
 have hold:∀ b,b < w.heap.size→w'.heap[b]? = w.heap[b]?:=fun b hb=>(g3.old b hb fun ⟨n,o,p,a1,_⟩=>by simp [aget] at a1).1
 refine ⟨σ,v',rfl,g1.cut0 hv σ,⟨fun n o hn => ?_,hH.inj⟩,⟨Sig.le_refl σ,g3.size,g3.os,g3.output,g3.tape,fun b hb hn=>⟨hold b hb,hn⟩⟩,Only.refl σ base⟩
 obtain ⟨p,hp,ho⟩:=hH.obj n o hn
 exact ⟨p,hp,ho.mono (Sig.le_refl σ) (hold _ ho.lt)⟩
end Go.Eng
namespace Go.Eng
open Go
inductive XJ where
 | out (x:XA)
 | jump (l:Nat)
def XJ.exit:XJ→Exit
 | .out x=>x.out
 | .jump l=>.goto l
def SimJ (P:Program) (bs nt:Nat) (c:Code) (s:SA) (x:XJ) (s':SA):Prop:=
 ∀ (σ:Sig) (a:Act) (w:World) (Q:Exit→Act→World→Prop),RRel P σ nt s.T s.H a w→Fresh σ s.fr →
  (∀ σ' a' w',RRel P σ' nt s'.T s'.H a' w'→FrmB bs σ (aget s.H) w σ' (aget s'.H) w'→Fresh σ' s'.fr→Q x.exit a' w')→c.wp P Q a w
section
variable (P:Program) (cs:CS) (nt nn F bs:Nat)
def liftJ:Option (XA × SA)→Option (XJ × SA)
 | some (x,s)=>some (.out x,s)
 | none=>none
def evJ:Code→SA→Option (XJ × SA)
 | .seq a b,s=>match evJ a s with
  | some (.out .normal,s')=>evJ b s'
  | r=>r
 | .cond c a b,s=>match opd P (aget s.T) c with
  | some (.bool t)=>cond t (evJ a s) (evJ b s)
  | _=>none
 | .goto l,s=>some (.jump l,s)
 | c,s=>liftJ (evC P cs nt nn F bs c s)
def goJ (c:Code):Nat→Code→SA→Option (XA × SA)
 | 0,_,_=>none
 | n+1,d,s=>match evJ P cs nt nn F bs d s with
  | some (.out x,s')=>some (x,s')
  | some (.jump l,s')=>match findLabel c l with
   | some rest=>goJ c n rest s'
   | none=>none
  | none=>none
def evX:Code→SA→Option (XA × SA)
 | .seq a b,s=>match evX a s with
  | some (.normal,s')=>evX b s'
  | r=>r
 | .scope c,s=>goJ P cs nt nn F bs c F c s
 | c,s=>evC P cs nt nn F bs c s
end
section
variable {P:Program}{cs:CS}{nt nn F bs:Nat}
theorem lift_ok (hcs:CSOk P cs) (hm:P.follows .mixedOrders=true){c:Code}{s:SA}{x:XJ}{s':SA}(h:liftJ (evC P cs nt nn F bs c s)=some (x,s')):SimJ P bs nt c s x s':=by
 cases hs:evC P cs nt nn F bs c s with
 | none=>rw [hs] at h; cases h
 | some p =>
  obtain ⟨y,s1⟩:=p
  rw [hs] at h
  cases h
  exact evC_ok hcs hm c s y s' hs
theorem evJ_ok (hcs:CSOk P cs) (hm:P.follows .mixedOrders=true):∀ (c:Code) (s:SA) (x:XJ) (s':SA),evJ P cs nt nn F bs c s=some (x,s')→SimJ P bs nt c s x s'
 | .seq a b,s,x,s',h=>by
  simp only [evJ] at h
  cases hs:evJ P cs nt nn F bs a s with
  | none=>rw [hs] at h; cases h
  | some p =>
   obtain ⟨y,s1⟩:=p
   rw [hs] at h
   have ha:=evJ_ok hcs hm a s y s1 hs
   intro σ ac w Q hr hf hQ
   refine wp_seq (ha σ ac w _ hr hf fun σ1 a1 w1 g1 g2 g3 => ?_)
   cases y with
   | out y =>
    cases y with
    | normal =>
     simp only at h
     exact evJ_ok hcs hm b s1 x s' h σ1 a1 w1 Q g1 g3 fun σ2 a2 w2 q1 q2 q3=>hQ σ2 a2 w2 q1 (g2.trans q2) q3
    | exit id=>simp only [Option.some.injEq,Prod.mk.injEq] at h; obtain ⟨rfl,rfl⟩:=h; exact hQ σ1 a1 w1 g1 g2 g3
    | ret=>simp only [Option.some.injEq,Prod.mk.injEq] at h; obtain ⟨rfl,rfl⟩:=h; exact hQ σ1 a1 w1 g1 g2 g3
   | jump l=>simp only [Option.some.injEq,Prod.mk.injEq] at h; obtain ⟨rfl,rfl⟩:=h; exact hQ σ1 a1 w1 g1 g2 g3
 | .cond c a b,s,x,s',h=>by
  simp only [evJ] at h
  split at h
  ·rename_i t ht
   intro σ ac w Q hr hf hQ
   have hv:=hr.env c _ ht
   have hb:ac.eval c=.bool t:=by generalize ac.eval c=z at hv; cases hv; rfl
   refine wp_cond hb ?_
   cases t with
   | true=>exact evJ_ok hcs hm a s x s' h σ ac w Q hr hf hQ
   | false=>exact evJ_ok hcs hm b s x s' h σ ac w Q hr hf hQ
  ·cases h
 | .goto l,s,x,s',h=>by
  simp only [evJ,Option.some.injEq,Prod.mk.injEq] at h
  obtain ⟨rfl,rfl⟩:=h
  exact fun σ a w Q hr hf hQ=>wp_goto (hQ σ a w hr (FrmB.refl _ _ _ _) hf)
 | .skip,s,x,s',h=>lift_ok hcs hm h
 | .label _,s,x,s',h=>lift_ok hcs hm h
 | .region _ _ _,s,x,s',h=>lift_ok hcs hm h
 | .block _ _,s,x,s',h=>lift_ok hcs hm h
 | .loop _,s,x,s',h=>lift_ok hcs hm h
 | .exit _,s,x,s',h=>lift_ok hcs hm h
 | .ret,s,x,s',h=>lift_ok hcs hm h
 | .rangeFunc _ _ _ _,s,x,s',h=>lift_ok hcs hm h
 | .scope _,s,x,s',h=>lift_ok hcs hm h
 | .refuse _,s,x,s',h=>lift_ok hcs hm h
def InScope (P:Program) (c d:Code) (Q:Exit→Act→World→Prop) (a:Act) (w:World):Prop:=
 ∀ b k cs,∃ e a' w',Q e a' w'∧Arrives P (lone (b.at a (.code d::.inScope c::k)) cs w) b k cs e a' w'
theorem inScope_of {c d:Code}{Q:Exit→Act→World→Prop}{a:Act}{w:World}
  (h:d.wp P (fun e a' w'=>match e with
   | .goto l => ∃ rest,findLabel c l=some rest∧InScope P c rest Q a' w'
   | e=>Q e a' w') a w):InScope P c d Q a w:=by
 intro b k cs
 obtain ⟨e,a₁,w₁,hq,harr⟩:=h b (.inScope c::k) cs
 cases e with
 | normal=>exact ⟨.normal,a₁,w₁,hq,Steps.trans harr (.one step_inScope)⟩
 | exit id=>exact ⟨.exit id,a₁,w₁,hq,fun k' hk=>harr k' (by simp [exitTo,hk])⟩
 | goto l =>
  obtain ⟨rest,hf,hr⟩:=hq
  have hg:gotoIn l (.inScope c::k)=some (.code rest::.inScope c::k):=by simp [gotoIn,hf]
  obtain ⟨e₂,a₂,w₂,hq₂,harr₂⟩:=hr b k cs
  exact ⟨e₂,a₂,w₂,hq₂,.of_steps (harr _ hg) harr₂⟩
 | ret=>exact ⟨_,a₁,w₁,hq,harr⟩
 | panic ch=>exact ⟨_,a₁,w₁,hq,harr⟩
 | outgrown=>exact ⟨_,a₁,w₁,hq,harr⟩
theorem wp_of_inScope {c:Code}{Q:Exit→Act→World→Prop}{a:Act}{w:World}(h:InScope P c c Q a w):(Code.scope c).wp P Q a w:=by
 intro b k cs
 obtain ⟨e,a₁,w₁,hq,harr⟩:=h b k cs
 exact ⟨e,a₁,w₁,hq,.of_steps (.one step_scope) harr⟩
theorem goJ_ok (hcs:CSOk P cs) (hm:P.follows .mixedOrders=true){c:Code}:∀ (n:Nat) (d:Code) (s:SA) (x:XA) (s':SA),goJ P cs nt nn F bs c n d s=some (x,s') →
  ∀ (σ:Sig) (a:Act) (w:World) (Q:Exit→Act→World→Prop),RRel P σ nt s.T s.H a w→Fresh σ s.fr →
  (∀ σ' a' w',RRel P σ' nt s'.T s'.H a' w'→FrmB bs σ (aget s.H) w σ' (aget s'.H) w'→Fresh σ' s'.fr→Q x.out a' w')→InScope P c d Q a w
 | 0,_,_,_,_,h=>by cases h
 | n+1,d,s,x,s',h=>by
  intro σ a w Q hr hf hQ
  simp only [goJ] at h
  cases hs:evJ P cs nt nn F bs d s with
  | none=>rw [hs] at h; cases h
  | some p =>
   obtain ⟨y,s1⟩:=p
   rw [hs] at h
   refine inScope_of (evJ_ok hcs hm d s y s1 hs σ a w _ hr hf fun σ1 a1 w1 g1 g2 g3 => ?_)
   cases y with
   | out y =>
    simp only [Option.some.injEq,Prod.mk.injEq] at h
    obtain ⟨rfl,rfl⟩:=h
    have:=hQ σ1 a1 w1 g1 g2 g3
    cases y <;> exact this
   | jump l =>
    simp only at h
    cases hl:findLabel c l with
    | none=>rw [hl] at h; cases h
    | some rest =>
     rw [hl] at h
     exact ⟨rest,hl,goJ_ok hcs hm n rest s1 x s' h σ1 a1 w1 Q g1 g3 fun σ2 a2 w2 q1 q2 q3=>hQ σ2 a2 w2 q1 (g2.trans q2) q3⟩
theorem evX_ok (hcs:CSOk P cs) (hm:P.follows .mixedOrders=true):∀ (c:Code) (s:SA) (x:XA) (s':SA),evX P cs nt nn F bs c s=some (x,s')→Sim P bs nt c s x s'
 | .seq a b,s,x,s',h=>by
  simp only [evX] at h
  cases hs:evX P cs nt nn F bs a s with
  | none=>rw [hs] at h; cases h
  | some p =>
   obtain ⟨y,s1⟩:=p
   rw [hs] at h
   have ha:=evX_ok hcs hm a s y s1 hs
   intro σ ac w Q hr hf hQ
   refine wp_seq (ha σ ac w _ hr hf fun σ1 a1 w1 g1 g2 g3 => ?_)
   cases y with
   | normal =>
    simp only at h
    exact evX_ok hcs hm b s1 x s' h σ1 a1 w1 Q g1 g3 fun σ2 a2 w2 q1 q2 q3=>hQ σ2 a2 w2 q1 (g2.trans q2) q3
   | exit id=>simp only [Option.some.injEq,Prod.mk.injEq] at h; obtain ⟨rfl,rfl⟩:=h; exact hQ σ1 a1 w1 g1 g2 g3
   | ret=>simp only [Option.some.injEq,Prod.mk.injEq] at h; obtain ⟨rfl,rfl⟩:=h; exact hQ σ1 a1 w1 g1 g2 g3
 | .scope c,s,x,s',h=>fun σ a w Q hr hf hQ=>wp_of_inScope (goJ_ok hcs hm F c s x s' h σ a w Q hr hf hQ)
 | .skip,s,x,s',h=>evC_ok hcs hm _ s x s' h
 | .label _,s,x,s',h=>evC_ok hcs hm _ s x s' h
 | .region _ _ _,s,x,s',h=>evC_ok hcs hm _ s x s' h
 | .cond _ _ _,s,x,s',h=>evC_ok hcs hm _ s x s' h
 | .goto _,s,x,s',h=>evC_ok hcs hm _ s x s' h
 | .block _ _,s,x,s',h=>evC_ok hcs hm _ s x s' h
 | .loop _,s,x,s',h=>evC_ok hcs hm _ s x s' h
 | .exit _,s,x,s',h=>evC_ok hcs hm _ s x s' h
 | .ret,s,x,s',h=>evC_ok hcs hm _ s x s' h
 | .rangeFunc _ _ _ _,s,x,s',h=>evC_ok hcs hm _ s x s' h
 | .refuse _,s,x,s',h=>evC_ok hcs hm _ s x s' h
end
end Go.Eng
namespace Go.Eng
open Go
def runXT (P:Program) (cs:CS) (nn F:Nat) (g:Nat) (ct:List AVal) (f:FuncId) (args:List AVal):Option AVal:=
 match P.funcs[f]? with
 | none=>none
 | some fn=>match fn.body with
  | none=>none
  | some c=>cond (Nat.ble args.length fn.ntmps && allV args) (match evX P cs fn.ntmps nn F P.globals.size c ⟨startT args 0,[(g,.cells true ct)],P.globals.size⟩ with
   | some (.normal,s) | some (.ret,s)=>match finR P fn s with
    | some (v,_,_)=>cond (ltV 0 v) (some v) none
    | none=>none
   | _=>none) none
noncomputable def lookT (g:Nat) (ct:List AVal) (v:AVal):EffA:=.eff fun _ η=>cond (decP (η g=some (.cells true ct))) (some (v,[])) none
theorem callOk_XT {P:Program}{cs:CS}(hcs:CSOk P cs) (hm:P.follows .mixedOrders=true){nn F g:Nat}{ct:List AVal}(hgl:g < P.globals.size) (hct:ltL 0 ct=true){f:FuncId}{args:List AVal}{v:AVal}(h:runXT P cs nn F g ct f args=some v):CallOk P f args (lookT g ct v):=by
 intro σ args' H w base v0 H0 hl hg hH happ hfree
 unfold lookT at happ
 simp only [EffA.app] at happ
 cases hd:decP (aget H g=some (.cells true ct)) with
 | false=>rw [hd] at happ; cases happ
 | true =>
 rw [hd] at happ
 simp only [cond_true,Option.some.injEq,Prod.mk.injEq] at happ
 obtain ⟨rfl,rfl⟩:=happ
 have hgt:=of_decP hd
 unfold runXT at h
 split at h
 ·cases h
 rename_i fn hfn
 split at h
 ·cases h
 rename_i c hb
 cases hc:(Nat.ble args.length fn.ntmps && allV args) with
 | false=>rw [hc] at h; cases h
 | true =>
  rw [hc,cond_true] at h
  rw [Bool.and_eq_true] at hc
  have hn:=Nat.le_of_ble_eq_true hc.1
  have one:∀ n o,aget ([(g,AObj.cells true ct)]:HL) n=some o→n=g∧o=.cells true ct:=fun n o hn=>by
   simp only [aget] at hn
   rcases beq_cases g n with ⟨e,hb⟩ | ⟨e,hb⟩ <;> rw [hb] at hn
   ·cases hn; exact ⟨e.symm,rfl⟩
   ·cases hn
  have hl0:LR (Go.Eng.cut P.globals.size σ) args args':=hl.cut0 (allV_mem hc.2) _
  have hg0:GRel P (Go.Eng.cut P.globals.size σ):=fun g hgl=>by
   obtain ⟨sz,hs⟩:=hg g hgl
   exact ⟨sz,cut_of hs hgl⟩
  have hH0:HRel (Go.Eng.cut P.globals.size σ) (aget [(g,AObj.cells true ct)]) w:=by
   refine ⟨fun n o hn => ?_,fun n m o o' p q hn hm' hp hq he => ?_⟩
   ·obtain ⟨rfl,rfl⟩:=one n o hn
    obtain ⟨p,hp,ho⟩:=hH.obj n _ hgt
    exact ⟨p,cut_of hp hgl,ho.plain hct⟩
   ·obtain ⟨rfl,rfl⟩:=one n o hn
    obtain ⟨rfl,rfl⟩:=one m o' hm'
    exact .inl rfl
  have key:∀ (x:XA) (s:SA),evX P cs fn.ntmps nn F P.globals.size c ⟨startT args 0,[(g,.cells true ct)],P.globals.size⟩=some (x,s)→(x=.normal ∨ x=.ret)→∀ H' fr',finR P fn s=some (v,H',fr')→ltV 0 v=true →
    Calls P f args' w fun r w' => ∃ σ' v',r=.returned v'∧VR σ' v v'∧HRel σ' (aget H) w'∧Frm σ (aget H) w σ' (aget H) w'∧Only σ σ' base:=fun x s he hx H' fr' hfin hv=>by
   have hfr:Fresh (Go.Eng.cut P.globals.size σ) P.globals.size:=cut_fresh _ _
   refine calls_of_wp hfn hb ?_
   have hr0:RRel P (Go.Eng.cut P.globals.size σ) fn.ntmps (startT args 0) [(g,.cells true ct)] { tmps:=args' ++ Array.replicate (fn.ntmps - args'.size) undef,defers:=[] } w:=by
    refine ⟨fun s v hv => ?_,by simp [← hl0.1]; omega,rfl,hH0,hg0⟩
    obtain ⟨_,h1⟩:=startT_get hv
    obtain ⟨v',g1,g2⟩:=hl0.get (by simpa using h1)
    refine ⟨v',?_,g2⟩
    simp only
    rw [Array.getElem?_append_left (Array.getElem?_eq_some_iff.1 g1).1]
    exact g1
   refine evX_ok hcs hm c _ x s he _ _ w _ hr0 hfr fun σ' a' w' g1 g2 g3 => ?_
   have fin:a'.defers=[]∧∃ u,(results fn a'.tmps).run P w'=.ok u w'∧∃ σ'' v',Ending.returned u=.returned v'∧VR σ'' v v'∧HRel σ'' (aget H) w'∧Frm σ (aget H) w σ'' (aget H) w'∧Only σ σ'' base:=by
    obtain ⟨rfl,rfl,u,e1,e2⟩:=finR_ok hfin g1
    have g4:=g2.full hfr
    have hold:∀ b,b < w.heap.size→w'.heap[b]? = w.heap[b]?:=fun b hb=>(g4.old b hb fun ⟨n,o,p,a1,a2,a3,a4⟩=>by
     obtain ⟨rfl,rfl⟩:=one n o a1
     cases a2).1
    refine ⟨g1.defers,u,e1,σ,u,rfl,e2.cut0 hv σ,⟨fun n o hn => ?_,hH.inj⟩,⟨Sig.le_refl σ,g4.size,g4.os,g4.output,g4.tape,fun b hb hn=>⟨hold b hb,hn⟩⟩,Only.refl σ base⟩
    obtain ⟨p,hp,ho⟩:=hH.obj n o hn
    exact ⟨p,hp,ho.mono (Sig.le_refl σ) (hold _ ho.lt)⟩
   rcases hx with rfl | rfl
   ·exact fin
   ·exact fin
  split at h
  ·rename_i s he
   split at h
   ·rename_i v' H' fr' hfin
    cases hv:ltV 0 v' with
    | false=>rw [hv] at h; cases h
    | true =>
     rw [hv] at h
     cases h
     exact key _ s he (.inl rfl) H' fr' hfin hv
   ·cases h
  ·rename_i s he
   split at h
   ·rename_i v' H' fr' hfin
    cases hv:ltV 0 v' with
    | false=>rw [hv] at h; cases h
    | true =>
     rw [hv] at h
     cases h
     exact key _ s he (.inr rfl) H' fr' hfin hv
   ·cases h
  ·cases h
noncomputable def mkT (g:Nat) (ct c:List AVal) (mk:Nat→AVal):EffA:=.eff fun base η=>cond (decP (η g=some (.cells true ct))) (some (mk base,[(base,some (.cells false c))])) none
theorem mkT_app {g base:Nat}{ct c:List AVal}{mk:Nat→AVal}{H:HL}(h:aget H g=some (.cells true ct)):(mkT g ct c mk).app base H=some (mk base,appU H [(base,some (.cells false c))]):=by
 unfold mkT
 simp only [EffA.app]
 rw [decP_of h]
 rfl
theorem callOk_mkT {P:Program}{cs:CS}(hcs:CSOk P cs) (hm:P.follows .mixedOrders=true){f:FuncId}{nn F G kk g:Nat}{args c ct:List AVal}{mk:Nat→AVal}(hG:P.globals.size=G) (hgl:g < G) (hct:ltL 0 ct=true) (hargs:ltL 0 args=true) (hc:ltL 0 c=true)
  (hmk:∀ (ρ:Nat→Nat→Prop) a b,ρ a b→RN ρ (mk a) (mk b)) (hrun:ansR [kk] (run1 P cs nn F f args [(g,.cells true ct)] G)=some (mk kk,[some (.cells false c)])) (hkk:G≤kk):CallOk P f args (mkT g ct c mk):=by
 subst hG
 unfold mkT
 refine callOk_deep hcs hm fun base η v' us hK => ?_
 cases hd:decP (η g=some (.cells true ct)) with
 | false=>rw [hd] at hK; cases hK
 | true =>
 rw [hd] at hK
 simp only [cond_true,Option.some.injEq,Prod.mk.injEq] at hK
 obtain ⟨rfl,rfl⟩:=hK
 have hgt:=of_decP hd
 unfold ansR at hrun
 split at hrun
 rotate_left
 ·cases hrun
 rename_i v0 H' fr' hr
 simp only [Option.some.injEq,Prod.mk.injEq,List.map_cons,List.map_nil,List.cons.injEq,and_true] at hrun
 obtain ⟨rfl,hk⟩:=hrun
 have hp:ρ1 P.globals.size [] [kk] base kk base:=.inr ⟨0,rfl,rfl⟩
 refine ⟨{ nn:=nn,F:=F,ns:=[],ks:=[kk],cargs:=args,Hc:=[(g,.cells true ct)],fr:=P.globals.size,v0:=mk kk,H':=H',fr':=fr',hns:=List.nodup_nil,hη:=fun n hn=>by (cases hn),hargs:=RL.same hargs,hblk:=fun k o hk => ?_,hfr:=Nat.le_refl _,hrun:=hr,hks:=by simp,hks8:=by simp,hkfr:=fun k hk=>by (simp only [List.mem_singleton] at hk; subst hk; exact hkk),hv:=hmk _ _ _ hp,hnd:=by simp,hus:=fun m x hm => ?_,hall:=fun i n o hi ho hro=>by (simp at hi) }⟩
 ·simp only [aget] at hk
  rcases beq_cases g k with ⟨e,hb⟩ | ⟨e,hb⟩ <;> rw [hb] at hk
  ·simp only [cond_true,Option.some.injEq] at hk
   subst hk
   subst e
   exact ⟨g,_,.inl ⟨hgl,rfl⟩,hgt,.inl ⟨true,ct,ct,rfl,rfl,RL.same hct⟩,fun _=>rfl⟩
  ·cases hk
 ·simp only [List.mem_cons,Prod.mk.injEq,List.not_mem_nil,or_false] at hm
  obtain ⟨rfl,rfl⟩:=hm
  exact .inr ⟨0,kk,_,_,rfl,rfl,rfl,hk,rfl,.inl ⟨false,_,_,rfl,rfl,RL.same hc⟩⟩
end Go.Eng
namespace Go.Proofs.YtanaackimepkdaaGreatDoor.Bk
open Go Go.Eng Go.Num Go.Bla
abbrev WF:=List UInt8→Nat→UInt32
def opF (c:UInt8) (f:Nat→UInt8):List UInt8:=(List.range 64).map fun i=>padF 32 f i ^^^ c
def hm (w:WF) (f:Nat→UInt8) (s:List UInt8):Nat→UInt32:=w (opF 0x5c f++outC (w (opF 0x36 f++s)))
def strK (k:Nat) (f:Nat→UInt8):List UInt8:=(List.range k).map f
def deB:List AVal→Option (List UInt8)
 | []=>some []
 | .u8 x::l=>match deB l with
  | some r=>some (x::r)
  | none=>none
 | _=>none
theorem deB_ok:∀ {l:List AVal}{b:List UInt8},deB l=some b→l=b.map .u8
 | [],b,h=>by cases h; rfl
 | a::l,b,h=>by
  unfold deB at h
  split at h
  ·rename_i e; cases e
  ·rename_i x l' e
   cases e
   split at h
   ·rename_i r hr
    cases h
    rw [deB_ok hr]
    rfl
   ·cases h
  ·cases h
theorem run109 (f:Nat→UInt8) (c:UInt8):(run1 Tryz.prog noCS (mask 203) 200 203 [.agg (cellsB 64 f),.u8 c] [] 5).map (·.1)=some (.str ((List.range 64).map fun i=>f i ^^^ c)):=by kernel_rfl
def g109:List AVal→Option EffA
 | [.agg l,.u8 c]=>match deB l with
  | some b=>cond (Nat.beq b.length 64) (some (.pure (.str (b.map fun x=>x ^^^ c)))) none
  | none=>none
 | _=>none
theorem list_eq {b:List UInt8}{n:Nat}(h:b.length=n):b=(List.range n).map fun i=>b.getD i 0:=by
 subst h
 apply List.ext_getElem
 ·simp
 ·intro i h1 h2
  simp [List.getD_eq_getElem?_getD,h1]
theorem g109_ok:CSOk Tryz.prog (csOne 203 g109):=csOne_ok fun args e he=>by
 unfold g109 at he
 split at he
 ·rename_i l c
  split at he
  ·rename_i b hb
   cases hl:Nat.beq b.length 64 with
   | false=>rw [hl] at he; cases he
   | true =>
    rw [hl] at he
    cases he
    have hb2:=list_eq (Nat.eq_of_beq_eq_true hl)
    have hr:=run109 (fun i=>b.getD i 0) c
    have e1:l=cellsB 64 (fun i=>b.getD i 0):=by
     rw [deB_ok hb]
     conv=>lhs; rw [hb2]
     rw [List.map_map]
     rfl
    have e2:b.map (fun x=>x ^^^ c)=(List.range 64).map fun i=>b.getD i 0 ^^^ c:=by
     conv=>lhs; rw [hb2]
     rw [List.map_map]
     rfl
    rw [← e1,← e2] at hr
    exact callOk_val (noCS_ok _) hmix (by rw [gl1]; exact hr) (by rw [e1]; rfl) rfl
  ·cases he
 ·cases he
noncomputable def q40 (w:WF):List AVal→Option (EffA × Bool)
 | [.str s]=>some (tL (some (.str (outC (w s)))),gd s)
 | _=>none
noncomputable def csK (w:WF):CS:=csAlt (csP (psOne 202 (q40 w))) (csOne 203 g109)
def cB (a b:List UInt8):Bool:=Nat.ble (a.length+b.length) 9223372036854775807
theorem run94 (w:WF) (f:Nat→UInt8) (s:List UInt8):ansO (run1O Tryz.prog (psOne 202 (q40 w)) (csK w) [19,20,21,22] [] [] (mask 151) 200 151 [.str (strK 32 f),.str s] H0 5)=some (.str (outC (hm w f s)),[gd (opF 0x5c f++outC (w (opF 0x36 f++s))),cB (opF 0x5c f) (outC (w (opF 0x36 f++s))),gd (opF 0x36 f++s),cB (opF 0x36 f) s]):=by kernel_rfl
def gdS (s:List UInt8):Bool:=Nat.ble s.length 11900
theorem opF_len (c:UInt8) (f:Nat→UInt8):(opF c f).length=64:=by simp [opF]
theorem outC_len (h:Nat→UInt32):(outC h).length=32:=by simp [outC]
theorem gd_of {s:List UInt8}(h0:0 < s.length) (h1:s.length≤12000):gd s=true:=by
 unfold gd
 rw [Bool.and_eq_true]
 exact ⟨by simpa using h0,Nat.ble_eq_true_of_le h1⟩
theorem cB_of {a b:List UInt8}(h:a.length+b.length≤100000):cB a b=true:=Nat.ble_eq_true_of_le (by omega)
noncomputable def q94 (w:WF):List AVal→Option (EffA × Bool)
 | [.str k,.str s]=>some (tL (some (.str (outC (hm w (fun i=>k.getD i 0) s)))),Nat.beq k.length 32 && gdS s)
 | _=>none
theorem q94_ok {w:WF}(hw:CSOk Tryz.prog (csP (psOne 202 (q40 w)))):CSOk Tryz.prog (csP (psOne 151 (q94 w))):=psOne_ok fun args e he=>by
 unfold q94 at he
 split at he
 ·rename_i k s
  simp only [Option.some.injEq,Prod.mk.injEq] at he
  obtain ⟨rfl,hg⟩:=he
  rw [Bool.and_eq_true] at hg
  have hs:s.length≤11900:=Nat.le_of_ble_eq_true hg.2
  have hk:=list_eq (Nat.eq_of_beq_eq_true hg.1)
  have hr:=run94 w (fun i=>k.getD i 0) s
  have e:strK 32 (fun i=>k.getD i 0)=k:=hk.symm
  rw [e] at hr
  refine callOk_tL (csAlt_ok hw g109_ok) ⟨fun _=>rfl,rfl⟩ fun x hx => ?_
  cases hx
  have l1:=opF_len 0x36 (fun i=>k.getD i 0)
  have l2:=opF_len 0x5c (fun i=>k.getD i 0)
  have l3:=outC_len (w (opF 0x36 (fun i=>k.getD i 0)++s))
  refine ⟨rfl,200,mask 151,run_of (ansO_run csP_ok hr (allM (gd_of ?_ ?_) (allM (cB_of ?_) (allM (gd_of ?_ ?_) (allM (cB_of ?_) rfl)))))⟩
  all_goals (try rw [List.length_append]) <;> omega
 ·cases he
noncomputable def csK2 (w:WF):CS:=csAlt (csP (psOne 151 (q94 w))) (nU 2)
def ex1 (w:WF) (f:Nat→UInt8):Nat→UInt32:=hm w f [1]
noncomputable def obX (H:HL) (base:Nat) (a:AVal):Bool:=oB (lookT 4 ordC a) base H a H
theorem ansM_R {P:Program}{ps:PS}{cs:CS}(hps:PSOk ps cs){sy:List Nat}{os:List Bool}{vs:List AVal}{nn F:Nat}{f:FuncId}{args:List AVal}{H:HL}{fr:Nat}{ns:List Nat}{v:AVal}{L:List (Option AObj)}{ob:List Bool}(h:ansM ns (run1O P ps cs sy os vs nn F f args H fr)=some (v,L,ob)) (ha:allT ob=true):ansR ns (run1 P cs nn F f args H fr)=some (v,L):=by
 unfold ansM at h
 split at h
 ·rename_i v' H' fr' ob' hx
  simp only [Option.some.injEq,Prod.mk.injEq] at h
  obtain ⟨rfl,rfl,rfl⟩:=h
  rw [run1O_ok hps hx ha]
  rfl
 ·cases h
end Go.Proofs.YtanaackimepkdaaGreatDoor.Bk
namespace Go.Proofs.YtanaackimepkdaaGreatDoor.Bk
open Go Go.Eng Go.Num Go.Bla
def dcL:List UInt8:=[100,105,115,99,111]
def opD (c:UInt8):List UInt8:=(List.range 64).map fun i=>padF 5 (fun i=>dcL.getD i 0) i ^^^ c
def hmD (w:WF) (s:List UInt8):Nat→UInt32:=w (opD 0x5c++outC (w (opD 0x36++s)))
theorem opD_len (c:UInt8):(opD c).length=64:=by simp [opD]
theorem run94d (w:WF) (s:List UInt8):ansO (run1O Tryz.prog (psOne 202 (q40 w)) (csK w) [19,20,21,22] [] [] (mask 151) 200 151 [.str dcL,.str s] H0 5)=some (.str (outC (hmD w s)),[gd (opD 0x5c++outC (w (opD 0x36++s))),cB (opD 0x5c) (outC (w (opD 0x36++s))),gd (opD 0x36++s),cB (opD 0x36) s]):=by kernel_rfl
noncomputable def q94d (w:WF):List AVal→Option (EffA × Bool)
 | [.str k,.str s]=>some (tL (some (.str (outC (hmD w s)))),k == dcL && gdS s)
 | _=>none
theorem q94d_ok {w:WF}(hw:CSOk Tryz.prog (csP (psOne 202 (q40 w)))):CSOk Tryz.prog (csP (psOne 151 (q94d w))):=psOne_ok fun args e he=>by
 unfold q94d at he
 split at he
 ·rename_i k s
  simp only [Option.some.injEq,Prod.mk.injEq] at he
  obtain ⟨rfl,hg⟩:=he
  rw [Bool.and_eq_true] at hg
  have hs:s.length≤11900:=Nat.le_of_ble_eq_true hg.2
  have hk:k=dcL:=eq_of_beq hg.1
  subst hk
  have hr:=run94d w s
  refine callOk_tL (csAlt_ok hw g109_ok) ⟨fun _=>rfl,rfl⟩ fun x hx => ?_
  cases hx
  have l1:=opD_len 0x36
  have l2:=opD_len 0x5c
  have l3:=outC_len (w (opD 0x36++s))
  refine ⟨rfl,200,mask 151,run_of (ansO_run csP_ok hr (allM (gd_of ?_ ?_) (allM (cB_of ?_) (allM (gd_of ?_ ?_) (allM (cB_of ?_) rfl)))))⟩
  all_goals (try rw [List.length_append]) <;> omega
 ·cases he
noncomputable def csK3 (w:WF):CS:=csAlt (csP (psOne 151 (q94d w))) (nU 2)
theorem run69d (w:WF) (s:List UInt8):ansO (run1O Tryz.prog (psOne 151 (q94d w)) (csK3 w) [7] [] [] (mask 105) 200 105 [.str dcL,.str s] H0 5)=some (.str (outC (hmD w s)),[true && gdS s]):=by kernel_rfl
noncomputable def q69d (w:WF):List AVal→Option (EffA × Bool)
 | [.str k,.str s]=>some (tL (some (.str (outC (hmD w s)))),k == dcL && gdS s)
 | _=>none
theorem q69d_ok {w:WF}(hw:CSOk Tryz.prog (csP (psOne 151 (q94d w)))):CSOk Tryz.prog (csP (psOne 105 (q69d w))):=psOne_ok fun args e he=>by
 unfold q69d at he
 split at he
 ·rename_i k s
  simp only [Option.some.injEq,Prod.mk.injEq] at he
  obtain ⟨rfl,hg⟩:=he
  rw [Bool.and_eq_true] at hg
  have hk:k=dcL:=eq_of_beq hg.1
  subst hk
  refine callOk_tL (csAlt_ok hw (nU_ok 2)) ⟨fun _=>rfl,rfl⟩ fun x hx => ?_
  cases hx
  exact ⟨rfl,200,mask 105,run_of (ansO_run csP_ok (run69d w s) (allM (by rw [hg.2]; rfl) rfl))⟩
 ·cases he
theorem run68d (w:WF) (f:Nat→UInt8):runXT Tryz.prog (csK2 w) (mask 104) 200 4 ordC 104 [.str (strK 32 f),.str [],.int .i64 32]=some (.tup [.str (outC (ex1 w fun i=>(strK 32 f).getD i 0)),.int .i64 0]):=by kernel_rfl
noncomputable def q68d (w:WF):List AVal→Option (EffA × Bool)
 | [.str k,.str [],.int .i64 32]=>some (lookT 4 ordC (.tup [.str (outC (ex1 w (fun i=>k.getD i 0))),.int .i64 0]),Nat.beq k.length 32)
 | _=>none
theorem q68d_ok {w:WF}(hw:CSOk Tryz.prog (csP (psOne 151 (q94 w)))):CSOk Tryz.prog (csP (psOne 104 (q68d w))):=psOne_ok fun args e he=>by
 unfold q68d at he
 split at he
 ·rename_i k
  simp only [Option.some.injEq,Prod.mk.injEq] at he
  obtain ⟨rfl,hg⟩:=he
  have hk:=list_eq (Nat.eq_of_beq_eq_true hg)
  have hr:=run68d w (fun i=>k.getD i 0)
  have e:strK 32 (fun i=>k.getD i 0)=k:=hk.symm
  rw [e] at hr
  exact callOk_XT (csAlt_ok hw (nU_ok 2)) hmix (by rw [gl1]; decide) ordC_lt hr
 ·cases he
def prkD (w:WF) (x:List UInt8):List UInt8:=outC (hmD w x)
def kcD (w:WF) (x:List UInt8):List UInt8:=outC (ex1 w fun i=>(prkD w x).getD i 0)
noncomputable def psKd (w:WF):PS:=psAlt (psOne 105 (q69d w)) (psOne 104 (q68d w))
theorem run43d (w:WF) (x:List UInt8):ansM [181] (run1O Tryz.prog (psKd w) (csAlt (csP (psKd w)) noCS) [21,24,300024] [] [.tup [.str (kcD w x),.int .i64 0],.tup []] (mask 73) 200 73 [.str dcL,.str x,.int .i64 1] H0 5)=some (.tup [.slice 181 0 1 1,.int .i64 0],[some (.cells false [.str (kcD w x)])],[obX H0 109 (.tup [.str (kcD w x),.int .i64 0]),Nat.beq (prkD w x).length 32,true && gdS x]):=by kernel_rfl
noncomputable def q43d (w:WF):List AVal→Option (EffA × Bool)
 | [.str k,.str x,.int .i64 1]=>some (mkT 4 ordC [.str (kcD w x)] (fun b=>.tup [.slice b 0 1 1,.int .i64 0]),k == dcL && gdS x)
 | _=>none
theorem q43d_ok {w:WF}(hw:CSOk Tryz.prog (csP (psOne 151 (q94 w)))) (hw2:CSOk Tryz.prog (csP (psOne 151 (q94d w)))):CSOk Tryz.prog (csP (psOne 73 (q43d w))):=psOne_ok fun args e he=>by
 unfold q43d at he
 split at he
 ·rename_i k x
  simp only [Option.some.injEq,Prod.mk.injEq] at he
  obtain ⟨rfl,hg⟩:=he
  rw [Bool.and_eq_true] at hg
  have hk:k=dcL:=eq_of_beq hg.1
  subst hk
  have hr:=ansM_R csP_ok (run43d w x) (allM (oB_of ?_) (allM rfl (allM (by rw [hg.2]; rfl) rfl)))
  ·exact callOk_mkT (csAlt_ok (csP_alt (q69d_ok hw2) (q68d_ok hw)) (noCS_ok _)) hmix gl1 (by decide) ordC_lt rfl rfl (fun ρ a b h=>.tupL (RL.cons (.slice h) (RL.same rfl))) hr (by decide)
  ·unfold lookT
   simp only [EffA.app]
   have hz:aget H0 4=some (.cells true ordC):=rfl
   rw [decP_of hz]
   rfl
 ·cases he
end Go.Proofs.YtanaackimepkdaaGreatDoor.Bk
namespace Go.Proofs.YtanaackimepkdaaGreatDoor.Pol
open Go Go.Eng
def mask:FuncId→Nat:=fun f=>match f with | 2=>0 | 3=>2129911 | 4=>328827822935742085473697743 | 5=>85402898887637169862599404710006898679 | 6=>2854843834566681067752846256398129419530534855 | 7=>20423 | 8=>7 | 9=>316912650057057350374190479295 | 10=>319194195312377417443589115 | 11=>316912952878808099609980706299 | 12=>16810239 | 13=>16810239 | 14=>31 | 15=>7 | 16=>2077 | 17=>3871 | 18=>3103 | 19=>3871 | 20=>3615 | 21=>348789426093966876810116114138679193108751 | 22=>524339 | 23=>524339 | 24=>5 | 25=>2199157509903 | 26=>1152921513232434959 | 27=>5 | 28=>562950087649239 | 29=>36893496943529034711 | 30=>33571891 | 31=>2147512701 | 32=>70368878403709 | 33=>528189 | 34=>536938557 | 35=>61 | 36=>4838064462843443614319679 | 37=>16843251 | 38=>157 | 39=>144115222574037775 | 40=>35188669153469 | 41=>131571 | 42=>157 | 43=>8796244086543 | 44=>5213233219947619063588994761098749 | 45=>563500783172639 | 46=>7 | 47=>563501857111583 | 48=>7 | 49=>23456248059229 | 50=>2319 | 51=>528499 | 52=>7 | 53=>5 | 54=>1073756403 | 55=>27 | 56=>5 | 57=>19 | 58=>15 | 59=>23456248059229 | 60=>263 | 61=>1 | 62=>1 | 63=>1 | 64=>1 | 65=>1 | 66=>1 | 67=>1 | 68=>1 | 69=>1 | 70=>4367 | 71=>9520611261530279935 | 72=>2113651 | 73=>60398112711 | 74=>549755821491 | 75=>609885634319 | 76=>528143 | 77=>14451 | 78=>5 | 79=>3 | 80=>262149 | 81=>2113651 | 82=>537005511 | 83=>324518553658426744799753561702387 | 84=>19 | 85=>783 | 86=>283602206479 | 87=>4199475 | 88=>16627 | 89=>17301533 | 90=>262195 | 91=>65669 | 92=>575 | 93=>4303411983 | 94=>8390911 | 95=>8423183 | 96=>66491 | 97=>66483 | 98=>7 | 99=>5 | 100=>138351151749653378483 | 101=>2175 | 102=>1005 | 103=>19 | 104=>1116103 | 105=>19 | 106=>157 | 107=>157 | 108=>5 | 109=>131071 | 110=>442938030551212031999 | 111=>31 | 112=>2147484479 | 113=>19 | 114=>127 | 115=>4551 | 116=>309513344275821599845253107 | 117=>2013 | 118=>8650767 | 119=>138412063 | 120=>5 | 121=>5 | 122=>138412063 | 123=>5 | 124=>5 | 125=>138009378819 | 126=>138412063 | 127=>5 | 128=>5 | 129=>19023209241239356687 | 130=>21 | 131=>1116103 | 132=>8522227 | 133=>13 | 134=>5 | 135=>5 | 136=>1151 | 137=>8959 | 138=>31 | 139=>7 | 140=>159 | 141=>39614081552298092776981266419 | 142=>590296091842272313287 | 143=>5 | 144=>157 | 145=>9690591207981026925645175 | 146=>5 | 147=>2097283 | 148=>51 | 149=>5 | 150=>5491 | 151=>307 | 152=>125 | 153=>543 | 154=>255 | 155=>6297727 | 156=>975 | 157=>7 | 158=>247 | 159=>2097335 | 160=>6442696815 | 161=>269353199 | 162=>928456800891898357834874823 | 163=>281475043836915 | 164=>95 | 165=>511 | 166=>4313087 | 167=>34359787583 | 168=>51 | 169=>125 | 170=>19 | 171=>51 | 172=>983347 | 173=>7283 | 174=>983347 | 175=>7283 | 176=>549902614547 | 177=>983347 | 178=>7283 | 179=>77 | 180=>5 | 181=>19816712040022917843543179263 | 182=>95 | 183=>4125 | 184=>39 | 185=>1050743 | 186=>33267 | 187=>9671406628976826459979775 | 188=>4503599627442175 | 189=>2147516543 | 190=>5 | 191=>1087 | 192=>4211 | 193=>23 | 194=>77 | 195=>17188391667 | 196=>524353 | 197=>19 | 198=>21 | 199=>13 | 200=>2923003971560093291123168138537876760321514930163 | 201=>20426010943356750102455122975 | 202=>13 | 203=>247 | 204=>16371 | 206=>116767 | 207=>1073742391 | 208=>8519923 | 209=>5 | 210=>4722366487267960168391 | 211=>65727 | 212=>39 | 213=>1535 | 216=>5 | 217=>16661 | 218=>13 | 219=>5 | 220=>5 | 221=>132039 | 222=>51 | 223=>983347 | 224=>1 | 225=>45671926166590716193865151621903026828528189215 | 226=>21 | 227=>21 | 228=>1099511758963 | 229=>34029619 | 230=>25769836669 | 231=>262781 | 232=>16639 | 233=>1 | 234=>2090694862423093148849536486400876297056199 | 235=>19 | 236=>129087 | 263=>0 | _=>0
theorem hmix:Tryz.prog.follows .mixedOrders=true:=by kernel_rfl
def bodyOf (f:Func):Code:=f.body.getD .skip
theorem gl:Tryz.prog.globals.size=5:=by kernel_rfl
end Go.Proofs.YtanaackimepkdaaGreatDoor.Pol
namespace Go.Proofs.YtanaackimepkdaaGreatDoor.Bld
open Go Go.Eng
set_option maxHeartbeats 2000000
theorem sizeB:(Tryz.prog.info? 199).map (·.size)=some 2:=by kernel_rfl
theorem liesB:liesAt Tryz.prog Tryz.prog.depth 199 (2 / Tryz.prog.cellsOf 199) 0 199 1=true:=by kernel_rfl
theorem used (b:Nat) (w:World) (h0:w.cell? ⟨b,0,none⟩=some (.pointer (some ⟨b,0,none⟩))) :
  Calls Tryz.prog 196 #[.pointer (some ⟨b,0,none⟩)] w fun e w'=>e=.returned (.tuple #[])∧w'=w:=by
 obtain ⟨j,hj,_⟩:=Option.map_eq_some_iff.1 sizeB
 go_enter Tryz.func196,Tryz.ntmps196
 go_wp2
 rw [Lib.run_neq_ptr_same w _ Tryz.underlying197 hj]
 go_wp2
 go_end0
 exact ⟨rfl,rfl⟩
theorem fresh (b:Nat) (w:World) (h0:w.cell? ⟨b,0,none⟩=some (.pointer none)) (hsh:w.shape? b=some (199,2)) (hfz:w.frozen? ⟨b,0,none⟩=false) :
  Calls Tryz.prog 196 #[.pointer (some ⟨b,0,none⟩)] w fun e w'=>e=.returned (.tuple #[])∧w'=w.setCell ⟨b,0,none⟩ (.pointer (some ⟨b,0,none⟩)):=by
 obtain ⟨j,hj,hjs⟩:=Option.map_eq_some_iff.1 sizeB
 have t89:Tryz.prog.underlying 265=some .unsafePointer:=by kernel_rfl
 go_enter Tryz.func196,Tryz.ntmps196
 go_wp2
 rw [Lib.run_to_unsafe w ⟨b,0,none⟩ Tryz.underlying197 t89 hj (by rw [hjs]; decide) hsh (Nat.zero_lt_succ 1)]
 simp only [Result.andThen]
 rw [Oper.upon_value]
 go_wp2
 rw [run_callFunc_extern Tryz.func214 (by kernel_rfl) (by kernel_rfl) (by kernel_rfl) (e:=Extern.AbiNoEscape.same) (by kernel_rfl)]
 rw [Lib.run_noEscape]
 simp only [Result.andThen]
 rw [Oper.upon_value]
 go_wp2
 rw [Lib.run_from_unsafe w ⟨b,0,none⟩ t89 Tryz.underlying197 hj hsh liesB]
 simp only [Result.andThen]
 rw [Oper.upon_value]
 go_wp2
 go_end0
 exact ⟨rfl,rfl⟩
end Go.Proofs.YtanaackimepkdaaGreatDoor.Bld
