/- Texts Num11, Num12, Prime, NumF, Mo1, Vo2, Vo3, Vo4, Vo5, Vo6, Mo9, Vo7, Vo8, Eng69: what they show that this claim uses. -/
import Derived.Test.YtcplgmgpagekfaaDoorB11
import Derived.WalkKit
import Derived.Test.YtcplgmgpagekfaaDoorB10
import Derived.Test.YtcplgmgpagekfaaDoorB6
import Derived.Test.YtcplgmgpagekfaaDoorB7
set_option maxRecDepth 100000
set_option maxHeartbeats 1000000
set_option linter.unusedVariables false
set_option linter.unusedSimpArgs false
namespace Go.Num
open Go Go.Eng
structure Rel (a:E5) (x:N16):Prop where
 ok:a.ok
 okP:x.ok
 val:x.val=a.val % Pq
theorem Rel.lt {a:E5}{x:N16}(h:Rel a x):x.val < Pq:=by rw [h.val]; exact Nat.mod_lt _ Pq_pos
theorem Rel.mod {a:E5}{x:N16}(h:Rel a x):a.val % Pq=x.val:=h.val.symm
theorem Rel.bytes {a:E5}{x:N16}(h:Rel a x):bytesE a=bytesN x:=
 leNat_inj (by rw [bytesE_len,bytesN_len]) (by rw [bytesE_val,bytesN_val x h.okP,h.val])
theorem rel_of {s:List UInt8}(h:isLen s 32=true):Rel (ofEl s) (ofP s):=by
 obtain ⟨o,e⟩:=ofP_val (isLen_eq.1 h)
 exact ⟨ofEl_ok s,o,by rw [e,ofEl_val h]⟩
theorem rel_zero:Rel zeroE zeroN:=⟨zeroE_ok,zeroN_ok,by rw [zeroN_val,zeroE_val]; rfl⟩
theorem rel_small (n:UInt32):Rel (smallE n) (smallN n):=by
 obtain ⟨o,e⟩:=smallN_val n
 obtain ⟨o2,e2⟩:=smallE_val n
 refine ⟨o2,o,?_⟩
 have h:=n.toNat_lt
 simp only [Nat.reducePow] at h
 rw [e,e2,Nat.mod_eq_of_lt (by unfold Pq; omega)]
theorem rel_add {a b:E5}{x y:N16}(h:Rel a x) (k:Rel b y):Rel (addE a b) (addP x y):=by
 obtain ⟨o,e⟩:=addP_val x y h.okP k.okP
 obtain ⟨o2,e2⟩:=addE_val a b h.ok k.ok
 exact ⟨o2,o,by rw [e,e2,h.val,k.val,← Nat.add_mod]⟩
theorem rel_mul {a b:E5}{x y:N16}(h:Rel a x) (k:Rel b y):Rel (mulE a b) (mulP x y):=by
 obtain ⟨o,e⟩:=mulP_val x y h.okP k.okP
 obtain ⟨o2,e2⟩:=mulE_val a b h.ok k.ok
 exact ⟨o2,o,by rw [e,e2,h.val,k.val,← Nat.mul_mod]⟩
theorem sub_mod (a b P:Nat) (hP:0 < P) (hb:b≤2 * P):(a+(2 * P - b)) % P=(a % P+(P - b % P)) % P:=by
 have h1:=Nat.div_add_mod b P
 have h2:=Nat.mod_lt b hP
 have h3:=Nat.div_add_mod a P
 have h4:b / P≤2:=Nat.div_le_of_le_mul (by rw [Nat.mul_comm]; exact hb)
 generalize b % P=r at *
 generalize hq:b / P=q at *
 have h5:q=0 ∨ q=1 ∨ q=2:=by omega
 have h6:(a % P+(P - r)) % P=(a+(P - r)) % P:=by rw [Nat.mod_add_mod]
 rw [h6]
 rcases h5 with rfl | rfl | rfl
 ·have e:a+(2 * P - b)=(a+(P - r))+P * 1:=by omega
  rw [e,Nat.add_mul_mod_self_left]
 ·have e:a+(2 * P - b)=a+(P - r):=by omega
  rw [e]
 ·have e:a+(P - r)=a+(2 * P - b)+P * 1:=by omega
  rw [e,Nat.add_mul_mod_self_left]
theorem rel_sub {a b:E5}{x y:N16}(h:Rel a x) (k:Rel b y):Rel (subE a b) (subP x y):=by
 obtain ⟨o,e⟩:=subP_val x y h.okP k.okP k.lt
 obtain ⟨o2,e2,hle⟩:=subE_val a b h.ok k.ok
 exact ⟨o2,o,by rw [e,e2,h.val,k.val,sub_mod _ _ _ Pq_pos hle]⟩
theorem rel_neg {a:E5}{x:N16}(h:Rel a x):Rel (negE a) (negP x):=by
 obtain ⟨o,e⟩:=negP_val x h.okP h.lt
 obtain ⟨o2,e2,hle⟩:=subE_val zeroE a zeroE_ok h.ok
 refine ⟨o2,o,?_⟩
 unfold negE
 rw [e,e2,h.val,sub_mod _ _ _ Pq_pos hle,zeroE_val,Nat.zero_mod,Nat.zero_add]
structure PowE (a:E5) (n:Nat) (x:E5):Prop where
 ok:x.ok
 val:x.val % Pq=a.val ^ n % Pq
theorem pow_one {a:E5}(h:a.ok):PowE a 1 a:=⟨h,by rw [Nat.pow_one]⟩
theorem pow_mul {a x y:E5}{m n:Nat}(h:PowE a m x) (k:PowE a n y):PowE a (m+n) (mulE x y):=by
 obtain ⟨o,e⟩:=mulE_val x y h.ok k.ok
 exact ⟨o,by rw [e,Nat.mul_mod,h.val,k.val,← Nat.mul_mod,← Nat.pow_add]⟩
theorem pow_sq {a:E5}:∀ (n:Nat){x:E5}{m:Nat},PowE a m x→PowE a (m * 2 ^ n) (sqE x n)
 | 0,x,m,h=>by rw [Nat.pow_zero,Nat.mul_one]; exact h
 | n+1,x,m,h=>by
  have:=pow_sq n (pow_mul h h)
  have e:(m+m) * 2 ^ n=m * 2 ^ (n+1):=by rw [Nat.pow_succ,← Nat.mul_assoc,← Nat.two_mul,Nat.mul_comm 2 m,Nat.mul_assoc,Nat.mul_comm 2,← Nat.mul_assoc]
  rw [e] at this
  exact this
theorem pow_ones {a:E5}(ha:a.ok):∀ (f n:Nat),1≤n→n < 2 ^ f→PowE a (2 ^ n - 1) (onesF a f n)
 | 0,n,h1,h2=>by rw [Nat.pow_zero] at h2; omega
 | f+1,n,h1,h2=>by
  simp only [onesF]
  rcases beq_cases n 1 with ⟨e,hb⟩ | ⟨e,hb⟩
  ·rw [hb,cond_true,e]
   exact pow_one ha
  ·rw [hb,cond_false]
   have hm:1≤n / 2:=by omega
   have ih:=pow_ones ha f (n / 2) hm (by rw [Nat.pow_succ] at h2; omega)
   have p:=pow_mul (pow_sq (n / 2) ih) ih
   have hp:1≤2 ^ (n / 2):=Nat.one_le_two_pow
   have e1:(2 ^ (n / 2) - 1) * 2 ^ (n / 2)+(2 ^ (n / 2) - 1)=2 ^ (n / 2+n / 2) - 1:=by
    rw [Nat.pow_add,Nat.sub_mul,Nat.one_mul]
    have:2 ^ (n / 2)≤2 ^ (n / 2) * 2 ^ (n / 2):=Nat.le_mul_of_pos_left _ hp
    omega
   rw [e1] at p
   rcases beq_cases (n % 2) 1 with ⟨e2,hb2⟩ | ⟨e2,hb2⟩
   ·rw [hb2,cond_true]
    have p2:=pow_mul (pow_sq 1 p) (pow_one ha)
    have e3:(2 ^ (n / 2+n / 2) - 1) * 2 ^ 1+1=2 ^ n - 1:=by
     have e4:n=n / 2+n / 2+1:=by omega
     have:1≤2 ^ (n / 2+n / 2):=Nat.one_le_two_pow
     conv=>rhs; rw [e4]
     rw [Nat.pow_succ]
     omega
    rw [e3] at p2
    exact p2
   ·rw [hb2,cond_false]
    have e4:n / 2+n / 2=n:=by omega
    rw [e4] at p
    exact p
def eInv:Nat:=bitsNat 0 (bitsL 255 21)
def eRoot:Nat:=bitsNat 0 (bitsL 252 2)
theorem eInv_eq:(2 ^ 250 - 1) * 2 ^ 5+(1+1+1+1 * 2 ^ 3)=eInv:=by kernel_rfl
theorem eRoot_eq:(2 ^ 250 - 1) * 2 ^ 2+(1+1)=eRoot:=by kernel_rfl
theorem pow_inv {a:E5}(ha:a.ok):PowE a eInv (invE a):=by
 have h:=pow_ones ha 8 250 (by decide) (by decide)
 have p:=pow_mul (pow_sq 5 h) (pow_mul (pow_mul (pow_mul (pow_one ha) (pow_one ha)) (pow_one ha)) (pow_sq 3 (pow_one ha)))
 rw [eInv_eq] at p
 have e:invE a=mulE (sqE (onesF a 8 250) 5) (mulE (mulE (mulE a a) a) (sqE a 3)):=by unfold invE onesE; rfl
 rw [e]
 exact p
theorem pow_root {a:E5}(ha:a.ok):PowE a eRoot (root0E a):=by
 have h:=pow_ones ha 8 250 (by decide) (by decide)
 have p:=pow_mul (pow_sq 2 h) (pow_mul (pow_one ha) (pow_one ha))
 rw [eRoot_eq] at p
 have e:root0E a=mulE (sqE (onesF a 8 250) 2) (mulE a a):=by unfold root0E onesE; rfl
 rw [e]
 exact p
theorem rel_pow {a b:E5}{x:N16}{l:List Bool}(h:Rel a x) (p:PowE a (bitsNat 0 l) b):Rel b (powP x l):=by
 refine ⟨p.ok,powP_ok x h.okP l,?_⟩
 rw [powP_val x h.okP,p.val,h.val,← Nat.pow_mod]
theorem rel_inv {a:E5}{x:N16}(h:Rel a x):Rel (invE a) (invP x):=rel_pow h (pow_inv h.ok)
theorem rel_root0 {a:E5}{x:N16}(h:Rel a x):Rel (root0E a) (root0P x):=rel_pow h (pow_root h.ok)
def natF (a x:Nat):List Bool→Nat
 | []=>x
 | b::l=>natF a (cond b (x * x % Pq * a % Pq) (x * x % Pq)) l
theorem natF_val (a:Nat) (l:List Bool):∀ x n:Nat,x=a ^ n % Pq→natF a x l=a ^ (bitsNat n l) % Pq:=by
 induction l with
 | nil=>exact fun x n h=>h
 | cons b l ih =>
  intro x n h
  have e1:x * x % Pq=a ^ (2 * n) % Pq:=by rw [h,← Nat.mul_mod,← Nat.pow_add,Nat.two_mul]
  cases b
  ·exact ih _ _ e1
  ·refine ih _ _ ?_
   show x * x % Pq * a % Pq=a ^ (2 * n+1) % Pq
   rw [e1,Nat.mod_mul_mod,Nat.pow_succ]
def iNat:Nat:=19681161376707505956807079304988542015446066515923890162744021073123829784752
theorem iNat_eq:natF 2 1 (bitsL 253 5)=iNat:=by kernel_rfl
theorem iN_val:iN.val=iNat:=by
 have e2:(smallN 2).val=2:=(smallN_val 2).2
 have e0:(1:Nat)=2 ^ 0 % Pq:=by rw [Nat.pow_zero]; exact (Nat.mod_eq_of_lt (by decide)).symm
 have h:=powP_val (smallN 2) (smallN_val 2).1 (bitsL 253 5)
 have h2:=natF_val 2 (bitsL 253 5) 1 0 e0
 revert h h2
 unfold iN
 rw [e2,iNat_eq]
 generalize bitsNat 0 (bitsL 253 5)=e
 generalize (powP (smallN 2) (bitsL 253 5)).val=v
 generalize 2 ^ e % Pq=q
 intro h h2
 rw [h,h2]
theorem iNat_mod:iNat % Pq=iNat:=by kernel_rfl
theorem iN_ok:iN.ok:=powP_ok _ (smallN_val 2).1 _
theorem turned_ok:turnedE.ok:=⟨by decide,by decide,by decide,by decide,by decide⟩
theorem turned_val:turnedE.val=iNat:=by kernel_rfl
theorem rel_turned:Rel turnedE iN:=⟨turned_ok,iN_ok,by rw [iN_val,turned_val,iNat_mod]⟩
theorem eqL2_eq:∀ (l m:List UInt64),l.length=m.length→eqL2 l m=decide (l=m)
 | [],[],_=>rfl
 | [],_::_,h=>by cases h
 | _::_,[],h=>by cases h
 | x::l,y::m,h=>by
  rw [Bool.eq_iff_iff]
  simp [eqL2,eqL2_eq l m (by simpa using h)]
theorem samP_eq (a b:N16):samP a b=decide (a=b):=by
 unfold samP
 rw [eqL2_eq a.list b.list rfl,decide_eq_decide]
 exact ⟨fun h=>by rw [← ofL_list a,← ofL_list b,h],fun h=>by rw [h]⟩
theorem rel_same {a b:E5}{x y:N16}(h:Rel a x) (k:Rel b y):sameE a b=samP x y:=by
 rw [sameE_eq,samP_eq,decide_eq_decide,← h.val,← k.val]
 exact ⟨fun e=>N16.ext_val h.okP k.okP e,fun e=>by rw [e]⟩
theorem rel_odd {a:E5}{x:N16}(h:Rel a x):oddE a=oddP x:=by
 rw [oddE_eq,← h.val]
 unfold oddP
 rw [Bool.eq_iff_iff,decide_eq_true_iff,beq_iff_eq,← UInt64.toNat_inj,and_nat _ 1 1 rfl]
 have h11:(1:UInt64).toNat=1:=rfl
 have e:x.val=x.x0.toNat+65536 * val16 [x.x1,x.x2,x.x3,x.x4,x.x5,x.x6,x.x7,x.x8,x.x9,x.x10,x.x11,x.x12,x.x13,x.x14,x.x15]:=rfl
 rw [h11,e]
 generalize val16 _=q
 simp only [Nat.reducePow]
 omega
theorem sel {β:Type}(t:Bool) (x y:β):cond t x y=if t=true then x else y:=by cases t <;> rfl
theorem root1E_eq (a:E5):root1E a=if sameE (mulE (root0E a) (root0E a)) a=true then root0E a else mulE (root0E a) turnedE:=by
 rw [root1E,sel]
theorem root1P_eq (a:N16):root1P a=if samP (mulP (root0P a) (root0P a)) a=true then root0P a else mulP (root0P a) iN:=by
 rw [root1P,sel]
theorem rootE_eq (a:E5):rootE a=if hasE a=true then (if oddE (root1E a)=true then negE (root1E a) else root1E a) else zeroE:=by
 rw [rootE,sel,sel]
theorem rootP_eq (a:N16):rootP a=if hasP a=true then (if oddP (root1P a)=true then negP (root1P a) else root1P a) else zeroN:=by
 rw [rootP,sel,sel]
theorem rel_if {t:Prop} [Decidable t] {a b:E5}{x y:N16}(h:Rel a x) (k:Rel b y):Rel (if t then a else b) (if t then x else y):=by
 split
 ·exact h
 ·exact k
theorem rel_root1 {a:E5}{x:N16}(h:Rel a x):Rel (root1E a) (root1P x):=by
 have h0:=rel_root0 h
 have hs:=rel_same (rel_mul h0 h0) h
 rw [root1E_eq,root1P_eq,hs]
 exact rel_if h0 (rel_mul h0 rel_turned)
theorem rel_has {a:E5}{x:N16}(h:Rel a x):hasE a=hasP x:=by
 have h1:=rel_root1 h
 exact rel_same (rel_mul h1 h1) h
theorem rel_root {a:E5}{x:N16}(h:Rel a x):Rel (rootE a) (rootP x):=by
 have h1:=rel_root1 h
 rw [rootE_eq,rootP_eq,rel_has h,rel_odd h1]
 exact rel_if (rel_if (rel_neg h1) h1) rel_zero
theorem canonP_eq (s:List UInt8):canonP s=(isLen s 32 && decide (leNat s < Pq)):=by
 unfold canonP
 cases h:isLen s 32
 ·rfl
 ·obtain ⟨o,e⟩:=partsN_val s (isLen_eq.1 h)
  rw [lessN_eq _ _ o primeN_ok,e,primeN_val]
theorem canonE_eq (s:List UInt8):canonE s=canonP s:=by
 rw [canonP_eq]
 unfold canonE
 rw [ofEr_eq]
 cases h:isLen s 32
 ·rfl
 ·have hl:=isLen_eq.1 h
  rw [Bool.true_and,Bool.true_and,Bool.eq_iff_iff,beq_iff_eq,decide_eq_true_iff]
  have hv:=bytesE_val (ofEl s)
  rw [ofEl_val h] at hv
  constructor
  ·intro e
   rw [e] at hv
   rw [hv]
   exact Nat.mod_lt _ Pq_pos
  ·intro hlt
   rw [Nat.mod_eq_of_lt hlt] at hv
   exact leNat_inj (by rw [bytesE_len,hl]) hv
end Go.Num
namespace Go.Num
open Go Go.Eng
theorem sub_zero {a b:E5}{x y:N16}(h:Rel a x) (k:Rel b y):samP (subP x y) zeroN=samP x y:=by
 obtain ⟨o,e⟩:=subP_val x y h.okP k.okP k.lt
 rw [samP_eq,samP_eq,decide_eq_decide]
 have hx:=h.lt
 have hy:=k.lt
 constructor
 ·intro hz
  rw [hz,zeroN_val] at e
  refine N16.ext_val h.okP k.okP ?_
  rcases Nat.lt_or_ge (x.val+(Pq - y.val)) Pq with hl | hl
  ·rw [Nat.mod_eq_of_lt hl] at e; omega
  ·rw [Nat.mod_eq_sub_mod hl,Nat.mod_eq_of_lt (by omega)] at e; omega
 ·intro hxy
  subst hxy
  refine N16.ext_val o zeroN_ok ?_
  rw [e,zeroN_val]
  have:x.val+(Pq - x.val)=Pq:=by omega
  rw [this,Nat.mod_self]
end Go.Num
namespace Go.Num
open Go Go.Eng
def nRoot0 (v:Nat):Nat:=natF v 1 (bitsL 252 2)
def nRoot1 (v:Nat):Nat:=if nRoot0 v * nRoot0 v % Pq=v then nRoot0 v else nRoot0 v * iNat % Pq
def nHas (v:Nat):Bool:=decide (nRoot1 v * nRoot1 v % Pq=v)
def nRoot (v:Nat):Nat:=if nHas v=true then (if nRoot1 v % 2=1 then (Pq - nRoot1 v) % Pq else nRoot1 v) else 0
theorem one_mod (a:Nat):(1:Nat)=a ^ 0 % Pq:=by rw [Nat.pow_zero]; exact (Nat.mod_eq_of_lt (by decide)).symm
theorem root0_nat {a:E5}(ha:a.ok):(root0E a).val % Pq=nRoot0 (a.val % Pq):=by
 have h:=(pow_root ha).val
 have h2:=natF_val (a.val % Pq) (bitsL 252 2) 1 0 (one_mod _)
 have e:eRoot=bitsNat 0 (bitsL 252 2):=rfl
 rw [e] at h
 unfold nRoot0
 revert h h2
 generalize bitsNat 0 (bitsL 252 2)=n
 intro h h2
 rw [h,h2,← Nat.pow_mod]
theorem root0_ok {a:E5}(ha:a.ok):(root0E a).ok:=(pow_root ha).ok
theorem root1_nat {a:E5}(ha:a.ok):(root1E a).ok∧(root1E a).val % Pq=nRoot1 (a.val % Pq):=by
 have o0:=root0_ok ha
 have e0:=root0_nat ha
 obtain ⟨o1,e1⟩:=mulE_val _ _ o0 o0
 obtain ⟨o2,e2⟩:=mulE_val _ _ o0 turned_ok
 have hs:sameE (mulE (root0E a) (root0E a)) a=decide (nRoot0 (a.val % Pq) * nRoot0 (a.val % Pq) % Pq=a.val % Pq):=by
  rw [sameE_eq,e1,Nat.mul_mod,e0]
 rw [root1E_eq,hs]
 unfold nRoot1
 by_cases h:nRoot0 (a.val % Pq) * nRoot0 (a.val % Pq) % Pq=a.val % Pq
 ·rw [decide_eq_true h,if_pos rfl,if_pos h]
  exact ⟨o0,e0⟩
 ·rw [decide_eq_false h,if_neg (by simp),if_neg h]
  refine ⟨o2,?_⟩
  rw [e2,Nat.mul_mod,e0,turned_val,iNat_mod]
theorem has_nat {a:E5}(ha:a.ok):hasE a=nHas (a.val % Pq):=by
 obtain ⟨o1,e1⟩:=root1_nat ha
 obtain ⟨_,e2⟩:=mulE_val _ _ o1 o1
 unfold hasE nHas
 rw [sameE_eq,e2,Nat.mul_mod,e1]
theorem neg_nat {a:E5}(ha:a.ok):(negE a).ok∧(negE a).val % Pq=(Pq - a.val % Pq) % Pq:=by
 obtain ⟨o,e,hle⟩:=subE_val zeroE a zeroE_ok ha
 refine ⟨o,?_⟩
 unfold negE
 rw [e,sub_mod _ _ _ Pq_pos hle,zeroE_val,Nat.zero_mod,Nat.zero_add]
theorem root_nat {a:E5}(ha:a.ok):(rootE a).ok∧(rootE a).val % Pq=nRoot (a.val % Pq):=by
 obtain ⟨o1,e1⟩:=root1_nat ha
 obtain ⟨o2,e2⟩:=neg_nat o1
 have ho:oddE (root1E a)=decide (nRoot1 (a.val % Pq) % 2=1):=by rw [oddE_eq,e1]
 rw [rootE_eq,has_nat ha,ho]
 unfold nRoot
 by_cases h:nHas (a.val % Pq)=true
 ·rw [if_pos h,if_pos h]
  by_cases h2:nRoot1 (a.val % Pq) % 2=1
  ·rw [decide_eq_true h2,if_pos rfl,if_pos h2]
   exact ⟨o2,by rw [e2,e1]⟩
  ·rw [decide_eq_false h2,if_neg (by simp),if_neg h2]
   exact ⟨o1,e1⟩
 ·rw [if_neg h,if_neg h]
  exact ⟨zeroE_ok,by rw [zeroE_val]; rfl⟩
theorem small_mod (n:UInt32):(smallE n).val % Pq=n.toNat:=by
 have h:=n.toNat_lt
 simp only [Nat.reducePow] at h
 rw [(smallE_val n).2,Nat.mod_eq_of_lt (by unfold Pq; omega)]
end Go.Num
namespace Go.Num
def Irr (q:Nat):Prop:=1 < q∧∀ d,d ∣ q→d=1 ∨ d=q
def smallB (q:Nat):Nat→Nat→Bool
 | 0,_=>false
 | f+1,d=>cond (Nat.ble (q+1) (d * d)) true (cond (Nat.beq (q % d) 0) false (smallB q f (d+1)))
theorem smallB_ok (q:Nat) (hq:1 < q):∀ (f d:Nat),2≤d→(∀ e,2≤e→e < d → ¬ e ∣ q)→smallB q f d=true→Irr q
 | 0,_,_,_,h=>by cases h
 | f+1,d,hd,hn,h=>by
  unfold smallB at h
  cases h1:Nat.ble (q+1) (d * d) with
  | true =>
   have h2:=Nat.le_of_ble_eq_true h1
   refine ⟨hq,fun e he => ?_⟩
   by_cases e1:e=1
   ·exact .inl e1
   by_cases e2:e=q
   ·exact .inr e2
   exfalso
   obtain ⟨c,hc⟩:=he
   have hc0:c ≠ 0:=fun h0=>by subst h0; omega
   have he0:e ≠ 0:=fun h0=>by subst h0; omega
   have hc1:c ≠ 1:=fun h0=>by subst h0; omega
   by_cases h3:e < d
   ·exact hn e (by omega) h3 ⟨c,hc⟩
   ·by_cases h4:c < d
    ·exact hn c (by omega) h4 ⟨e,by rw [Nat.mul_comm]; exact hc⟩
    ·have:d * d≤e * c:=Nat.mul_le_mul (by omega) (by omega)
     omega
  | false =>
   rw [h1,cond_false] at h
   cases h2:Nat.beq (q % d) 0 with
   | true=>rw [h2] at h; cases h
   | false =>
    rw [h2,cond_false] at h
    refine smallB_ok q hq f (d+1) (by omega) (fun e he1 he2 => ?_) h
    by_cases h3:e=d
    ·subst h3
     intro hdv
     have:=Nat.mod_eq_zero_of_dvd hdv
     rw [this] at h2
     cases h2
    ·exact hn e he1 (by omega)
theorem irr_small (q f:Nat) (hq:Nat.blt 1 q=true) (h:smallB q f 2=true):Irr q:=
 smallB_ok q (Nat.le_of_ble_eq_true hq) f 2 (by omega) (fun e h1 h2=>by omega) h
theorem pow_one_mul {n g a:Nat}(hn:1 < n) (h:g ^ a % n=1) (k:Nat):g ^ (a * k) % n=1:=by
 rw [Nat.pow_mul,Nat.pow_mod,h,Nat.one_pow]
 exact Nat.mod_eq_of_lt hn
theorem pow_gcd {n g:Nat}(hn:1 < n) (a b:Nat):g ^ a % n=1→g ^ b % n=1→g ^ (Nat.gcd a b) % n=1:=by
 induction a,b using Nat.gcd.induction with
 | H0 b=>intro _ h; rw [Nat.gcd_zero_left]; exact h
 | H1 a b ha ih =>
  intro h1 h2
  rw [Nat.gcd_rec]
  refine ih ?_ h1
  have e:g ^ b=g ^ (a * (b / a)) * g ^ (b % a):=by rw [← Nat.pow_add,Nat.div_add_mod]
  rw [e,Nat.mul_mod,pow_one_mul hn h1,Nat.one_mul,Nat.mod_mod] at h2
  exact h2
def prodQ:List Nat→Nat
 | []=>1
 | q::l=>q * prodQ l
theorem prodQ_dvd:∀ {l:List Nat}{q:Nat},q ∈ l→q ∣ prodQ l
 | x::l,q,h=>by
  rcases List.mem_cons.1 h with rfl | h
  ·exact Nat.dvd_mul_right q (prodQ l)
  ·exact Nat.dvd_trans (prodQ_dvd h) (Nat.dvd_mul_left _ _)
theorem dvd_less:∀ (l:List Nat) (g:Nat),(∀ q ∈ l,Irr q)→g ∣ prodQ l→g ≠ prodQ l→∃ q ∈ l,g ∣ prodQ l / q
 | [],g,_,h,hne=>by
  exfalso
  exact hne (Nat.dvd_one.1 h)
 | q::l,g,hl,h,hne=>by
  obtain ⟨hq1,hq2⟩:=hl q (List.mem_cons_self ..)
  have hq0:0 < q:=by omega
  have hdiv:prodQ (q::l) / q=prodQ l:=Nat.mul_div_cancel_left _ hq0
  rcases hq2 (Nat.gcd g q) (Nat.gcd_dvd_right g q) with e | e
  ·refine ⟨q,List.mem_cons_self ..,?_⟩
   rw [hdiv]
   exact Nat.Coprime.dvd_of_dvd_mul_left (k:=g) (m:=q) e h
  ·have hqg:q ∣ g:=e ▸ Nat.gcd_dvd_left g q
   obtain ⟨g',rfl⟩:=hqg
   have h1:g' ∣ prodQ l:=Nat.dvd_of_mul_dvd_mul_left hq0 h
   have h2:g' ≠ prodQ l:=fun e=>hne (by rw [e]; rfl)
   obtain ⟨r,hr,hd⟩:=dvd_less l g' (fun x hx=>hl x (List.mem_cons_of_mem _ hx)) h1 h2
   refine ⟨r,List.mem_cons_of_mem _ hr,?_⟩
   show q * g' ∣ q * prodQ l / r
   rw [Nat.mul_div_assoc _ (prodQ_dvd hr)]
   exact Nat.mul_dvd_mul_left q hd
theorem pigeon:∀ (m:Nat) (f:Nat→Nat),(∀ i,i < m→f i < m)→(∀ i j,i < m→j < m→f i=f j→i=j)→∀ a,a < m→∃ i,i < m∧f i=a
 | 0,_,_,_,a,h=>by omega
 | m+1,f,h1,h2,a,ha=>by
  have key:=pigeon m (fun i=>if f i=m then f m else f i) (fun i hi=>by
   show (if f i=m then f m else f i) < m
   split
   ·rename_i e
    have:=h1 m (by omega)
    have hne:f m ≠ m:=fun e2=>by
     have:=h2 i m (by omega) (by omega) (by rw [e,e2])
     omega
    omega
   ·have:=h1 i (by omega)
    omega) (fun i j hi hj he=>by
   have he:(if f i=m then f m else f i)=(if f j=m then f m else f j):=he
   split at he <;> split at he
   ·rename_i e1 e2
    exact h2 i j (by omega) (by omega) (by rw [e1,e2])
   ·have:=h2 m j (by omega) (by omega) he
    omega
   ·have:=h2 i m (by omega) (by omega) he
    omega
   ·exact h2 i j (by omega) (by omega) he)
  by_cases e1:a=f m
  ·exact ⟨m,by omega,e1.symm⟩
  by_cases e2:a=m
  ·obtain ⟨i,hi,he⟩:=key (f m) (by have:=h1 m (by omega); omega)
   have he:(if f i=m then f m else f i)=f m:=he
   split at he
   ·rename_i e3
    exact ⟨i,by omega,by rw [e3,e2]⟩
   ·have:=h2 i m (by omega) (by omega) he
    omega
  ·obtain ⟨i,hi,he⟩:=key a (by omega)
   have he:(if f i=m then f m else f i)=a:=he
   split at he
   ·exact absurd he.symm e1
   ·exact ⟨i,by omega,he⟩
structure Gen (n g:Nat):Prop where
 one:1 < n
 full:g ^ (n - 1) % n=1
 ord:∀ k,g ^ k % n=1→(n - 1) ∣ k
theorem gen_of (n g:Nat) (l:List Nat) (hn:1 < n) (hl:∀ q ∈ l,Irr q) (hp:prodQ l=n - 1) (h1:g ^ (n - 1) % n=1) (h2:∀ q ∈ l,g ^ ((n - 1) / q) % n ≠ 1):Gen n g:=by
 refine ⟨hn,h1,fun k hk => ?_⟩
 have hd:=pow_gcd hn k (n - 1) hk h1
 by_cases e:Nat.gcd k (n - 1)=n - 1
 ·rw [← e]; exact Nat.gcd_dvd_left k (n - 1)
 ·exfalso
  obtain ⟨q,hq,c,hc⟩:=dvd_less l (Nat.gcd k (n - 1)) hl (hp ▸ Nat.gcd_dvd_right k (n - 1)) (hp.symm ▸ e)
  rw [hp] at hc
  exact h2 q hq (by rw [hc]; exact pow_one_mul hn hd c)
theorem Gen.ne_zero {n g:Nat}(h:Gen n g) (k:Nat):g ^ k % n ≠ 0:=fun e=>by
 have h1:=pow_one_mul h.one h.full k
 have hn:=h.one
 obtain ⟨m,hm⟩:∃ m,n - 1=m+1:=⟨n - 2,by omega⟩
 rw [hm,Nat.succ_mul,Nat.pow_add,Nat.mul_mod,e,Nat.mul_zero,Nat.zero_mod] at h1
 cases h1
theorem Gen.inj {n g:Nat}(h:Gen n g){i j:Nat}(hij:i≤j) (hj:j < n - 1) (e:g ^ i % n=g ^ j % n):i=j:=by
 have hn:=h.one
 have e2:g ^ (j - i) % n=1:=by
  have a1:(g ^ (n - 1 - i) * g ^ i) % n=(g ^ (n - 1 - i) * g ^ j) % n:=by rw [Nat.mul_mod,e,← Nat.mul_mod]
  rw [← Nat.pow_add,← Nat.pow_add,show n - 1 - i+i=n - 1 by omega,h.full,show n - 1 - i+j=(n - 1)+(j - i) by omega,Nat.pow_add,Nat.mul_mod,h.full,Nat.one_mul,Nat.mod_mod] at a1
  exact a1.symm
 obtain ⟨c,hc⟩:=h.ord _ e2
 cases c with
 | zero=>omega
 | succ c =>
  exfalso
  have:n - 1≤(n - 1) * (c+1):=Nat.le_mul_of_pos_right _ (by omega)
  omega
theorem Gen.gens {n g:Nat}(h:Gen n g) (a:Nat) (h0:0 < a) (ha:a < n):∃ i,i < n - 1∧g ^ i % n=a:=by
 have hn:=h.one
 obtain ⟨i,hi,e⟩:=pigeon (n - 1) (fun i=>g ^ i % n - 1) (fun i hi=>by
   have:=h.ne_zero i
   have:=Nat.mod_lt (g ^ i) (show 0 < n by omega)
   show g ^ i % n - 1 < n - 1
   omega) (fun i j hi hj e=>by
   have a1:=h.ne_zero i
   have a2:=h.ne_zero j
   have e:g ^ i % n - 1=g ^ j % n - 1:=e
   rcases Nat.le_total i j with k | k
   ·exact h.inj k hj (by omega)
   ·exact (h.inj k hi (by omega)).symm) (a - 1) (by omega)
 have e:g ^ i % n - 1=a - 1:=e
 have:=h.ne_zero i
 exact ⟨i,hi,by omega⟩
theorem Gen.irr {n g:Nat}(h:Gen n g):Irr n:=by
 refine ⟨h.one,fun d hd => ?_⟩
 have hn:=h.one
 by_cases e1:d=1
 ·exact .inl e1
 by_cases e2:d=n
 ·exact .inr e2
 exfalso
 obtain ⟨c,hc⟩:=hd
 have hd0:d ≠ 0:=fun e=>by subst e; omega
 have hc0:c ≠ 0:=fun e=>by subst e; omega
 have hc1:c ≠ 1:=fun e=>by subst e; omega
 have hdn:d < n:=by rw [hc]; exact (Nat.lt_mul_iff_one_lt_right (by omega)).2 (by omega)
 have hcn:c < n:=by rw [hc]; exact (Nat.lt_mul_iff_one_lt_left (by omega)).2 (by omega)
 obtain ⟨i,_,hi⟩:=h.gens d (by omega) hdn
 obtain ⟨j,_,hj⟩:=h.gens c (by omega) hcn
 refine h.ne_zero (i+j) ?_
 rw [Nat.pow_add,Nat.mul_mod,hi,hj,← hc,Nat.mod_self]
def pwB (n a x:Nat):List Bool→Nat
 | []=>x
 | b::l=>pwB n a (cond b (x * x % n * a % n) (x * x % n)) l
def bN (k:Nat):List Bool→Nat
 | []=>k
 | b::l=>bN (cond b (k+k+1) (k+k)) l
theorem pwB_val (n a:Nat):∀ (l:List Bool) (x k:Nat),x=a ^ k % n→pwB n a x l=a ^ (bN k l) % n
 | [],x,k,h=>h
 | b::l,x,k,h=>by
  unfold pwB bN
  refine pwB_val n a l _ _ ?_
  have e:x * x % n=a ^ (k+k) % n:=by rw [h,Nat.pow_add,← Nat.mul_mod]
  cases b with
  | false=>exact e
  | true =>
   show x * x % n * a % n=a ^ (k+k+1) % n
   rw [e,Nat.pow_succ,Nat.mod_mul_mod]
def bitsOf (e:Nat):List Bool:=(List.range 256).map fun i=>e.testBit (255 - i)
def pwE (n a e:Nat):Nat:=pwB n a 1 (bitsOf e)
theorem pwE_val {n a e:Nat}(hn:1 < n) (h:bN 0 (bitsOf e)=e):a ^ e % n=pwE n a e:=by
 have:=pwB_val n a (bitsOf e) 1 0 (by rw [Nat.pow_zero]; exact (Nat.mod_eq_of_lt hn).symm)
 unfold pwE
 rw [this,h]
def certB (n g:Nat) (l:List Nat):Bool:=
 Nat.blt 1 n && (Nat.beq (prodQ l) (n - 1) && (Nat.beq (bN 0 (bitsOf (n - 1))) (n - 1) && (Nat.beq (pwE n g (n - 1)) 1 && l.all fun q=>Nat.beq (bN 0 (bitsOf ((n - 1) / q))) ((n - 1) / q) && !Nat.beq (pwE n g ((n - 1) / q)) 1)))
theorem gen_cert (n g:Nat) (l:List Nat) (hl:∀ q ∈ l,Irr q) (h:certB n g l=true):Gen n g:=by
 unfold certB at h
 simp only [Bool.and_eq_true,List.all_eq_true,Bool.not_eq_true'] at h
 obtain ⟨h1,h2,h3,h4,h5⟩:=h
 have hn:1 < n:=Nat.le_of_ble_eq_true h1
 refine gen_of n g l hn hl (Nat.eq_of_beq_eq_true h2) ?_ fun q hq => ?_
 ·rw [pwE_val hn (Nat.eq_of_beq_eq_true h3)]
  exact Nat.eq_of_beq_eq_true h4
 ·obtain ⟨a,b⟩:=h5 q hq
  rw [pwE_val hn (Nat.eq_of_beq_eq_true a)]
  intro e
  rw [e] at b
  cases b
theorem gen8574133:Gen 8574133 2:=gen_cert 8574133 2 [2,2,3,7,103,991] (fun q hq=>by
 simp only [List.mem_cons,List.mem_nil_iff,or_false] at hq
 rcases hq with rfl | rfl | rfl | rfl | rfl | rfl
 ·exact (irr_small 2 2000 rfl (by kernel_rfl))
 ·exact (irr_small 2 2000 rfl (by kernel_rfl))
 ·exact (irr_small 3 2000 rfl (by kernel_rfl))
 ·exact (irr_small 7 2000 rfl (by kernel_rfl))
 ·exact (irr_small 103 2000 rfl (by kernel_rfl))
 ·exact (irr_small 991 2000 rfl (by kernel_rfl))
 ) (by kernel_rfl)
theorem irr8574133:Irr 8574133:=gen8574133.irr
theorem gen1919519569386763:Gen 1919519569386763 2:=gen_cert 1919519569386763 2 [2,3,7,19,47,47,127,8574133] (fun q hq=>by
 simp only [List.mem_cons,List.mem_nil_iff,or_false] at hq
 rcases hq with rfl | rfl | rfl | rfl | rfl | rfl | rfl | rfl
 ·exact (irr_small 2 2000 rfl (by kernel_rfl))
 ·exact (irr_small 3 2000 rfl (by kernel_rfl))
 ·exact (irr_small 7 2000 rfl (by kernel_rfl))
 ·exact (irr_small 19 2000 rfl (by kernel_rfl))
 ·exact (irr_small 47 2000 rfl (by kernel_rfl))
 ·exact (irr_small 47 2000 rfl (by kernel_rfl))
 ·exact (irr_small 127 2000 rfl (by kernel_rfl))
 ·exact (irr8574133)
 ) (by kernel_rfl)
theorem irr1919519569386763:Irr 1919519569386763:=gen1919519569386763.irr
theorem gen2773320623:Gen 2773320623 5:=gen_cert 2773320623 5 [2,2437,569003] (fun q hq=>by
 simp only [List.mem_cons,List.mem_nil_iff,or_false] at hq
 rcases hq with rfl | rfl | rfl
 ·exact (irr_small 2 2000 rfl (by kernel_rfl))
 ·exact (irr_small 2437 2000 rfl (by kernel_rfl))
 ·exact (irr_small 569003 2000 rfl (by kernel_rfl))
 ) (by kernel_rfl)
theorem irr2773320623:Irr 2773320623:=gen2773320623.irr
theorem gen72106336199:Gen 72106336199 7:=gen_cert 72106336199 7 [2,13,2773320623] (fun q hq=>by
 simp only [List.mem_cons,List.mem_nil_iff,or_false] at hq
 rcases hq with rfl | rfl | rfl
 ·exact (irr_small 2 2000 rfl (by kernel_rfl))
 ·exact (irr_small 13 2000 rfl (by kernel_rfl))
 ·exact (irr2773320623)
 ) (by kernel_rfl)
theorem irr72106336199:Irr 72106336199:=gen72106336199.irr
theorem gen75445702479781427272750846543864801:Gen 75445702479781427272750846543864801 7:=gen_cert 75445702479781427272750846543864801 7 [2,2,2,2,2,3,3,5,5,75707,72106336199,1919519569386763] (fun q hq=>by
 simp only [List.mem_cons,List.mem_nil_iff,or_false] at hq
 rcases hq with rfl | rfl | rfl | rfl | rfl | rfl | rfl | rfl | rfl | rfl | rfl | rfl
 ·exact (irr_small 2 2000 rfl (by kernel_rfl))
 ·exact (irr_small 2 2000 rfl (by kernel_rfl))
 ·exact (irr_small 2 2000 rfl (by kernel_rfl))
 ·exact (irr_small 2 2000 rfl (by kernel_rfl))
 ·exact (irr_small 2 2000 rfl (by kernel_rfl))
 ·exact (irr_small 3 2000 rfl (by kernel_rfl))
 ·exact (irr_small 3 2000 rfl (by kernel_rfl))
 ·exact (irr_small 5 2000 rfl (by kernel_rfl))
 ·exact (irr_small 5 2000 rfl (by kernel_rfl))
 ·exact (irr_small 75707 2000 rfl (by kernel_rfl))
 ·exact (irr72106336199)
 ·exact (irr1919519569386763)
 ) (by kernel_rfl)
theorem irr75445702479781427272750846543864801:Irr 75445702479781427272750846543864801:=gen75445702479781427272750846543864801.irr
theorem gen31757755568855353:Gen 31757755568855353 10:=gen_cert 31757755568855353 10 [2,2,2,3,31,107,223,4153,430751] (fun q hq=>by
 simp only [List.mem_cons,List.mem_nil_iff,or_false] at hq
 rcases hq with rfl | rfl | rfl | rfl | rfl | rfl | rfl | rfl | rfl
 ·exact (irr_small 2 2000 rfl (by kernel_rfl))
 ·exact (irr_small 2 2000 rfl (by kernel_rfl))
 ·exact (irr_small 2 2000 rfl (by kernel_rfl))
 ·exact (irr_small 3 2000 rfl (by kernel_rfl))
 ·exact (irr_small 31 2000 rfl (by kernel_rfl))
 ·exact (irr_small 107 2000 rfl (by kernel_rfl))
 ·exact (irr_small 223 2000 rfl (by kernel_rfl))
 ·exact (irr_small 4153 2000 rfl (by kernel_rfl))
 ·exact (irr_small 430751 2000 rfl (by kernel_rfl))
 ) (by kernel_rfl)
theorem irr31757755568855353:Irr 31757755568855353:=gen31757755568855353.irr
theorem gen74058212732561358302231226437062788676166966415465897661863160754340907:Gen 74058212732561358302231226437062788676166966415465897661863160754340907 2:=gen_cert 74058212732561358302231226437062788676166966415465897661863160754340907 2 [2,3,353,57467,132049,1923133,31757755568855353,75445702479781427272750846543864801] (fun q hq=>by
 simp only [List.mem_cons,List.mem_nil_iff,or_false] at hq
 rcases hq with rfl | rfl | rfl | rfl | rfl | rfl | rfl | rfl
 ·exact (irr_small 2 2000 rfl (by kernel_rfl))
 ·exact (irr_small 3 2000 rfl (by kernel_rfl))
 ·exact (irr_small 353 2000 rfl (by kernel_rfl))
 ·exact (irr_small 57467 2000 rfl (by kernel_rfl))
 ·exact (irr_small 132049 2000 rfl (by kernel_rfl))
 ·exact (irr_small 1923133 2000 rfl (by kernel_rfl))
 ·exact (irr31757755568855353)
 ·exact (irr75445702479781427272750846543864801)
 ) (by kernel_rfl)
theorem irr74058212732561358302231226437062788676166966415465897661863160754340907:Irr 74058212732561358302231226437062788676166966415465897661863160754340907:=gen74058212732561358302231226437062788676166966415465897661863160754340907.irr
theorem gen57896044618658097711785492504343953926634992332820282019728792003956564819949:Gen 57896044618658097711785492504343953926634992332820282019728792003956564819949 2:=gen_cert 57896044618658097711785492504343953926634992332820282019728792003956564819949 2 [2,2,3,65147,74058212732561358302231226437062788676166966415465897661863160754340907] (fun q hq=>by
 simp only [List.mem_cons,List.mem_nil_iff,or_false] at hq
 rcases hq with rfl | rfl | rfl | rfl | rfl
 ·exact (irr_small 2 2000 rfl (by kernel_rfl))
 ·exact (irr_small 2 2000 rfl (by kernel_rfl))
 ·exact (irr_small 3 2000 rfl (by kernel_rfl))
 ·exact (irr_small 65147 2000 rfl (by kernel_rfl))
 ·exact (irr74058212732561358302231226437062788676166966415465897661863160754340907)
 ) (by kernel_rfl)
end Go.Num
namespace Go.Num
open Go Go.Eng
theorem pow_congr {P a b:Nat}(h:a % P=b % P) (k:Nat):a ^ k % P=b ^ k % P:=by rw [Nat.pow_mod,h,← Nat.pow_mod]
theorem mul_congr {P a b c d:Nat}(h:a % P=b % P) (k:c % P=d % P):a * c % P=b * d % P:=by rw [Nat.mul_mod,h,k,← Nat.mul_mod]
theorem Gen.rep {P g:Nat}(h:Gen P g){a:Nat}(ha:a % P ≠ 0):∃ k,g ^ k % P=a % P:=by
 have h1:=h.one
 obtain ⟨k,_,e⟩:=h.gens (a % P) (by omega) (Nat.mod_lt _ (by omega))
 exact ⟨k,e⟩
theorem Gen.fermat {P g:Nat}(h:Gen P g){a:Nat}(ha:a % P ≠ 0):a ^ (P - 1) % P=1:=by
 obtain ⟨k,e⟩:=h.rep ha
 rw [← pow_congr e (P - 1),← Nat.pow_mul,Nat.mul_comm]
 exact pow_one_mul h.one h.full k
theorem Gen.inv {P g:Nat}(h:Gen P g) (h3:3≤P){a:Nat}(ha:a % P ≠ 0):a * a ^ (P - 2) % P=1:=by
 rw [Nat.mul_comm,← Nat.pow_succ,Nat.succ_eq_add_one,show P - 2+1=P - 1 by omega]
 exact h.fermat ha
theorem Gen.cancel {P g:Nat}(h:Gen P g) (h3:3≤P){a s t:Nat}(ha:a % P ≠ 0) (e:a * s % P=a * t % P):s % P=t % P:=by
 have i:=h.inv h3 ha
 have hone:(1:Nat) % P=1:=Nat.mod_eq_of_lt h.one
 have e1:∀ u:Nat,a ^ (P - 2) * (a * u) % P=u % P:=fun u=>by
  have:a ^ (P - 2) * (a * u)=a * a ^ (P - 2) * u:=by
   rw [← Nat.mul_assoc,Nat.mul_comm (a ^ (P - 2)) a]
  rw [this,Nat.mul_mod,i,Nat.one_mul,Nat.mod_mod]
 have e2:=mul_congr (rfl:a ^ (P - 2) % P=a ^ (P - 2) % P) e
 rw [e1,e1] at e2
 exact e2
structure Vm (x:E5) (n:Nat):Prop where
 ok:x.ok
 val:x.val % Pq=n % Pq
theorem Vm.self {x:E5}(h:x.ok):Vm x x.val:=⟨h,rfl⟩
theorem Vm.add {x y:E5}{n m:Nat}(h:Vm x n) (k:Vm y m):Vm (addE x y) (n+m):=by
 obtain ⟨o,e⟩:=addE_val x y h.ok k.ok
 exact ⟨o,by rw [e,Nat.add_mod,h.val,k.val,← Nat.add_mod]⟩
theorem Vm.mul {x y:E5}{n m:Nat}(h:Vm x n) (k:Vm y m):Vm (mulE x y) (n * m):=by
 obtain ⟨o,e⟩:=mulE_val x y h.ok k.ok
 exact ⟨o,by rw [e]; exact mul_congr h.val k.val⟩
theorem Vm.sub {x y:E5}{n m:Nat}(h:Vm x n) (k:Vm y m):Vm (subE x y) (n+(Pq - m % Pq)):=by
 obtain ⟨o,e,hle⟩:=subE_val x y h.ok k.ok
 refine ⟨o,?_⟩
 rw [e,sub_mod _ _ _ Pq_pos hle,k.val,h.val,← Nat.add_mod_mod,Nat.add_mod_mod,Nat.add_mod]
 rw [Nat.mod_mod,← Nat.add_mod]
theorem Vm.neg {x:E5}{n:Nat}(h:Vm x n):Vm (negE x) (Pq - n % Pq):=by
 obtain ⟨o,e⟩:=neg_nat h.ok
 exact ⟨o,by rw [e,h.val]⟩
theorem vm_zero:Vm zeroE 0:=⟨zeroE_ok,by rw [zeroE_val]⟩
theorem vm_small (n:UInt32):Vm (smallE n) n.toNat:=⟨(smallE_val n).1,by rw [(smallE_val n).2]⟩
theorem Vm.same {x y:E5}{n m:Nat}(h:Vm x n) (k:Vm y m):sameE x y=decide (n % Pq=m % Pq):=by rw [sameE_eq,h.val,k.val]
theorem genP:Gen Pq 2:=gen57896044618658097711785492504343953926634992332820282019728792003956564819949
theorem P3:3≤Pq:=by decide
theorem fInv:eInv=Pq - 2:=by kernel_rfl
def mP:Nat:=14474011154664524427946373126085988481658748083205070504932198000989141204987
theorem vm_inv {a:E5}{n:Nat}(h:Vm a n):Vm (invE a) (n ^ (Pq - 2)):=by
 have p:=pow_inv h.ok
 refine ⟨p.ok,?_⟩
 rw [p.val,fInv]
 generalize Pq - 2=e
 exact pow_congr h.val e
theorem root1_ok {a:E5}(ha:a.ok):(root1E a).ok:=(root1_nat ha).1
theorem root_sq {a:E5}(ha:a.ok) (h:hasE a=true):sameE (mulE (rootE a) (rootE a)) a=true:=by
 have h1:sameE (mulE (root1E a) (root1E a)) a=true:=h
 have v1:=Vm.self (root1_ok ha)
 rw [rootE_eq,if_pos h]
 by_cases h2:oddE (root1E a)=true
 ·rw [if_pos h2]
  rw [(v1.neg.mul v1.neg).same (Vm.self ha),decide_eq_true_iff]
  rw [(v1.mul v1).same (Vm.self ha),decide_eq_true_iff] at h1
  rw [← h1]
  generalize (root1E a).val=x
  have hlt:=Nat.mod_lt x Pq_pos
  have e:(Pq - x % Pq) * (Pq - x % Pq)+2 * Pq * (x % Pq)=Pq * Pq+(x % Pq) * (x % Pq):=by
   generalize x % Pq=y at hlt
   obtain ⟨z,hz⟩:∃ z,Pq=z+y:=⟨Pq - y,by omega⟩
   rw [hz,Nat.add_sub_cancel]
   grind
  have e2:((Pq - x % Pq) * (Pq - x % Pq)+2 * Pq * (x % Pq)) % Pq=(Pq - x % Pq) * (Pq - x % Pq) % Pq:=by
   rw [show 2 * Pq * (x % Pq)=Pq * (2 * (x % Pq)) by rw [Nat.mul_comm 2 Pq,Nat.mul_assoc]]
   exact Nat.add_mul_mod_self_left _ _ _
  rw [← e2,e,Nat.add_comm,Nat.add_mul_mod_self_left,← Nat.mul_mod]
 ·rw [if_neg h2]
  exact h1
theorem inv_one {a:E5}(ha:a.ok):sameE (mulE a (invE a)) (smallE 1)=decide (a.val % Pq ≠ 0):=by
 have v:=Vm.self ha
 rw [(v.mul (vm_inv v)).same (vm_small 1)]
 refine decide_eq_decide.2 ?_
 have e1:(1:UInt32).toNat % Pq=1:=by decide
 rw [e1]
 constructor
 ·intro h h0
  rw [Nat.mul_mod,h0,Nat.zero_mul,Nat.zero_mod] at h
  cases h
 ·exact fun h=>genP.inv P3 h
end Go.Num
namespace Go.Num
open Go Go.Eng
structure Ops (R:Type) where
 add:R→R→R
 sub:R→R→R
 mul:R→R→R
 small:UInt32→R
 zero:R
structure P2 (R:Type) where
 x:R
 z:R
def stepO {R:Type}(o:Ops R) (p q:P2 R) (u:R):P2 R × P2 R:=
  (⟨o.mul (o.mul (o.add p.x p.z) (o.add p.x p.z)) (o.mul (o.sub p.x p.z) (o.sub p.x p.z)),
    o.mul (o.sub (o.mul (o.add p.x p.z) (o.add p.x p.z)) (o.mul (o.sub p.x p.z) (o.sub p.x p.z))) (o.add (o.mul (o.add p.x p.z) (o.add p.x p.z)) (o.mul (o.small 121665) (o.sub (o.mul (o.add p.x p.z) (o.add p.x p.z)) (o.mul (o.sub p.x p.z) (o.sub p.x p.z)))))⟩,
   ⟨o.mul (o.add (o.mul (o.sub q.x q.z) (o.add p.x p.z)) (o.mul (o.add q.x q.z) (o.sub p.x p.z))) (o.add (o.mul (o.sub q.x q.z) (o.add p.x p.z)) (o.mul (o.add q.x q.z) (o.sub p.x p.z))),
    o.mul u (o.mul (o.sub (o.mul (o.sub q.x q.z) (o.add p.x p.z)) (o.mul (o.add q.x q.z) (o.sub p.x p.z))) (o.sub (o.mul (o.sub q.x q.z) (o.add p.x p.z)) (o.mul (o.add q.x q.z) (o.sub p.x p.z))))⟩)
def rndO {R:Type}(o:Ops R) (u:R) (b:Bool) (s:P2 R × P2 R):P2 R × P2 R:=
 cond b ((stepO o s.2 s.1 u).2,(stepO o s.2 s.1 u).1) (stepO o s.1 s.2 u)
def bitB (k:List UInt8) (i:Nat):UInt8:=shr_u8 (k.getD (i / 8) 0) (i % 8) &&& 1
def bitK (k:List UInt8) (i:Nat):Bool:=bitB k i == 1
def ladO {R:Type}(o:Ops R) (k:List UInt8) (u:R):Nat→P2 R × P2 R
 | 0=>(⟨o.small 1,o.zero⟩,⟨u,o.small 1⟩)
 | j+1=>rndO o u (bitK k (254 - j)) (ladO o k u j)
structure Keeps {R S:Type} (o:Ops R) (o':Ops S) (r:R→S→Prop):Prop where
 add:∀ {a b x y},r a x→r b y→r (o.add a b) (o'.add x y)
 sub:∀ {a b x y},r a x→r b y→r (o.sub a b) (o'.sub x y)
 mul:∀ {a b x y},r a x→r b y→r (o.mul a b) (o'.mul x y)
 small:∀ n,r (o.small n) (o'.small n)
 zero:r o.zero o'.zero
def R2 {R S:Type}(r:R→S→Prop) (p:P2 R) (q:P2 S):Prop:=r p.x q.x∧r p.z q.z
theorem step_keeps {R S:Type}{o:Ops R}{o':Ops S}{r:R→S→Prop}(k:Keeps o o' r){p q:P2 R}{p' q':P2 S}{u:R}{u':S}(hp:R2 r p p') (hq:R2 r q q') (hu:r u u') :
  R2 r (stepO o p q u).1 (stepO o' p' q' u').1∧R2 r (stepO o p q u).2 (stepO o' p' q' u').2:=by
 have a:=k.add hp.1 hp.2
 have d:=k.sub hp.1 hp.2
 have aa:=k.mul a a
 have dd:=k.mul d d
 have e:=k.sub aa dd
 have da:=k.mul (k.sub hq.1 hq.2) a
 have cb:=k.mul (k.add hq.1 hq.2) d
 have s:=k.add da cb
 have t:=k.sub da cb
 exact ⟨⟨k.mul aa dd,k.mul e (k.add aa (k.mul (k.small _) e))⟩,⟨k.mul s s,k.mul hu (k.mul t t)⟩⟩
theorem lad_keeps {R S:Type}{o:Ops R}{o':Ops S}{r:R→S→Prop}(k:Keeps o o' r) (l:List UInt8){u:R}{u':S}(hu:r u u') :
  ∀ j,R2 r (ladO o l u j).1 (ladO o' l u' j).1∧R2 r (ladO o l u j).2 (ladO o' l u' j).2
 | 0=>⟨⟨k.small 1,k.zero⟩,⟨hu,k.small 1⟩⟩
 | j+1=>by
  have ih:=lad_keeps k l hu j
  unfold ladO rndO
  cases bitK l (254 - j) with
  | false=>exact step_keeps k ih.1 ih.2 hu
  | true =>
   have:=step_keeps k ih.2 ih.1 hu
   exact ⟨this.2,this.1⟩
def opsE:Ops E5:=⟨addE,subE,mulE,smallE,zeroE⟩
def opsN:Ops N16:=⟨addP,subP,mulP,smallN,zeroN⟩
def opsM:Ops Nat:=⟨fun a b=>(a+b) % Pq,fun a b=>(a+(Pq - b)) % Pq,fun a b=>a * b % Pq,fun n=>n.toNat,0⟩
theorem keeps_EN:Keeps opsE opsN Rel:=⟨rel_add,rel_sub,rel_mul,rel_small,rel_zero⟩
structure RelM (a:E5) (n:Nat):Prop where
 ok:a.ok
 val:a.val % Pq=n
theorem relM (a:E5) (h:a.ok):RelM a (a.val % Pq):=⟨h,rfl⟩
theorem RelM.lt {a:E5}{n:Nat}(h:RelM a n):n < Pq:=by rw [← h.val]; exact Nat.mod_lt _ Pq_pos
theorem keeps_EM:Keeps opsE opsM RelM where
 add {a b x y} h k:=by
  obtain ⟨o,e⟩:=addE_val a b h.ok k.ok
  exact ⟨o,by show _=(x+y) % Pq; rw [← h.val,← k.val,← Nat.add_mod]; exact e⟩
 sub {a b x y} h k:=by
  obtain ⟨o,e,hle⟩:=subE_val a b h.ok k.ok
  refine ⟨o,?_⟩
  show _=(x+(Pq - y)) % Pq
  rw [← h.val,← k.val]
  exact e.trans (sub_mod _ _ _ Pq_pos hle)
 mul {a b x y} h k:=by
  obtain ⟨o,e⟩:=mulE_val a b h.ok k.ok
  exact ⟨o,by show _=x * y % Pq; rw [← h.val,← k.val,← Nat.mul_mod]; exact e⟩
 small n:=⟨(smallE_val n).1,small_mod n⟩
 zero:=⟨zeroE_ok,show zeroE.val % Pq=0 by rw [zeroE_val]; rfl⟩
def topL (u:List UInt8):List UInt8:=u.set 31 (u.getD 31 0 &&& 127)
def ladF (k u:List UInt8):P2 E5:=(ladO opsE (clampL k) (ofEl (topL u)) 255).1
def ladE (k u:List UInt8):List UInt8:=bytesE (mulE (ladF k u).x (invE (ladF k u).z))
def ladG (k u:List UInt8):P2 N16:=(ladO opsN (clampL k) (ofP (topL u)) 255).1
def ladP (k u:List UInt8):List UInt8:=bytesN (mulP (ladG k u).x (invP (ladG k u).z))
theorem topL_len {u:List UInt8}{n:Nat}(h:isLen u n=true):isLen (topL u) n=true:=by
 rw [isLen_eq] at h ⊢
 unfold topL
 rw [List.length_set]; exact h
theorem lad_same (k:List UInt8){u:List UInt8}(h:isLen u 32=true):ladE k u=ladP k u:=by
 have r:=(lad_keeps keeps_EN (clampL k) (rel_of (topL_len h)) 255).1
 exact (rel_mul r.1 (rel_inv r.2)).bytes
def ladM (k:List UInt8) (u:Nat):P2 Nat:=(ladO opsM (clampL k) u 255).1
def quotM (p:P2 Nat):Nat:=p.x * pwE Pq p.z (Pq - 2) % Pq
theorem pw_inv (x:Nat):pwE Pq x (Pq - 2)=x ^ (Pq - 2) % Pq:=(pwE_val (by decide) (by kernel_rfl)).symm
theorem ladE_val (k:List UInt8){u:List UInt8}:leNat (ladE k u)=quotM (ladM k ((ofEl (topL u)).val % Pq)):=by
 have r:=(lad_keeps keeps_EM (clampL k) (relM _ (ofEl_ok (topL u))) 255).1
 have vx:=Vm.self r.1.ok
 have vz:=vm_inv (Vm.self r.2.ok)
 have e:=(vx.mul vz).val
 unfold ladE
 rw [bytesE_val]
 refine e.trans ?_
 unfold quotM
 rw [pw_inv]
 generalize Pq - 2=n
 have h1:(ladF k u).x.val % Pq=(ladM k ((ofEl (topL u)).val % Pq)).x:=r.1.val
 have h2:(ladF k u).z.val % Pq=(ladM k ((ofEl (topL u)).val % Pq)).z:=r.2.val
 refine mul_congr (b:=(ladM k ((ofEl (topL u)).val % Pq)).x) ?_ ?_
 ·rw [← h1,Nat.mod_mod]; rfl
 ·rw [← h2,Nat.mod_mod]
  exact (Nat.pow_mod _ _ _).trans rfl
theorem ladE_len (k u:List UInt8):(ladE k u).length=32:=bytesE_len _
end Go.Num
namespace Go.Proofs.YtcplgmgpagekfaaDoor
open Go Go.Eng Go.Num
def ptCells (p:P2 E5):List AVal:=[.u64 p.x.x0,.u64 p.x.x1,.u64 p.x.x2,.u64 p.x.x3,.u64 p.x.x4,.u64 p.z.x0,.u64 p.z.x1,.u64 p.z.x2,.u64 p.z.x3,.u64 p.z.x4]
def ptAv (p:P2 E5):AVal:=.agg (ptCells p)
theorem run61t (a0 a1 a2 a3 a4 a5 a6 a7 a8 a9 a10 a11 a12 a13 a14 a15 a16 a17 a18 a19 a20 a21 a22 a23 a24 a25 a26 a27 a28 a29 a30 a31:UInt8):(run1 Tryd.prog cs0 (mask 43) 100 43 [.str [a0,a1,a2,a3,a4,a5,a6,a7,a8,a9,a10,a11,a12,a13,a14,a15,a16,a17,a18,a19,a20,a21,a22,a23,a24,a25,a26,a27,a28,a29,a30,a31]] [] Tryd.prog.globals.size).map (·.1)=some (.tup [.str (clampL [a0,a1,a2,a3,a4,a5,a6,a7,a8,a9,a10,a11,a12,a13,a14,a15,a16,a17,a18,a19,a20,a21,a22,a23,a24,a25,a26,a27,a28,a29,a30,a31]),.int .i64 0]):=by kernel_rfl
theorem run32t (a0 a1 a2 a3 a4 a5 a6 a7 a8 a9 a10 a11 a12 a13 a14 a15 a16 a17 a18 a19 a20 a21 a22 a23 a24 a25 a26 a27 a28 a29 a30 a31:UInt8):(run1 Tryd.prog cs0 (mask 21) 100 21 [.str [a0,a1,a2,a3,a4,a5,a6,a7,a8,a9,a10,a11,a12,a13,a14,a15,a16,a17,a18,a19,a20,a21,a22,a23,a24,a25,a26,a27,a28,a29,a30,a31]] [] Tryd.prog.globals.size).map (·.1)=some (.str (clampL [a0,a1,a2,a3,a4,a5,a6,a7,a8,a9,a10,a11,a12,a13,a14,a15,a16,a17,a18,a19,a20,a21,a22,a23,a24,a25,a26,a27,a28,a29,a30,a31])):=by kernel_rfl
theorem run61 (s:List UInt8) (h:isLen s 32=true):(run1 Tryd.prog cs0 (mask 43) 100 43 [.str s] [] Tryd.prog.globals.size).map (·.1)=some (.tup [.str (clampL s),.int .i64 0]):=by
 obtain ⟨a0,a1,a2,a3,a4,a5,a6,a7,a8,a9,a10,a11,a12,a13,a14,a15,a16,a17,a18,a19,a20,a21,a22,a23,a24,a25,a26,a27,a28,a29,a30,a31,rfl⟩:=len32 (isLen_eq.1 h)
 exact run61t a0 a1 a2 a3 a4 a5 a6 a7 a8 a9 a10 a11 a12 a13 a14 a15 a16 a17 a18 a19 a20 a21 a22 a23 a24 a25 a26 a27 a28 a29 a30 a31
def p61:List AVal→Option (EffA × Bool)
 | [.str s]=>some (.pure (.tup [.str (clampL s),.int .i64 0]),isLen s 32)
 | _=>none
theorem p61_ok:CSOk Tryd.prog (csP (psOne 43 p61)):=csP_one fun args v he=>by
 unfold p61 at he
 split at he
 ·simp only [Option.some.injEq,Prod.mk.injEq] at he
  obtain ⟨rfl,h⟩:=he
  exact callOk_val cs0_ok hmix (run61 _ h) rfl rfl
 ·cases he
theorem run32 (s:List UInt8) (h:isLen s 32=true):(run1 Tryd.prog cs0 (mask 21) 100 21 [.str s] [] Tryd.prog.globals.size).map (·.1)=some (.str (clampL s)):=by
 obtain ⟨a0,a1,a2,a3,a4,a5,a6,a7,a8,a9,a10,a11,a12,a13,a14,a15,a16,a17,a18,a19,a20,a21,a22,a23,a24,a25,a26,a27,a28,a29,a30,a31,rfl⟩:=len32 (isLen_eq.1 h)
 exact run32t a0 a1 a2 a3 a4 a5 a6 a7 a8 a9 a10 a11 a12 a13 a14 a15 a16 a17 a18 a19 a20 a21 a22 a23 a24 a25 a26 a27 a28 a29 a30 a31
def p32:List AVal→Option (EffA × Bool)
 | [.str s]=>some (.pure (.str (clampL s)),isLen s 32)
 | _=>none
theorem p32_ok:CSOk Tryd.prog (csP (psOne 21 p32)):=csP_one fun args v he=>by
 unfold p32 at he
 split at he
 ·simp only [Option.some.injEq,Prod.mk.injEq] at he
  obtain ⟨rfl,h⟩:=he
  exact callOk_val cs0_ok hmix (run32 _ h) rfl rfl
 ·cases he
structure Fm where
 add:E5→E5→E5
 sub:E5→E5→E5
 mul:E5→E5→E5
 small:UInt32→E5
 inv:E5→E5
 bytes:E5→List UInt8
 of:List UInt8→E5
 ofR:List UInt8→Int
 addN:N16→N16→N16
 subN:N16→N16→N16
 mulN:N16→N16→N16
 smallN:UInt32→N16
 invN:N16→N16
 bytesN:N16→List UInt8
 ofN:List UInt8→N16
 ok:N16→Bool
 l32:List UInt8→Bool
 clamp:List UInt8→List UInt8
def realFm:Fm:=⟨addE,subE,mulE,smallE,invE,bytesE,ofEl,ofEr,addP,subP,mulP,smallN,invP,bytesN,ofP,Num.okB,fun s=>isLen s 32,clampL⟩
def q87 (φ:Fm):List AVal→Option EffA
 | [.agg [.u64 a0,.u64 a1,.u64 a2,.u64 a3,.u64 a4],.agg [.u64 b0,.u64 b1,.u64 b2,.u64 b3,.u64 b4]]=>some (.pure (E5.av (φ.add (E5.mk a0 a1 a2 a3 a4) (E5.mk b0 b1 b2 b3 b4))))
 | _=>none
theorem q87_ok:CSOk Tryd.prog (csOne 64 (q87 realFm)):=csOne_ok fun args e he=>by
 unfold q87 at he
 split at he
 ·rename_i a0 a1 a2 a3 a4 b0 b1 b2 b3 b4
  cases he
  exact g87_ok 64 [(E5.av (E5.mk a0 a1 a2 a3 a4)),(E5.av (E5.mk b0 b1 b2 b3 b4))] _ rfl
 ·cases he
def q35 (φ:Fm):List AVal→Option (EffA × Bool)
 | [.agg [.u64 a0,.u64 a1,.u64 a2,.u64 a3,.u64 a4,.u64 a5,.u64 a6,.u64 a7,.u64 a8,.u64 a9,.u64 a10,.u64 a11,.u64 a12,.u64 a13,.u64 a14,.u64 a15],.agg [.u64 b0,.u64 b1,.u64 b2,.u64 b3,.u64 b4,.u64 b5,.u64 b6,.u64 b7,.u64 b8,.u64 b9,.u64 b10,.u64 b11,.u64 b12,.u64 b13,.u64 b14,.u64 b15]]=>some (.pure (N16.av (φ.addN (N16.mk a0 a1 a2 a3 a4 a5 a6 a7 a8 a9 a10 a11 a12 a13 a14 a15) (N16.mk b0 b1 b2 b3 b4 b5 b6 b7 b8 b9 b10 b11 b12 b13 b14 b15))),(φ.ok (N16.mk a0 a1 a2 a3 a4 a5 a6 a7 a8 a9 a10 a11 a12 a13 a14 a15) && φ.ok (N16.mk b0 b1 b2 b3 b4 b5 b6 b7 b8 b9 b10 b11 b12 b13 b14 b15)))
 | _=>none
theorem q35_ok:CSOk Tryd.prog (csP (psOne 24 (q35 realFm))):=csP_one fun args v he=>by
 unfold q35 at he
 split at he
 ·rename_i a0 a1 a2 a3 a4 a5 a6 a7 a8 a9 a10 a11 a12 a13 a14 a15 b0 b1 b2 b3 b4 b5 b6 b7 b8 b9 b10 b11 b12 b13 b14 b15
  simp only [Option.some.injEq,Prod.mk.injEq] at he
  obtain ⟨rfl,h⟩:=he
  have h2:(realFm.ok (N16.mk a0 a1 a2 a3 a4 a5 a6 a7 a8 a9 a10 a11 a12 a13 a14 a15) && realFm.ok (N16.mk b0 b1 b2 b3 b4 b5 b6 b7 b8 b9 b10 b11 b12 b13 b14 b15))=true:=h
  refine p35_ok 24 [(N16.av (N16.mk a0 a1 a2 a3 a4 a5 a6 a7 a8 a9 a10 a11 a12 a13 a14 a15)),(N16.av (N16.mk b0 b1 b2 b3 b4 b5 b6 b7 b8 b9 b10 b11 b12 b13 b14 b15))] _ ?_
  show cond ((realFm.ok (N16.mk a0 a1 a2 a3 a4 a5 a6 a7 a8 a9 a10 a11 a12 a13 a14 a15) && realFm.ok (N16.mk b0 b1 b2 b3 b4 b5 b6 b7 b8 b9 b10 b11 b12 b13 b14 b15))) _ _=_
  rw [h2]; rfl
 ·cases he
def q88 (φ:Fm):List AVal→Option EffA
 | [.agg [.u64 a0,.u64 a1,.u64 a2,.u64 a3,.u64 a4],.agg [.u64 b0,.u64 b1,.u64 b2,.u64 b3,.u64 b4]]=>some (.pure (E5.av (φ.sub (E5.mk a0 a1 a2 a3 a4) (E5.mk b0 b1 b2 b3 b4))))
 | _=>none
theorem q88_ok:CSOk Tryd.prog (csOne 65 (q88 realFm)):=csOne_ok fun args e he=>by
 unfold q88 at he
 split at he
 ·rename_i a0 a1 a2 a3 a4 b0 b1 b2 b3 b4
  cases he
  exact g88_ok 65 [(E5.av (E5.mk a0 a1 a2 a3 a4)),(E5.av (E5.mk b0 b1 b2 b3 b4))] _ rfl
 ·cases he
def q37 (φ:Fm):List AVal→Option (EffA × Bool)
 | [.agg [.u64 a0,.u64 a1,.u64 a2,.u64 a3,.u64 a4,.u64 a5,.u64 a6,.u64 a7,.u64 a8,.u64 a9,.u64 a10,.u64 a11,.u64 a12,.u64 a13,.u64 a14,.u64 a15],.agg [.u64 b0,.u64 b1,.u64 b2,.u64 b3,.u64 b4,.u64 b5,.u64 b6,.u64 b7,.u64 b8,.u64 b9,.u64 b10,.u64 b11,.u64 b12,.u64 b13,.u64 b14,.u64 b15]]=>some (.pure (N16.av (φ.subN (N16.mk a0 a1 a2 a3 a4 a5 a6 a7 a8 a9 a10 a11 a12 a13 a14 a15) (N16.mk b0 b1 b2 b3 b4 b5 b6 b7 b8 b9 b10 b11 b12 b13 b14 b15))),(φ.ok (N16.mk a0 a1 a2 a3 a4 a5 a6 a7 a8 a9 a10 a11 a12 a13 a14 a15) && φ.ok (N16.mk b0 b1 b2 b3 b4 b5 b6 b7 b8 b9 b10 b11 b12 b13 b14 b15)))
 | _=>none
theorem q37_ok:CSOk Tryd.prog (csP (psOne 26 (q37 realFm))):=csP_one fun args v he=>by
 unfold q37 at he
 split at he
 ·rename_i a0 a1 a2 a3 a4 a5 a6 a7 a8 a9 a10 a11 a12 a13 a14 a15 b0 b1 b2 b3 b4 b5 b6 b7 b8 b9 b10 b11 b12 b13 b14 b15
  simp only [Option.some.injEq,Prod.mk.injEq] at he
  obtain ⟨rfl,h⟩:=he
  have h2:(realFm.ok (N16.mk a0 a1 a2 a3 a4 a5 a6 a7 a8 a9 a10 a11 a12 a13 a14 a15) && realFm.ok (N16.mk b0 b1 b2 b3 b4 b5 b6 b7 b8 b9 b10 b11 b12 b13 b14 b15))=true:=h
  refine p37_ok 26 [(N16.av (N16.mk a0 a1 a2 a3 a4 a5 a6 a7 a8 a9 a10 a11 a12 a13 a14 a15)),(N16.av (N16.mk b0 b1 b2 b3 b4 b5 b6 b7 b8 b9 b10 b11 b12 b13 b14 b15))] _ ?_
  show cond ((realFm.ok (N16.mk a0 a1 a2 a3 a4 a5 a6 a7 a8 a9 a10 a11 a12 a13 a14 a15) && realFm.ok (N16.mk b0 b1 b2 b3 b4 b5 b6 b7 b8 b9 b10 b11 b12 b13 b14 b15))) _ _=_
  rw [h2]; rfl
 ·cases he
def q65 (φ:Fm):List AVal→Option EffA
 | [.agg [.u64 a0,.u64 a1,.u64 a2,.u64 a3,.u64 a4],.agg [.u64 b0,.u64 b1,.u64 b2,.u64 b3,.u64 b4]]=>some (.pure (E5.av (φ.mul (E5.mk a0 a1 a2 a3 a4) (E5.mk b0 b1 b2 b3 b4))))
 | _=>none
theorem q65_ok:CSOk Tryd.prog (csOne 47 (q65 realFm)):=csOne_ok fun args e he=>by
 unfold q65 at he
 split at he
 ·rename_i a0 a1 a2 a3 a4 b0 b1 b2 b3 b4
  cases he
  exact g65_ok 47 [(E5.av (E5.mk a0 a1 a2 a3 a4)),(E5.av (E5.mk b0 b1 b2 b3 b4))] _ rfl
 ·cases he
def q36 (φ:Fm):List AVal→Option (EffA × Bool)
 | [.agg [.u64 a0,.u64 a1,.u64 a2,.u64 a3,.u64 a4,.u64 a5,.u64 a6,.u64 a7,.u64 a8,.u64 a9,.u64 a10,.u64 a11,.u64 a12,.u64 a13,.u64 a14,.u64 a15],.agg [.u64 b0,.u64 b1,.u64 b2,.u64 b3,.u64 b4,.u64 b5,.u64 b6,.u64 b7,.u64 b8,.u64 b9,.u64 b10,.u64 b11,.u64 b12,.u64 b13,.u64 b14,.u64 b15]]=>some (.pure (N16.av (φ.mulN (N16.mk a0 a1 a2 a3 a4 a5 a6 a7 a8 a9 a10 a11 a12 a13 a14 a15) (N16.mk b0 b1 b2 b3 b4 b5 b6 b7 b8 b9 b10 b11 b12 b13 b14 b15))),(φ.ok (N16.mk a0 a1 a2 a3 a4 a5 a6 a7 a8 a9 a10 a11 a12 a13 a14 a15) && φ.ok (N16.mk b0 b1 b2 b3 b4 b5 b6 b7 b8 b9 b10 b11 b12 b13 b14 b15)))
 | _=>none
theorem q36_ok:CSOk Tryd.prog (csP (psOne 25 (q36 realFm))):=csP_one fun args v he=>by
 unfold q36 at he
 split at he
 ·rename_i a0 a1 a2 a3 a4 a5 a6 a7 a8 a9 a10 a11 a12 a13 a14 a15 b0 b1 b2 b3 b4 b5 b6 b7 b8 b9 b10 b11 b12 b13 b14 b15
  simp only [Option.some.injEq,Prod.mk.injEq] at he
  obtain ⟨rfl,h⟩:=he
  have h2:(realFm.ok (N16.mk a0 a1 a2 a3 a4 a5 a6 a7 a8 a9 a10 a11 a12 a13 a14 a15) && realFm.ok (N16.mk b0 b1 b2 b3 b4 b5 b6 b7 b8 b9 b10 b11 b12 b13 b14 b15))=true:=h
  refine p36_ok 25 [(N16.av (N16.mk a0 a1 a2 a3 a4 a5 a6 a7 a8 a9 a10 a11 a12 a13 a14 a15)),(N16.av (N16.mk b0 b1 b2 b3 b4 b5 b6 b7 b8 b9 b10 b11 b12 b13 b14 b15))] _ ?_
  show cond ((realFm.ok (N16.mk a0 a1 a2 a3 a4 a5 a6 a7 a8 a9 a10 a11 a12 a13 a14 a15) && realFm.ok (N16.mk b0 b1 b2 b3 b4 b5 b6 b7 b8 b9 b10 b11 b12 b13 b14 b15))) _ _=_
  rw [h2]; rfl
 ·cases he
def q63 (φ:Fm):List AVal→Option EffA
 | [.u32 a]=>some (.pure (E5.av (φ.small a)))
 | _=>none
theorem q63_ok:CSOk Tryd.prog (csOne 45 (q63 realFm)):=csOne_ok fun args e he=>by
 unfold q63 at he
 split at he
 ·rename_i a
  cases he
  exact g63_ok 45 [(.u32 a)] _ rfl
 ·cases he
def q66 (φ:Fm):List AVal→Option EffA
 | [.agg [.u64 a0,.u64 a1,.u64 a2,.u64 a3,.u64 a4]]=>some (.pure (E5.av (φ.inv (E5.mk a0 a1 a2 a3 a4))))
 | _=>none
theorem q66_ok:CSOk Tryd.prog (csOne 48 (q66 realFm)):=csOne_ok fun args e he=>by
 unfold q66 at he
 split at he
 ·rename_i a0 a1 a2 a3 a4
  cases he
  exact g66_ok 48 [(E5.av (E5.mk a0 a1 a2 a3 a4))] _ rfl
 ·cases he
def q67 (φ:Fm):List AVal→Option EffA
 | [.agg [.u64 a0,.u64 a1,.u64 a2,.u64 a3,.u64 a4]]=>some (.pure (.str (φ.bytes (E5.mk a0 a1 a2 a3 a4))))
 | _=>none
theorem q67_ok:CSOk Tryd.prog (csOne 49 (q67 realFm)):=csOne_ok fun args e he=>by
 unfold q67 at he
 split at he
 ·rename_i a0 a1 a2 a3 a4
  cases he
  exact g67_ok 49 [(E5.av (E5.mk a0 a1 a2 a3 a4))] _ rfl
 ·cases he
def q62 (φ:Fm):List AVal→Option EffA
 | [.str a]=>some (.pure (.tup [(E5.av (φ.of a)),.int .i64 (φ.ofR a)]))
 | _=>none
theorem q62_ok:CSOk Tryd.prog (csOne 44 (q62 realFm)):=csOne_ok fun args e he=>by
 unfold q62 at he
 split at he
 ·rename_i a
  cases he
  exact g62_ok 44 [(.str a)] _ rfl
 ·cases he
def q34 (φ:Fm):List AVal→Option EffA
 | [.u32 a]=>some (.pure (N16.av (φ.smallN a)))
 | _=>none
theorem q34_ok:CSOk Tryd.prog (csOne 23 (q34 realFm)):=csOne_ok fun args e he=>by
 unfold q34 at he
 split at he
 ·rename_i a
  cases he
  exact g34_ok 23 [(.u32 a)] _ rfl
 ·cases he
def q38 (φ:Fm):List AVal→Option (EffA × Bool)
 | [.agg [.u64 a0,.u64 a1,.u64 a2,.u64 a3,.u64 a4,.u64 a5,.u64 a6,.u64 a7,.u64 a8,.u64 a9,.u64 a10,.u64 a11,.u64 a12,.u64 a13,.u64 a14,.u64 a15]]=>some (.pure (N16.av (φ.invN (N16.mk a0 a1 a2 a3 a4 a5 a6 a7 a8 a9 a10 a11 a12 a13 a14 a15))),φ.ok (N16.mk a0 a1 a2 a3 a4 a5 a6 a7 a8 a9 a10 a11 a12 a13 a14 a15))
 | _=>none
theorem q38_ok:CSOk Tryd.prog (csP (psOne 27 (q38 realFm))):=csP_one fun args v he=>by
 unfold q38 at he
 split at he
 ·rename_i a0 a1 a2 a3 a4 a5 a6 a7 a8 a9 a10 a11 a12 a13 a14 a15
  simp only [Option.some.injEq,Prod.mk.injEq] at he
  obtain ⟨rfl,h⟩:=he
  have h2:realFm.ok (N16.mk a0 a1 a2 a3 a4 a5 a6 a7 a8 a9 a10 a11 a12 a13 a14 a15)=true:=h
  refine p38_ok 27 [(N16.av (N16.mk a0 a1 a2 a3 a4 a5 a6 a7 a8 a9 a10 a11 a12 a13 a14 a15))] _ ?_
  show cond (realFm.ok (N16.mk a0 a1 a2 a3 a4 a5 a6 a7 a8 a9 a10 a11 a12 a13 a14 a15)) _ _=_
  rw [h2]; rfl
 ·cases he
def q39 (φ:Fm):List AVal→Option EffA
 | [.agg [.u64 a0,.u64 a1,.u64 a2,.u64 a3,.u64 a4,.u64 a5,.u64 a6,.u64 a7,.u64 a8,.u64 a9,.u64 a10,.u64 a11,.u64 a12,.u64 a13,.u64 a14,.u64 a15]]=>some (.pure (.str (φ.bytesN (N16.mk a0 a1 a2 a3 a4 a5 a6 a7 a8 a9 a10 a11 a12 a13 a14 a15))))
 | _=>none
theorem q39_ok:CSOk Tryd.prog (csOne 28 (q39 realFm)):=csOne_ok fun args e he=>by
 unfold q39 at he
 split at he
 ·rename_i a0 a1 a2 a3 a4 a5 a6 a7 a8 a9 a10 a11 a12 a13 a14 a15
  cases he
  exact g39_ok 28 [(N16.av (N16.mk a0 a1 a2 a3 a4 a5 a6 a7 a8 a9 a10 a11 a12 a13 a14 a15))] _ rfl
 ·cases he
def q33 (φ:Fm):List AVal→Option (EffA × Bool)
 | [.str a]=>some (.pure (N16.av (φ.ofN a)),φ.l32 a)
 | _=>none
theorem q33_ok:CSOk Tryd.prog (csP (psOne 22 (q33 realFm))):=csP_one fun args v he=>by
 unfold q33 at he
 split at he
 ·rename_i a
  simp only [Option.some.injEq,Prod.mk.injEq] at he
  obtain ⟨rfl,h⟩:=he
  have h2:realFm.l32 a=true:=h
  refine p33_ok 22 [(.str a)] _ ?_
  show cond (realFm.l32 a) _ _=_
  rw [h2]; rfl
 ·cases he
def q61 (φ:Fm):List AVal→Option (EffA × Bool)
 | [.str a]=>some (.pure (.tup [.str (φ.clamp a),.int .i64 0]),φ.l32 a)
 | _=>none
theorem q61_ok:CSOk Tryd.prog (csP (psOne 43 (q61 realFm))):=csP_one fun args v he=>by
 unfold q61 at he
 split at he
 ·rename_i a
  simp only [Option.some.injEq,Prod.mk.injEq] at he
  obtain ⟨rfl,h⟩:=he
  have h2:realFm.l32 a=true:=h
  refine p61_ok 43 [(.str a)] _ ?_
  show cond (realFm.l32 a) _ _=_
  rw [h2]; rfl
 ·cases he
def q32 (φ:Fm):List AVal→Option (EffA × Bool)
 | [.str a]=>some (.pure (.str (φ.clamp a)),φ.l32 a)
 | _=>none
theorem q32_ok:CSOk Tryd.prog (csP (psOne 21 (q32 realFm))):=csP_one fun args v he=>by
 unfold q32 at he
 split at he
 ·rename_i a
  simp only [Option.some.injEq,Prod.mk.injEq] at he
  obtain ⟨rfl,h⟩:=he
  have h2:realFm.l32 a=true:=h
  refine p32_ok 21 [(.str a)] _ ?_
  show cond (realFm.l32 a) _ _=_
  rw [h2]; rfl
 ·cases he
def psnm (φ:Fm):PS:=(psAlt (psOne 24 (q35 φ)) (psAlt (psOne 26 (q37 φ)) (psAlt (psOne 25 (q36 φ)) (psAlt (psOne 27 (q38 φ)) (psAlt (psOne 22 (q33 φ)) (psAlt (psOne 43 (q61 φ)) (psOne 21 (q32 φ))))))))
theorem psnm_ok:CSOk Tryd.prog (csP (psnm realFm)):=(csP_alt q35_ok (csP_alt q37_ok (csP_alt q36_ok (csP_alt q38_ok (csP_alt q33_ok (csP_alt q61_ok q32_ok))))))
def chnm (φ:Fm):CS:=(csAlt (csOne 64 (q87 φ)) (csAlt (csOne 65 (q88 φ)) (csAlt (csOne 47 (q65 φ)) (csAlt (csOne 45 (q63 φ)) (csAlt (csOne 48 (q66 φ)) (csAlt (csOne 49 (q67 φ)) (csAlt (csOne 44 (q62 φ)) (csAlt (csOne 23 (q34 φ)) (csOne 28 (q39 φ))))))))))
theorem chnm_ok:CSOk Tryd.prog (chnm realFm):=(csAlt_ok q87_ok (csAlt_ok q88_ok (csAlt_ok q65_ok (csAlt_ok q63_ok (csAlt_ok q66_ok (csAlt_ok q67_ok (csAlt_ok q62_ok (csAlt_ok q34_ok q39_ok))))))))
def nm (φ:Fm):CS:=csAlt (csP (psnm φ)) (chnm φ)
theorem nm_ok:CSOk Tryd.prog (nm realFm):=csAlt_ok psnm_ok chnm_ok
def opsφ (φ:Fm):Ops E5:=⟨φ.add,φ.sub,φ.mul,φ.small,zeroE⟩
theorem stepφ (φ:Fm) (p q:P2 E5) (u:E5):(run1 Tryd.prog (nm φ) (mask 46) 100 46 [ptAv p,ptAv q,u.av] [] Tryd.prog.globals.size).map (·.1)=some (.tup [ptAv (stepO (opsφ φ) p q u).1,ptAv (stepO (opsφ φ) p q u).2]):=by kernel_rfl
theorem run64 (p q:P2 E5) (u:E5):(run1 Tryd.prog (nm realFm) (mask 46) 100 46 [ptAv p,ptAv q,u.av] [] Tryd.prog.globals.size).map (·.1)=some (.tup [ptAv (stepO opsE p q u).1,ptAv (stepO opsE p q u).2]):=stepφ realFm p q u
def g64:List AVal→Option EffA
 | [.agg [.u64 a0,.u64 a1,.u64 a2,.u64 a3,.u64 a4,.u64 a5,.u64 a6,.u64 a7,.u64 a8,.u64 a9],.agg [.u64 b0,.u64 b1,.u64 b2,.u64 b3,.u64 b4,.u64 b5,.u64 b6,.u64 b7,.u64 b8,.u64 b9],.agg [.u64 c0,.u64 c1,.u64 c2,.u64 c3,.u64 c4]]=>some (.pure (.tup [ptAv (stepO opsE (P2.mk (E5.mk a0 a1 a2 a3 a4) (E5.mk a5 a6 a7 a8 a9)) (P2.mk (E5.mk b0 b1 b2 b3 b4) (E5.mk b5 b6 b7 b8 b9)) (E5.mk c0 c1 c2 c3 c4)).1,ptAv (stepO opsE (P2.mk (E5.mk a0 a1 a2 a3 a4) (E5.mk a5 a6 a7 a8 a9)) (P2.mk (E5.mk b0 b1 b2 b3 b4) (E5.mk b5 b6 b7 b8 b9)) (E5.mk c0 c1 c2 c3 c4)).2]))
 | _=>none
theorem g64_ok:CSOk Tryd.prog (csOne 46 g64):=csOne_ok fun args e he=>by
 unfold g64 at he
 split at he
 ·rename_i a0 a1 a2 a3 a4 a5 a6 a7 a8 a9 b0 b1 b2 b3 b4 b5 b6 b7 b8 b9 c0 c1 c2 c3 c4
  cases he
  exact callOk_val nm_ok hmix (run64 (P2.mk (E5.mk a0 a1 a2 a3 a4) (E5.mk a5 a6 a7 a8 a9)) (P2.mk (E5.mk b0 b1 b2 b3 b4) (E5.mk b5 b6 b7 b8 b9)) (E5.mk c0 c1 c2 c3 c4)) rfl rfl
 ·cases he
end Go.Proofs.YtcplgmgpagekfaaDoor
namespace Go.Proofs.YtcplgmgpagekfaaDoor
open Go Go.Eng Go.Num
structure Fl where
 add:E5→E5→E5
 sub:E5→E5→E5
 mul:E5→E5→E5
 small:UInt32→E5
 inv:E5→E5
 bytes:E5→List UInt8
 of:List UInt8→E5
 ofR:List UInt8→Int
 addN:N16→N16→N16
 subN:N16→N16→N16
 mulN:N16→N16→N16
 smallN:UInt32→N16
 invN:N16→N16
 bytesN:N16→List UInt8
 ofN:List UInt8→N16
 ok:N16→Bool
 l32:List UInt8→Bool
 clamp:List UInt8→List UInt8
 st1:P2 E5→P2 E5→E5→P2 E5
 st2:P2 E5→P2 E5→E5→P2 E5
def realFl:Fl:=⟨addE,subE,mulE,smallE,invE,bytesE,ofEl,ofEr,addP,subP,mulP,smallN,invP,bytesN,ofP,Num.okB,fun s=>isLen s 32,clampL,fun p q u=>(stepO opsE p q u).1,fun p q u=>(stepO opsE p q u).2⟩
def l87 (φ:Fl):List AVal→Option EffA
 | [.agg [.u64 a0,.u64 a1,.u64 a2,.u64 a3,.u64 a4],.agg [.u64 b0,.u64 b1,.u64 b2,.u64 b3,.u64 b4]]=>some (.pure (E5.av (φ.add (E5.mk a0 a1 a2 a3 a4) (E5.mk b0 b1 b2 b3 b4))))
 | _=>none
theorem l87_ok:CSOk Tryd.prog (csOne 64 (l87 realFl)):=csOne_ok fun args e he=>by
 unfold l87 at he
 split at he
 ·rename_i a0 a1 a2 a3 a4 b0 b1 b2 b3 b4
  cases he
  exact g87_ok 64 [(E5.av (E5.mk a0 a1 a2 a3 a4)),(E5.av (E5.mk b0 b1 b2 b3 b4))] _ rfl
 ·cases he
def l35 (φ:Fl):List AVal→Option (EffA × Bool)
 | [.agg [.u64 a0,.u64 a1,.u64 a2,.u64 a3,.u64 a4,.u64 a5,.u64 a6,.u64 a7,.u64 a8,.u64 a9,.u64 a10,.u64 a11,.u64 a12,.u64 a13,.u64 a14,.u64 a15],.agg [.u64 b0,.u64 b1,.u64 b2,.u64 b3,.u64 b4,.u64 b5,.u64 b6,.u64 b7,.u64 b8,.u64 b9,.u64 b10,.u64 b11,.u64 b12,.u64 b13,.u64 b14,.u64 b15]]=>some (.pure (N16.av (φ.addN (N16.mk a0 a1 a2 a3 a4 a5 a6 a7 a8 a9 a10 a11 a12 a13 a14 a15) (N16.mk b0 b1 b2 b3 b4 b5 b6 b7 b8 b9 b10 b11 b12 b13 b14 b15))),(φ.ok (N16.mk a0 a1 a2 a3 a4 a5 a6 a7 a8 a9 a10 a11 a12 a13 a14 a15) && φ.ok (N16.mk b0 b1 b2 b3 b4 b5 b6 b7 b8 b9 b10 b11 b12 b13 b14 b15)))
 | _=>none
theorem l35_ok:CSOk Tryd.prog (csP (psOne 24 (l35 realFl))):=csP_one fun args v he=>by
 unfold l35 at he
 split at he
 ·rename_i a0 a1 a2 a3 a4 a5 a6 a7 a8 a9 a10 a11 a12 a13 a14 a15 b0 b1 b2 b3 b4 b5 b6 b7 b8 b9 b10 b11 b12 b13 b14 b15
  simp only [Option.some.injEq,Prod.mk.injEq] at he
  obtain ⟨rfl,h⟩:=he
  have h2:(realFl.ok (N16.mk a0 a1 a2 a3 a4 a5 a6 a7 a8 a9 a10 a11 a12 a13 a14 a15) && realFl.ok (N16.mk b0 b1 b2 b3 b4 b5 b6 b7 b8 b9 b10 b11 b12 b13 b14 b15))=true:=h
  refine p35_ok 24 [(N16.av (N16.mk a0 a1 a2 a3 a4 a5 a6 a7 a8 a9 a10 a11 a12 a13 a14 a15)),(N16.av (N16.mk b0 b1 b2 b3 b4 b5 b6 b7 b8 b9 b10 b11 b12 b13 b14 b15))] _ ?_
  show cond ((realFl.ok (N16.mk a0 a1 a2 a3 a4 a5 a6 a7 a8 a9 a10 a11 a12 a13 a14 a15) && realFl.ok (N16.mk b0 b1 b2 b3 b4 b5 b6 b7 b8 b9 b10 b11 b12 b13 b14 b15))) _ _=_
  rw [h2]; rfl
 ·cases he
def l88 (φ:Fl):List AVal→Option EffA
 | [.agg [.u64 a0,.u64 a1,.u64 a2,.u64 a3,.u64 a4],.agg [.u64 b0,.u64 b1,.u64 b2,.u64 b3,.u64 b4]]=>some (.pure (E5.av (φ.sub (E5.mk a0 a1 a2 a3 a4) (E5.mk b0 b1 b2 b3 b4))))
 | _=>none
theorem l88_ok:CSOk Tryd.prog (csOne 65 (l88 realFl)):=csOne_ok fun args e he=>by
 unfold l88 at he
 split at he
 ·rename_i a0 a1 a2 a3 a4 b0 b1 b2 b3 b4
  cases he
  exact g88_ok 65 [(E5.av (E5.mk a0 a1 a2 a3 a4)),(E5.av (E5.mk b0 b1 b2 b3 b4))] _ rfl
 ·cases he
def l37 (φ:Fl):List AVal→Option (EffA × Bool)
 | [.agg [.u64 a0,.u64 a1,.u64 a2,.u64 a3,.u64 a4,.u64 a5,.u64 a6,.u64 a7,.u64 a8,.u64 a9,.u64 a10,.u64 a11,.u64 a12,.u64 a13,.u64 a14,.u64 a15],.agg [.u64 b0,.u64 b1,.u64 b2,.u64 b3,.u64 b4,.u64 b5,.u64 b6,.u64 b7,.u64 b8,.u64 b9,.u64 b10,.u64 b11,.u64 b12,.u64 b13,.u64 b14,.u64 b15]]=>some (.pure (N16.av (φ.subN (N16.mk a0 a1 a2 a3 a4 a5 a6 a7 a8 a9 a10 a11 a12 a13 a14 a15) (N16.mk b0 b1 b2 b3 b4 b5 b6 b7 b8 b9 b10 b11 b12 b13 b14 b15))),(φ.ok (N16.mk a0 a1 a2 a3 a4 a5 a6 a7 a8 a9 a10 a11 a12 a13 a14 a15) && φ.ok (N16.mk b0 b1 b2 b3 b4 b5 b6 b7 b8 b9 b10 b11 b12 b13 b14 b15)))
 | _=>none
theorem l37_ok:CSOk Tryd.prog (csP (psOne 26 (l37 realFl))):=csP_one fun args v he=>by
 unfold l37 at he
 split at he
 ·rename_i a0 a1 a2 a3 a4 a5 a6 a7 a8 a9 a10 a11 a12 a13 a14 a15 b0 b1 b2 b3 b4 b5 b6 b7 b8 b9 b10 b11 b12 b13 b14 b15
  simp only [Option.some.injEq,Prod.mk.injEq] at he
  obtain ⟨rfl,h⟩:=he
  have h2:(realFl.ok (N16.mk a0 a1 a2 a3 a4 a5 a6 a7 a8 a9 a10 a11 a12 a13 a14 a15) && realFl.ok (N16.mk b0 b1 b2 b3 b4 b5 b6 b7 b8 b9 b10 b11 b12 b13 b14 b15))=true:=h
  refine p37_ok 26 [(N16.av (N16.mk a0 a1 a2 a3 a4 a5 a6 a7 a8 a9 a10 a11 a12 a13 a14 a15)),(N16.av (N16.mk b0 b1 b2 b3 b4 b5 b6 b7 b8 b9 b10 b11 b12 b13 b14 b15))] _ ?_
  show cond ((realFl.ok (N16.mk a0 a1 a2 a3 a4 a5 a6 a7 a8 a9 a10 a11 a12 a13 a14 a15) && realFl.ok (N16.mk b0 b1 b2 b3 b4 b5 b6 b7 b8 b9 b10 b11 b12 b13 b14 b15))) _ _=_
  rw [h2]; rfl
 ·cases he
def l65 (φ:Fl):List AVal→Option EffA
 | [.agg [.u64 a0,.u64 a1,.u64 a2,.u64 a3,.u64 a4],.agg [.u64 b0,.u64 b1,.u64 b2,.u64 b3,.u64 b4]]=>some (.pure (E5.av (φ.mul (E5.mk a0 a1 a2 a3 a4) (E5.mk b0 b1 b2 b3 b4))))
 | _=>none
theorem l65_ok:CSOk Tryd.prog (csOne 47 (l65 realFl)):=csOne_ok fun args e he=>by
 unfold l65 at he
 split at he
 ·rename_i a0 a1 a2 a3 a4 b0 b1 b2 b3 b4
  cases he
  exact g65_ok 47 [(E5.av (E5.mk a0 a1 a2 a3 a4)),(E5.av (E5.mk b0 b1 b2 b3 b4))] _ rfl
 ·cases he
def l36 (φ:Fl):List AVal→Option (EffA × Bool)
 | [.agg [.u64 a0,.u64 a1,.u64 a2,.u64 a3,.u64 a4,.u64 a5,.u64 a6,.u64 a7,.u64 a8,.u64 a9,.u64 a10,.u64 a11,.u64 a12,.u64 a13,.u64 a14,.u64 a15],.agg [.u64 b0,.u64 b1,.u64 b2,.u64 b3,.u64 b4,.u64 b5,.u64 b6,.u64 b7,.u64 b8,.u64 b9,.u64 b10,.u64 b11,.u64 b12,.u64 b13,.u64 b14,.u64 b15]]=>some (.pure (N16.av (φ.mulN (N16.mk a0 a1 a2 a3 a4 a5 a6 a7 a8 a9 a10 a11 a12 a13 a14 a15) (N16.mk b0 b1 b2 b3 b4 b5 b6 b7 b8 b9 b10 b11 b12 b13 b14 b15))),(φ.ok (N16.mk a0 a1 a2 a3 a4 a5 a6 a7 a8 a9 a10 a11 a12 a13 a14 a15) && φ.ok (N16.mk b0 b1 b2 b3 b4 b5 b6 b7 b8 b9 b10 b11 b12 b13 b14 b15)))
 | _=>none
theorem l36_ok:CSOk Tryd.prog (csP (psOne 25 (l36 realFl))):=csP_one fun args v he=>by
 unfold l36 at he
 split at he
 ·rename_i a0 a1 a2 a3 a4 a5 a6 a7 a8 a9 a10 a11 a12 a13 a14 a15 b0 b1 b2 b3 b4 b5 b6 b7 b8 b9 b10 b11 b12 b13 b14 b15
  simp only [Option.some.injEq,Prod.mk.injEq] at he
  obtain ⟨rfl,h⟩:=he
  have h2:(realFl.ok (N16.mk a0 a1 a2 a3 a4 a5 a6 a7 a8 a9 a10 a11 a12 a13 a14 a15) && realFl.ok (N16.mk b0 b1 b2 b3 b4 b5 b6 b7 b8 b9 b10 b11 b12 b13 b14 b15))=true:=h
  refine p36_ok 25 [(N16.av (N16.mk a0 a1 a2 a3 a4 a5 a6 a7 a8 a9 a10 a11 a12 a13 a14 a15)),(N16.av (N16.mk b0 b1 b2 b3 b4 b5 b6 b7 b8 b9 b10 b11 b12 b13 b14 b15))] _ ?_
  show cond ((realFl.ok (N16.mk a0 a1 a2 a3 a4 a5 a6 a7 a8 a9 a10 a11 a12 a13 a14 a15) && realFl.ok (N16.mk b0 b1 b2 b3 b4 b5 b6 b7 b8 b9 b10 b11 b12 b13 b14 b15))) _ _=_
  rw [h2]; rfl
 ·cases he
def l63 (φ:Fl):List AVal→Option EffA
 | [.u32 a]=>some (.pure (E5.av (φ.small a)))
 | _=>none
theorem l63_ok:CSOk Tryd.prog (csOne 45 (l63 realFl)):=csOne_ok fun args e he=>by
 unfold l63 at he
 split at he
 ·rename_i a
  cases he
  exact g63_ok 45 [(.u32 a)] _ rfl
 ·cases he
def l66 (φ:Fl):List AVal→Option EffA
 | [.agg [.u64 a0,.u64 a1,.u64 a2,.u64 a3,.u64 a4]]=>some (.pure (E5.av (φ.inv (E5.mk a0 a1 a2 a3 a4))))
 | _=>none
theorem l66_ok:CSOk Tryd.prog (csOne 48 (l66 realFl)):=csOne_ok fun args e he=>by
 unfold l66 at he
 split at he
 ·rename_i a0 a1 a2 a3 a4
  cases he
  exact g66_ok 48 [(E5.av (E5.mk a0 a1 a2 a3 a4))] _ rfl
 ·cases he
def l67 (φ:Fl):List AVal→Option EffA
 | [.agg [.u64 a0,.u64 a1,.u64 a2,.u64 a3,.u64 a4]]=>some (.pure (.str (φ.bytes (E5.mk a0 a1 a2 a3 a4))))
 | _=>none
theorem l67_ok:CSOk Tryd.prog (csOne 49 (l67 realFl)):=csOne_ok fun args e he=>by
 unfold l67 at he
 split at he
 ·rename_i a0 a1 a2 a3 a4
  cases he
  exact g67_ok 49 [(E5.av (E5.mk a0 a1 a2 a3 a4))] _ rfl
 ·cases he
def l62 (φ:Fl):List AVal→Option EffA
 | [.str a]=>some (.pure (.tup [(E5.av (φ.of a)),.int .i64 (φ.ofR a)]))
 | _=>none
theorem l62_ok:CSOk Tryd.prog (csOne 44 (l62 realFl)):=csOne_ok fun args e he=>by
 unfold l62 at he
 split at he
 ·rename_i a
  cases he
  exact g62_ok 44 [(.str a)] _ rfl
 ·cases he
def l34 (φ:Fl):List AVal→Option EffA
 | [.u32 a]=>some (.pure (N16.av (φ.smallN a)))
 | _=>none
theorem l34_ok:CSOk Tryd.prog (csOne 23 (l34 realFl)):=csOne_ok fun args e he=>by
 unfold l34 at he
 split at he
 ·rename_i a
  cases he
  exact g34_ok 23 [(.u32 a)] _ rfl
 ·cases he
def l38 (φ:Fl):List AVal→Option (EffA × Bool)
 | [.agg [.u64 a0,.u64 a1,.u64 a2,.u64 a3,.u64 a4,.u64 a5,.u64 a6,.u64 a7,.u64 a8,.u64 a9,.u64 a10,.u64 a11,.u64 a12,.u64 a13,.u64 a14,.u64 a15]]=>some (.pure (N16.av (φ.invN (N16.mk a0 a1 a2 a3 a4 a5 a6 a7 a8 a9 a10 a11 a12 a13 a14 a15))),φ.ok (N16.mk a0 a1 a2 a3 a4 a5 a6 a7 a8 a9 a10 a11 a12 a13 a14 a15))
 | _=>none
theorem l38_ok:CSOk Tryd.prog (csP (psOne 27 (l38 realFl))):=csP_one fun args v he=>by
 unfold l38 at he
 split at he
 ·rename_i a0 a1 a2 a3 a4 a5 a6 a7 a8 a9 a10 a11 a12 a13 a14 a15
  simp only [Option.some.injEq,Prod.mk.injEq] at he
  obtain ⟨rfl,h⟩:=he
  have h2:realFl.ok (N16.mk a0 a1 a2 a3 a4 a5 a6 a7 a8 a9 a10 a11 a12 a13 a14 a15)=true:=h
  refine p38_ok 27 [(N16.av (N16.mk a0 a1 a2 a3 a4 a5 a6 a7 a8 a9 a10 a11 a12 a13 a14 a15))] _ ?_
  show cond (realFl.ok (N16.mk a0 a1 a2 a3 a4 a5 a6 a7 a8 a9 a10 a11 a12 a13 a14 a15)) _ _=_
  rw [h2]; rfl
 ·cases he
def l39 (φ:Fl):List AVal→Option EffA
 | [.agg [.u64 a0,.u64 a1,.u64 a2,.u64 a3,.u64 a4,.u64 a5,.u64 a6,.u64 a7,.u64 a8,.u64 a9,.u64 a10,.u64 a11,.u64 a12,.u64 a13,.u64 a14,.u64 a15]]=>some (.pure (.str (φ.bytesN (N16.mk a0 a1 a2 a3 a4 a5 a6 a7 a8 a9 a10 a11 a12 a13 a14 a15))))
 | _=>none
theorem l39_ok:CSOk Tryd.prog (csOne 28 (l39 realFl)):=csOne_ok fun args e he=>by
 unfold l39 at he
 split at he
 ·rename_i a0 a1 a2 a3 a4 a5 a6 a7 a8 a9 a10 a11 a12 a13 a14 a15
  cases he
  exact g39_ok 28 [(N16.av (N16.mk a0 a1 a2 a3 a4 a5 a6 a7 a8 a9 a10 a11 a12 a13 a14 a15))] _ rfl
 ·cases he
def l33 (φ:Fl):List AVal→Option (EffA × Bool)
 | [.str a]=>some (.pure (N16.av (φ.ofN a)),φ.l32 a)
 | _=>none
theorem l33_ok:CSOk Tryd.prog (csP (psOne 22 (l33 realFl))):=csP_one fun args v he=>by
 unfold l33 at he
 split at he
 ·rename_i a
  simp only [Option.some.injEq,Prod.mk.injEq] at he
  obtain ⟨rfl,h⟩:=he
  have h2:realFl.l32 a=true:=h
  refine p33_ok 22 [(.str a)] _ ?_
  show cond (realFl.l32 a) _ _=_
  rw [h2]; rfl
 ·cases he
def l61 (φ:Fl):List AVal→Option (EffA × Bool)
 | [.str a]=>some (.pure (.tup [.str (φ.clamp a),.int .i64 0]),φ.l32 a)
 | _=>none
theorem l61_ok:CSOk Tryd.prog (csP (psOne 43 (l61 realFl))):=csP_one fun args v he=>by
 unfold l61 at he
 split at he
 ·rename_i a
  simp only [Option.some.injEq,Prod.mk.injEq] at he
  obtain ⟨rfl,h⟩:=he
  have h2:realFl.l32 a=true:=h
  refine p61_ok 43 [(.str a)] _ ?_
  show cond (realFl.l32 a) _ _=_
  rw [h2]; rfl
 ·cases he
def l32 (φ:Fl):List AVal→Option (EffA × Bool)
 | [.str a]=>some (.pure (.str (φ.clamp a)),φ.l32 a)
 | _=>none
theorem l32_ok:CSOk Tryd.prog (csP (psOne 21 (l32 realFl))):=csP_one fun args v he=>by
 unfold l32 at he
 split at he
 ·rename_i a
  simp only [Option.some.injEq,Prod.mk.injEq] at he
  obtain ⟨rfl,h⟩:=he
  have h2:realFl.l32 a=true:=h
  refine p32_ok 21 [(.str a)] _ ?_
  show cond (realFl.l32 a) _ _=_
  rw [h2]; rfl
 ·cases he
def l64 (φ:Fl):List AVal→Option EffA
 | [.agg [.u64 a0,.u64 a1,.u64 a2,.u64 a3,.u64 a4,.u64 a5,.u64 a6,.u64 a7,.u64 a8,.u64 a9],.agg [.u64 b0,.u64 b1,.u64 b2,.u64 b3,.u64 b4,.u64 b5,.u64 b6,.u64 b7,.u64 b8,.u64 b9],.agg [.u64 c0,.u64 c1,.u64 c2,.u64 c3,.u64 c4]]=>some (.pure (.tup [ptAv (φ.st1 (P2.mk (E5.mk a0 a1 a2 a3 a4) (E5.mk a5 a6 a7 a8 a9)) (P2.mk (E5.mk b0 b1 b2 b3 b4) (E5.mk b5 b6 b7 b8 b9)) (E5.mk c0 c1 c2 c3 c4)),ptAv (φ.st2 (P2.mk (E5.mk a0 a1 a2 a3 a4) (E5.mk a5 a6 a7 a8 a9)) (P2.mk (E5.mk b0 b1 b2 b3 b4) (E5.mk b5 b6 b7 b8 b9)) (E5.mk c0 c1 c2 c3 c4))]))
 | _=>none
theorem l64_ok:CSOk Tryd.prog (csOne 46 (l64 realFl)):=csOne_ok fun args e he=>by
 unfold l64 at he
 split at he
 ·rename_i a0 a1 a2 a3 a4 a5 a6 a7 a8 a9 b0 b1 b2 b3 b4 b5 b6 b7 b8 b9 c0 c1 c2 c3 c4
  cases he
  exact g64_ok 46 [(ptAv (P2.mk (E5.mk a0 a1 a2 a3 a4) (E5.mk a5 a6 a7 a8 a9))),(ptAv (P2.mk (E5.mk b0 b1 b2 b3 b4) (E5.mk b5 b6 b7 b8 b9))),(E5.av (E5.mk c0 c1 c2 c3 c4))] _ rfl
 ·cases he
def psnl (φ:Fl):PS:=(psAlt (psOne 24 (l35 φ)) (psAlt (psOne 26 (l37 φ)) (psAlt (psOne 25 (l36 φ)) (psAlt (psOne 27 (l38 φ)) (psAlt (psOne 22 (l33 φ)) (psAlt (psOne 43 (l61 φ)) (psOne 21 (l32 φ))))))))
theorem psnl_ok:CSOk Tryd.prog (csP (psnl realFl)):=(csP_alt l35_ok (csP_alt l37_ok (csP_alt l36_ok (csP_alt l38_ok (csP_alt l33_ok (csP_alt l61_ok l32_ok))))))
def chnl (φ:Fl):CS:=(csAlt (csOne 64 (l87 φ)) (csAlt (csOne 65 (l88 φ)) (csAlt (csOne 47 (l65 φ)) (csAlt (csOne 45 (l63 φ)) (csAlt (csOne 48 (l66 φ)) (csAlt (csOne 49 (l67 φ)) (csAlt (csOne 44 (l62 φ)) (csAlt (csOne 23 (l34 φ)) (csAlt (csOne 28 (l39 φ)) (csOne 46 (l64 φ)))))))))))
theorem chnl_ok:CSOk Tryd.prog (chnl realFl):=(csAlt_ok l87_ok (csAlt_ok l88_ok (csAlt_ok l65_ok (csAlt_ok l63_ok (csAlt_ok l66_ok (csAlt_ok l67_ok (csAlt_ok l62_ok (csAlt_ok l34_ok (csAlt_ok l39_ok l64_ok)))))))))
def nl (φ:Fl):CS:=csAlt (csP (psnl φ)) (chnl φ)
theorem nl_ok:CSOk Tryd.prog (nl realFl):=csAlt_ok psnl_ok chnl_ok
theorem nl_ps (φ:Fl):PSOk (psnl φ) (nl φ):=csP_ok
end Go.Proofs.YtcplgmgpagekfaaDoor
namespace Go.Proofs.YtcplgmgpagekfaaDoor
open Go Go.Eng Go.Num
def S14 (k u kk:List UInt8) (cb:List AVal) (x:E5) (p q:P2 E5) (i:Int):SA:=⟨[(0,.str k),(1,.str u),(4,.str []),(5,.str kk),(7,.slice 73 0 32 1),(8,.ptr 185 0),(10,.ptr 265 0),(11,.int .i64 i)],[(73,.cells false cb),(185,.cells false x.cells),(265,.cells false (ptCells p++ptCells q))],289⟩
noncomputable def cd14:List Code:=pieces (bodyOf Tryd.f30)
noncomputable def b14:Code:=loopOf (cd14.getD 7 .skip)
def S15 (k u kk:List UInt8) (cb:List AVal) (x:N16) (p q:P2 N16) (i:Int):SA:=⟨[(0,.str k),(1,.str u),(4,.str []),(5,.str kk),(6,.slice 41 0 32 1),(7,.ptr 137 0),(8,.ptr 161 0),(9,.ptr 185 0),(10,.ptr 209 0),(11,.ptr 233 0),(12,.int .i64 i)],[(41,.cells false cb),(137,.cells false x.cells),(161,.cells false p.x.cells),(185,.cells false p.z.cells),(209,.cells false q.x.cells),(233,.cells false q.z.cells)],257⟩
noncomputable def cd15:List Code:=pieces (bodyOf Tryd.f13)
noncomputable def b15:Code:=loopOf (cd15.getD 10 .skip)
end Go.Proofs.YtcplgmgpagekfaaDoor
namespace Go.Proofs.YtcplgmgpagekfaaDoor
open Go Go.Eng Go.Num
theorem bit_div (m:Nat) (hm:m < 1000000):IntKind.wrap .i64 (Int.tdiv (m:Int) 8)=((m / 8:Nat):Int):=by
 have e1:Int.tdiv (m:Int) 8=((m / 8:Nat):Int):=by rw [Int.tdiv_eq_ediv_of_nonneg (by omega)]; rfl
 rw [e1,wrapI _ (by omega) (by omega)]
theorem bit_rem (m:Nat) (hm:m < 1000000):UInt64.toNat (UInt64.ofInt (Int.tmod (m:Int) 8))=m % 8:=by
 have e2:Int.tmod (m:Int) 8=((m % 8:Nat):Int):=by rw [Int.tmod_eq_emod_of_nonneg (by omega)]; rfl
 rw [e2,ofInt_nat,UInt64.toNat_ofNat_of_lt']
 show _ < 18446744073709551616; omega
theorem bit_raw (kk:List UInt8) (m:Nat) (hm:m < 1000000):shr_u8 (List.getD kk (Int.toNat (IntKind.wrap IntKind.i64 (Int.tdiv (m:Int) 8))) 0) (UInt64.toNat (UInt64.ofInt (Int.tmod (m:Int) 8))) &&& 1=bitB kk m:=by
 rw [bit_div m hm,bit_rem m hm]; rfl
theorem bitB_cases (kk:List UInt8) (m:Nat):bitB kk m=0 ∨ bitB kk m=1:=by
 unfold bitB
 generalize shr_u8 (kk.getD (m / 8) 0) (m % 8)=x
 have h:(x &&& 1).toNat=x.toNat % 2:=by rw [UInt8.toNat_and]; exact Nat.and_one_is_mod _
 rcases Nat.mod_two_eq_zero_or_one x.toNat with e | e
 ·left; apply UInt8.toNat_inj.1; rw [h,e]; rfl
 ·right; apply UInt8.toNat_inj.1; rw [h,e]; rfl
theorem clamp_len {k:List UInt8}(h:isLen k 32=true):(clampL k).length=32:=by
 rw [isLen_eq] at h
 unfold clampL
 rw [List.length_set,List.length_set]; exact h
theorem pre14 (φ:Fl) (k:List UInt8) (u0 u1 u2 u3 u4 u5 u6 u7 u8 u9 u10 u11 u12 u13 u14 u15 u16 u17 u18 u19 u20 u21 u22 u23 u24 u25 u26 u27 u28 u29 u30 u31:UInt8):segO (evSO Tryd.prog (psnl φ) (nl φ) [15] 89 (mask 30) 1000 1 (cd14.take 7) ⟨startT [.str k,.str [u0,u1,u2,u3,u4,u5,u6,u7,u8,u9,u10,u11,u12,u13,u14,u15,u16,u17,u18,u19,u20,u21,u22,u23,u24,u25,u26,u27,u28,u29,u30,u31]] 0,[],1⟩ ⟨[],[],[]⟩)=some (S14 k [u0,u1,u2,u3,u4,u5,u6,u7,u8,u9,u10,u11,u12,u13,u14,u15,u16,u17,u18,u19,u20,u21,u22,u23,u24,u25,u26,u27,u28,u29,u30,u31] (φ.clamp k) [.u8 u0,.u8 u1,.u8 u2,.u8 u3,.u8 u4,.u8 u5,.u8 u6,.u8 u7,.u8 u8,.u8 u9,.u8 u10,.u8 u11,.u8 u12,.u8 u13,.u8 u14,.u8 u15,.u8 u16,.u8 u17,.u8 u18,.u8 u19,.u8 u20,.u8 u21,.u8 u22,.u8 u23,.u8 u24,.u8 u25,.u8 u26,.u8 u27,.u8 u28,.u8 u29,.u8 u30,.u8 (u31 &&& 127)] (φ.of [u0,u1,u2,u3,u4,u5,u6,u7,u8,u9,u10,u11,u12,u13,u14,u15,u16,u17,u18,u19,u20,u21,u22,u23,u24,u25,u26,u27,u28,u29,u30,u31 &&& 127]) ⟨φ.small 1,zeroE⟩ ⟨φ.of [u0,u1,u2,u3,u4,u5,u6,u7,u8,u9,u10,u11,u12,u13,u14,u15,u16,u17,u18,u19,u20,u21,u22,u23,u24,u25,u26,u27,u28,u29,u30,u31 &&& 127],φ.small 1⟩ 254,[φ.l32 k]):=by kernel_rfl
theorem end14 (φ:Fl) (k u kk:List UInt8) (cb:List AVal) (i:Int) (x:E5) (p q:P2 E5):endO Tryd.prog (psnl φ) (nl φ) [39] Tryd.f30 (mask 30) 1000 1 0 b14 (cd14.drop 8) (S14 k u kk cb x p q i) ⟨[false],[],[]⟩=some (.str (φ.bytes (φ.mul p.x (φ.inv p.z))),[!decide ((0:Int)≤i)]):=by kernel_rfl
theorem rnd14a (φ:Fl) (k u kk:List UInt8) (cb:List AVal) (i j:Int) (x:E5) (p p0 q q0:P2 E5):roundO2 Tryd.prog (psnl φ) (nl φ) [39,45,200050] [true] [.u8 0] 89 (mask 30) 1000 1 b14 (S14 k u kk cb x p0 q0 j) (S14 k u kk cb x p q i)=some (S14 k u kk cb x (φ.st1 p q x) (φ.st2 p q x) (IntKind.wrap .i64 (i - 1)),[eqS (.u8 (shr_u8 (List.getD kk (Int.toNat (IntKind.wrap IntKind.i64 (Int.tdiv i 8))) 0) (UInt64.toNat (UInt64.ofInt (Int.tmod i 8))) &&& 1)) (.u8 0),(decide ((0:Int)≤IntKind.wrap IntKind.i64 (Int.tdiv i 8)) && decide (IntKind.wrap IntKind.i64 (Int.tdiv i 8) < (kk.length:Int))),decide ((0:Int)≤i)]):=by kernel_rfl
theorem rnd14b (φ:Fl) (k u kk:List UInt8) (cb:List AVal) (i j:Int) (x:E5) (p p0 q q0:P2 E5):roundO2 Tryd.prog (psnl φ) (nl φ) [39,45,200050] [true] [.u8 1] 89 (mask 30) 1000 1 b14 (S14 k u kk cb x p0 q0 j) (S14 k u kk cb x p q i)=some (S14 k u kk cb x (φ.st2 q p x) (φ.st1 q p x) (IntKind.wrap .i64 (i - 1)),[eqS (.u8 (shr_u8 (List.getD kk (Int.toNat (IntKind.wrap IntKind.i64 (Int.tdiv i 8))) 0) (UInt64.toNat (UInt64.ofInt (Int.tmod i 8))) &&& 1)) (.u8 1),(decide ((0:Int)≤IntKind.wrap IntKind.i64 (Int.tdiv i 8)) && decide (IntKind.wrap IntKind.i64 (Int.tdiv i 8) < (kk.length:Int))),decide ((0:Int)≤i)]):=by kernel_rfl
theorem gl0:Tryd.prog.globals.size=1:=by kernel_rfl
theorem ok14 (k u kk c:List UInt8) (x:E5) (p q:P2 E5) (i:Int):okS Tryd.prog (S14 k u kk (c.map .u8) x p q i)=true:=by
 have h:∀ (m:Nat) (l:List UInt8),ltL m (l.map .u8)=true:=fun m l=>by
  induction l with
  | nil=>rfl
  | cons y l ih=>simp [ltL,ltS,ih]
 simp [okS,gl0,S14,ltT,ltH,ltV,ltS,ltL,h,E5.cells,ptCells,nble]
theorem stp14 (k u kk c:List UInt8) (hk:kk.length=32) (x:E5) (s s0:P2 E5 × P2 E5) (j:Int) (m:Nat) (hm:m≤254):roundA (evC Tryd.prog (nl realFl) 89 (mask 30) 1000 1 b14) (headA Tryd.prog 1 (S14 k u kk (c.map .u8) x s0.1 s0.2 j)) (S14 k u kk (c.map .u8) x s.1 s.2 m)=some (S14 k u kk (c.map .u8) x (rndO opsE x (bitK kk m) s).1 (rndO opsE x (bitK kk m) s).2 ((m:Int) - 1)):=by
 have hw:IntKind.wrap .i64 ((m:Int) - 1)=(m:Int) - 1:=wrapI _ (by omega) (by omega)
 have hb:=bit_raw kk m (by omega)
 have hd:=bit_div m (by omega)
 have h1:decide ((0:Int)≤((m / 8:Nat):Int))=true:=by rw [decide_eq_true_iff]; omega
 have h2:decide (((m / 8:Nat):Int) < (kk.length:Int))=true:=by rw [decide_eq_true_iff]; omega
 have h3:decide ((0:Int)≤(m:Int))=true:=by rw [decide_eq_true_iff]; omega
 rw [← hw]
 rcases bitB_cases kk m with e | e
 ·have hK:bitK kk m=false:=by unfold bitK; rw [e]; rfl
  rw [hK]
  exact roundO2_ok (nl_ps _) (rnd14a realFl k u kk (c.map .u8) m j x s.1 s0.1 s.2 s0.2) (by rw [hb,e,hd,h1,h2,h3]; rfl) (ok14 _ _ _ _ _ _ _ _)
 ·have hK:bitK kk m=true:=by unfold bitK; rw [e]; rfl
  rw [hK]
  exact roundO2_ok (nl_ps _) (rnd14b realFl k u kk (c.map .u8) m j x s.1 s0.1 s.2 s0.2) (by rw [hb,e,hd,h1,h2,h3]; rfl) (ok14 _ _ _ _ _ _ _ _)
theorem run41 (k u:List UInt8) (hk:isLen k 32=true) (hu:isLen u 32=true):(run1 Tryd.prog (nl realFl) (mask 30) 1000 30 [.str k,.str u] [] 1).map (·.1)=some (.str (ladE k u)):=by
 obtain ⟨u0,u1,u2,u3,u4,u5,u6,u7,u8,u9,u10,u11,u12,u13,u14,u15,u16,u17,u18,u19,u20,u21,u22,u23,u24,u25,u26,u27,u28,u29,u30,u31,rfl⟩:=len32 (isLen_eq.1 hu)
 refine run_loopO (nl_ps _) (fn:=Tryd.f30) (c:=bodyOf Tryd.f30) (by kernel_rfl) (by kernel_rfl) (by kernel_rfl) 7 (id:=0) (b:=b14) (by kernel_rfl) (fun j=>S14 k [u0,u1,u2,u3,u4,u5,u6,u7,u8,u9,u10,u11,u12,u13,u14,u15,u16,u17,u18,u19,u20,u21,u22,u23,u24,u25,u26,u27,u28,u29,u30,u31] (clampL k) ([u0,u1,u2,u3,u4,u5,u6,u7,u8,u9,u10,u11,u12,u13,u14,u15,u16,u17,u18,u19,u20,u21,u22,u23,u24,u25,u26,u27,u28,u29,u30,u31 &&& 127].map .u8) (ofEl [u0,u1,u2,u3,u4,u5,u6,u7,u8,u9,u10,u11,u12,u13,u14,u15,u16,u17,u18,u19,u20,u21,u22,u23,u24,u25,u26,u27,u28,u29,u30,u31 &&& 127]) (ladO opsE (clampL k) (ofEl [u0,u1,u2,u3,u4,u5,u6,u7,u8,u9,u10,u11,u12,u13,u14,u15,u16,u17,u18,u19,u20,u21,u22,u23,u24,u25,u26,u27,u28,u29,u30,u31 &&& 127]) j).1 (ladO opsE (clampL k) (ofEl [u0,u1,u2,u3,u4,u5,u6,u7,u8,u9,u10,u11,u12,u13,u14,u15,u16,u17,u18,u19,u20,u21,u22,u23,u24,u25,u26,u27,u28,u29,u30,u31 &&& 127]) j).2 (254 - (j:Int))) 255 (pre14 realFl k u0 u1 u2 u3 u4 u5 u6 u7 u8 u9 u10 u11 u12 u13 u14 u15 u16 u17 u18 u19 u20 u21 u22 u23 u24 u25 u26 u27 u28 u29 u30 u31) ?_ (fun j hj => ?_) (end14 realFl k [u0,u1,u2,u3,u4,u5,u6,u7,u8,u9,u10,u11,u12,u13,u14,u15,u16,u17,u18,u19,u20,u21,u22,u23,u24,u25,u26,u27,u28,u29,u30,u31] (clampL k) ([u0,u1,u2,u3,u4,u5,u6,u7,u8,u9,u10,u11,u12,u13,u14,u15,u16,u17,u18,u19,u20,u21,u22,u23,u24,u25,u26,u27,u28,u29,u30,u31 &&& 127].map .u8) _ (ofEl [u0,u1,u2,u3,u4,u5,u6,u7,u8,u9,u10,u11,u12,u13,u14,u15,u16,u17,u18,u19,u20,u21,u22,u23,u24,u25,u26,u27,u28,u29,u30,u31 &&& 127]) _ _) rfl (by omega)
 ·simp [allT,realFl,hk]
 ·have e1:(254:Int) - (j:Int)=((254 - j:Nat):Int):=by omega
  have e2:(254:Int) - ((j+1:Nat):Int)=((254 - j:Nat):Int) - 1:=by omega
  rw [e1,e2]
  exact stp14 k [u0,u1,u2,u3,u4,u5,u6,u7,u8,u9,u10,u11,u12,u13,u14,u15,u16,u17,u18,u19,u20,u21,u22,u23,u24,u25,u26,u27,u28,u29,u30,u31] (clampL k) [u0,u1,u2,u3,u4,u5,u6,u7,u8,u9,u10,u11,u12,u13,u14,u15,u16,u17,u18,u19,u20,u21,u22,u23,u24,u25,u26,u27,u28,u29,u30,u31 &&& 127] (clamp_len hk) (ofEl [u0,u1,u2,u3,u4,u5,u6,u7,u8,u9,u10,u11,u12,u13,u14,u15,u16,u17,u18,u19,u20,u21,u22,u23,u24,u25,u26,u27,u28,u29,u30,u31 &&& 127]) (ladO opsE (clampL k) (ofEl [u0,u1,u2,u3,u4,u5,u6,u7,u8,u9,u10,u11,u12,u13,u14,u15,u16,u17,u18,u19,u20,u21,u22,u23,u24,u25,u26,u27,u28,u29,u30,u31 &&& 127]) j) _ _ (254 - j) (by omega)
end Go.Proofs.YtcplgmgpagekfaaDoor
namespace Go.Proofs.YtcplgmgpagekfaaDoor
open Go Go.Eng Go.Num
theorem pre15 (φ:Fl) (k:List UInt8) (u0 u1 u2 u3 u4 u5 u6 u7 u8 u9 u10 u11 u12 u13 u14 u15 u16 u17 u18 u19 u20 u21 u22 u23 u24 u25 u26 u27 u28 u29 u30 u31:UInt8):segO (evSO Tryd.prog (psnl φ) (nl φ) [24,35] 118 (mask 13) 1000 1 (cd15.take 10) ⟨startT [.str k,.str [u0,u1,u2,u3,u4,u5,u6,u7,u8,u9,u10,u11,u12,u13,u14,u15,u16,u17,u18,u19,u20,u21,u22,u23,u24,u25,u26,u27,u28,u29,u30,u31]] 0,[],1⟩ ⟨[],[],[]⟩)=some (S15 k [u0,u1,u2,u3,u4,u5,u6,u7,u8,u9,u10,u11,u12,u13,u14,u15,u16,u17,u18,u19,u20,u21,u22,u23,u24,u25,u26,u27,u28,u29,u30,u31] (φ.clamp k) [.u8 u0,.u8 u1,.u8 u2,.u8 u3,.u8 u4,.u8 u5,.u8 u6,.u8 u7,.u8 u8,.u8 u9,.u8 u10,.u8 u11,.u8 u12,.u8 u13,.u8 u14,.u8 u15,.u8 u16,.u8 u17,.u8 u18,.u8 u19,.u8 u20,.u8 u21,.u8 u22,.u8 u23,.u8 u24,.u8 u25,.u8 u26,.u8 u27,.u8 u28,.u8 u29,.u8 u30,.u8 (u31 &&& 127)] (φ.ofN [u0,u1,u2,u3,u4,u5,u6,u7,u8,u9,u10,u11,u12,u13,u14,u15,u16,u17,u18,u19,u20,u21,u22,u23,u24,u25,u26,u27,u28,u29,u30,u31 &&& 127]) ⟨φ.smallN 1,zeroN⟩ ⟨φ.ofN [u0,u1,u2,u3,u4,u5,u6,u7,u8,u9,u10,u11,u12,u13,u14,u15,u16,u17,u18,u19,u20,u21,u22,u23,u24,u25,u26,u27,u28,u29,u30,u31 &&& 127],φ.smallN 1⟩ 254,[φ.l32 [u0,u1,u2,u3,u4,u5,u6,u7,u8,u9,u10,u11,u12,u13,u14,u15,u16,u17,u18,u19,u20,u21,u22,u23,u24,u25,u26,u27,u28,u29,u30,u31 &&& 127],φ.l32 k]):=by kernel_rfl
theorem end15 (φ:Fl) (k u kk:List UInt8) (cb:List AVal) (i:Int) (x:N16) (p q:P2 N16):endO Tryd.prog (psnl φ) (nl φ) [41,115,116] Tryd.f13 (mask 13) 1000 1 0 b15 (cd15.drop 11) (S15 k u kk cb x p q i) ⟨[false],[],[]⟩=some (.str (φ.bytesN (φ.mulN p.x (φ.invN p.z))),[φ.ok p.x && φ.ok (φ.invN p.z),φ.ok p.z,!decide ((0:Int)≤i)]):=by kernel_rfl
theorem rnd15a (φ:Fl) (k u kk:List UInt8) (cb:List AVal) (i j:Int) (x:N16) (p p0 q q0:P2 N16):roundO2 Tryd.prog (psnl φ) (nl φ) [41,47,53,61,64,67,70,73,76,78,81,83,86,89,92,96,97,100,105,106,107] [true,false] [] 118 (mask 13) 1000 1 b15 (S15 k u kk cb x p0 q0 j) (S15 k u kk cb x p q i)=some (S15 k u kk cb x ⟨φ.mulN (φ.mulN (φ.addN (p.x) (p.z)) (φ.addN (p.x) (p.z))) (φ.mulN (φ.subN (p.x) (p.z)) (φ.subN (p.x) (p.z))),φ.mulN (φ.subN (φ.mulN (φ.addN (p.x) (p.z)) (φ.addN (p.x) (p.z))) (φ.mulN (φ.subN (p.x) (p.z)) (φ.subN (p.x) (p.z)))) (φ.addN (φ.mulN (φ.addN (p.x) (p.z)) (φ.addN (p.x) (p.z))) (φ.mulN (φ.smallN 121665) (φ.subN (φ.mulN (φ.addN (p.x) (p.z)) (φ.addN (p.x) (p.z))) (φ.mulN (φ.subN (p.x) (p.z)) (φ.subN (p.x) (p.z))))))⟩ ⟨φ.mulN (φ.addN (φ.mulN (φ.subN (q.x) (q.z)) (φ.addN (p.x) (p.z))) (φ.mulN (φ.addN (q.x) (q.z)) (φ.subN (p.x) (p.z)))) (φ.addN (φ.mulN (φ.subN (q.x) (q.z)) (φ.addN (p.x) (p.z))) (φ.mulN (φ.addN (q.x) (q.z)) (φ.subN (p.x) (p.z)))),φ.mulN (x) (φ.mulN (φ.subN (φ.mulN (φ.subN (q.x) (q.z)) (φ.addN (p.x) (p.z))) (φ.mulN (φ.addN (q.x) (q.z)) (φ.subN (p.x) (p.z)))) (φ.subN (φ.mulN (φ.subN (q.x) (q.z)) (φ.addN (p.x) (p.z))) (φ.mulN (φ.addN (q.x) (q.z)) (φ.subN (p.x) (p.z)))))⟩ (IntKind.wrap .i64 (i - 1)),[φ.ok (φ.subN (φ.mulN (φ.addN (p.x) (p.z)) (φ.addN (p.x) (p.z))) (φ.mulN (φ.subN (p.x) (p.z)) (φ.subN (p.x) (p.z)))) && φ.ok (φ.addN (φ.mulN (φ.addN (p.x) (p.z)) (φ.addN (p.x) (p.z))) (φ.mulN (φ.smallN 121665) (φ.subN (φ.mulN (φ.addN (p.x) (p.z)) (φ.addN (p.x) (p.z))) (φ.mulN (φ.subN (p.x) (p.z)) (φ.subN (p.x) (p.z)))))),φ.ok (φ.mulN (φ.addN (p.x) (p.z)) (φ.addN (p.x) (p.z))) && φ.ok (φ.mulN (φ.smallN 121665) (φ.subN (φ.mulN (φ.addN (p.x) (p.z)) (φ.addN (p.x) (p.z))) (φ.mulN (φ.subN (p.x) (p.z)) (φ.subN (p.x) (p.z))))),φ.ok (φ.smallN 121665) && φ.ok (φ.subN (φ.mulN (φ.addN (p.x) (p.z)) (φ.addN (p.x) (p.z))) (φ.mulN (φ.subN (p.x) (p.z)) (φ.subN (p.x) (p.z)))),φ.ok (φ.mulN (φ.addN (p.x) (p.z)) (φ.addN (p.x) (p.z))) && φ.ok (φ.mulN (φ.subN (p.x) (p.z)) (φ.subN (p.x) (p.z))),φ.ok (x) && φ.ok (φ.mulN (φ.subN (φ.mulN (φ.subN (q.x) (q.z)) (φ.addN (p.x) (p.z))) (φ.mulN (φ.addN (q.x) (q.z)) (φ.subN (p.x) (p.z)))) (φ.subN (φ.mulN (φ.subN (q.x) (q.z)) (φ.addN (p.x) (p.z))) (φ.mulN (φ.addN (q.x) (q.z)) (φ.subN (p.x) (p.z))))),φ.ok (φ.subN (φ.mulN (φ.subN (q.x) (q.z)) (φ.addN (p.x) (p.z))) (φ.mulN (φ.addN (q.x) (q.z)) (φ.subN (p.x) (p.z)))) && φ.ok (φ.subN (φ.mulN (φ.subN (q.x) (q.z)) (φ.addN (p.x) (p.z))) (φ.mulN (φ.addN (q.x) (q.z)) (φ.subN (p.x) (p.z)))),φ.ok (φ.mulN (φ.subN (q.x) (q.z)) (φ.addN (p.x) (p.z))) && φ.ok (φ.mulN (φ.addN (q.x) (q.z)) (φ.subN (p.x) (p.z))),φ.ok (φ.addN (φ.mulN (φ.subN (q.x) (q.z)) (φ.addN (p.x) (p.z))) (φ.mulN (φ.addN (q.x) (q.z)) (φ.subN (p.x) (p.z)))) && φ.ok (φ.addN (φ.mulN (φ.subN (q.x) (q.z)) (φ.addN (p.x) (p.z))) (φ.mulN (φ.addN (q.x) (q.z)) (φ.subN (p.x) (p.z)))),φ.ok (φ.mulN (φ.subN (q.x) (q.z)) (φ.addN (p.x) (p.z))) && φ.ok (φ.mulN (φ.addN (q.x) (q.z)) (φ.subN (p.x) (p.z))),φ.ok (φ.addN (q.x) (q.z)) && φ.ok (φ.subN (p.x) (p.z)),φ.ok (q.x) && φ.ok (q.z),φ.ok (φ.subN (q.x) (q.z)) && φ.ok (φ.addN (p.x) (p.z)),φ.ok (q.x) && φ.ok (q.z),φ.ok (φ.mulN (φ.addN (p.x) (p.z)) (φ.addN (p.x) (p.z))) && φ.ok (φ.mulN (φ.subN (p.x) (p.z)) (φ.subN (p.x) (p.z))),φ.ok (φ.subN (p.x) (p.z)) && φ.ok (φ.subN (p.x) (p.z)),φ.ok (p.x) && φ.ok (p.z),φ.ok (φ.addN (p.x) (p.z)) && φ.ok (φ.addN (p.x) (p.z)),φ.ok (p.x) && φ.ok (p.z),!((shr_u8 (List.getD kk (Int.toNat (IntKind.wrap IntKind.i64 (Int.tdiv i 8))) 0) (UInt64.toNat (UInt64.ofInt (Int.tmod i 8))) &&& 1) == 1),(decide ((0:Int)≤IntKind.wrap IntKind.i64 (Int.tdiv i 8)) && decide (IntKind.wrap IntKind.i64 (Int.tdiv i 8) < (kk.length:Int))),decide ((0:Int)≤i)]):=by kernel_rfl
theorem rnd15b (φ:Fl) (k u kk:List UInt8) (cb:List AVal) (i j:Int) (x:N16) (p p0 q q0:P2 N16):roundO2 Tryd.prog (psnl φ) (nl φ) [41,47,53,61,64,67,70,73,76,78,81,83,86,89,92,96,97,100,105,106,107] [true,true] [] 118 (mask 13) 1000 1 b15 (S15 k u kk cb x p0 q0 j) (S15 k u kk cb x p q i)=some (S15 k u kk cb x ⟨φ.mulN (φ.addN (φ.mulN (φ.subN (p.x) (p.z)) (φ.addN (q.x) (q.z))) (φ.mulN (φ.addN (p.x) (p.z)) (φ.subN (q.x) (q.z)))) (φ.addN (φ.mulN (φ.subN (p.x) (p.z)) (φ.addN (q.x) (q.z))) (φ.mulN (φ.addN (p.x) (p.z)) (φ.subN (q.x) (q.z)))),φ.mulN (x) (φ.mulN (φ.subN (φ.mulN (φ.subN (p.x) (p.z)) (φ.addN (q.x) (q.z))) (φ.mulN (φ.addN (p.x) (p.z)) (φ.subN (q.x) (q.z)))) (φ.subN (φ.mulN (φ.subN (p.x) (p.z)) (φ.addN (q.x) (q.z))) (φ.mulN (φ.addN (p.x) (p.z)) (φ.subN (q.x) (q.z)))))⟩ ⟨φ.mulN (φ.mulN (φ.addN (q.x) (q.z)) (φ.addN (q.x) (q.z))) (φ.mulN (φ.subN (q.x) (q.z)) (φ.subN (q.x) (q.z))),φ.mulN (φ.subN (φ.mulN (φ.addN (q.x) (q.z)) (φ.addN (q.x) (q.z))) (φ.mulN (φ.subN (q.x) (q.z)) (φ.subN (q.x) (q.z)))) (φ.addN (φ.mulN (φ.addN (q.x) (q.z)) (φ.addN (q.x) (q.z))) (φ.mulN (φ.smallN 121665) (φ.subN (φ.mulN (φ.addN (q.x) (q.z)) (φ.addN (q.x) (q.z))) (φ.mulN (φ.subN (q.x) (q.z)) (φ.subN (q.x) (q.z))))))⟩ (IntKind.wrap .i64 (i - 1)),[φ.ok (φ.subN (φ.mulN (φ.addN (q.x) (q.z)) (φ.addN (q.x) (q.z))) (φ.mulN (φ.subN (q.x) (q.z)) (φ.subN (q.x) (q.z)))) && φ.ok (φ.addN (φ.mulN (φ.addN (q.x) (q.z)) (φ.addN (q.x) (q.z))) (φ.mulN (φ.smallN 121665) (φ.subN (φ.mulN (φ.addN (q.x) (q.z)) (φ.addN (q.x) (q.z))) (φ.mulN (φ.subN (q.x) (q.z)) (φ.subN (q.x) (q.z)))))),φ.ok (φ.mulN (φ.addN (q.x) (q.z)) (φ.addN (q.x) (q.z))) && φ.ok (φ.mulN (φ.smallN 121665) (φ.subN (φ.mulN (φ.addN (q.x) (q.z)) (φ.addN (q.x) (q.z))) (φ.mulN (φ.subN (q.x) (q.z)) (φ.subN (q.x) (q.z))))),φ.ok (φ.smallN 121665) && φ.ok (φ.subN (φ.mulN (φ.addN (q.x) (q.z)) (φ.addN (q.x) (q.z))) (φ.mulN (φ.subN (q.x) (q.z)) (φ.subN (q.x) (q.z)))),φ.ok (φ.mulN (φ.addN (q.x) (q.z)) (φ.addN (q.x) (q.z))) && φ.ok (φ.mulN (φ.subN (q.x) (q.z)) (φ.subN (q.x) (q.z))),φ.ok (x) && φ.ok (φ.mulN (φ.subN (φ.mulN (φ.subN (p.x) (p.z)) (φ.addN (q.x) (q.z))) (φ.mulN (φ.addN (p.x) (p.z)) (φ.subN (q.x) (q.z)))) (φ.subN (φ.mulN (φ.subN (p.x) (p.z)) (φ.addN (q.x) (q.z))) (φ.mulN (φ.addN (p.x) (p.z)) (φ.subN (q.x) (q.z))))),φ.ok (φ.subN (φ.mulN (φ.subN (p.x) (p.z)) (φ.addN (q.x) (q.z))) (φ.mulN (φ.addN (p.x) (p.z)) (φ.subN (q.x) (q.z)))) && φ.ok (φ.subN (φ.mulN (φ.subN (p.x) (p.z)) (φ.addN (q.x) (q.z))) (φ.mulN (φ.addN (p.x) (p.z)) (φ.subN (q.x) (q.z)))),φ.ok (φ.mulN (φ.subN (p.x) (p.z)) (φ.addN (q.x) (q.z))) && φ.ok (φ.mulN (φ.addN (p.x) (p.z)) (φ.subN (q.x) (q.z))),φ.ok (φ.addN (φ.mulN (φ.subN (p.x) (p.z)) (φ.addN (q.x) (q.z))) (φ.mulN (φ.addN (p.x) (p.z)) (φ.subN (q.x) (q.z)))) && φ.ok (φ.addN (φ.mulN (φ.subN (p.x) (p.z)) (φ.addN (q.x) (q.z))) (φ.mulN (φ.addN (p.x) (p.z)) (φ.subN (q.x) (q.z)))),φ.ok (φ.mulN (φ.subN (p.x) (p.z)) (φ.addN (q.x) (q.z))) && φ.ok (φ.mulN (φ.addN (p.x) (p.z)) (φ.subN (q.x) (q.z))),φ.ok (φ.addN (p.x) (p.z)) && φ.ok (φ.subN (q.x) (q.z)),φ.ok (p.x) && φ.ok (p.z),φ.ok (φ.subN (p.x) (p.z)) && φ.ok (φ.addN (q.x) (q.z)),φ.ok (p.x) && φ.ok (p.z),φ.ok (φ.mulN (φ.addN (q.x) (q.z)) (φ.addN (q.x) (q.z))) && φ.ok (φ.mulN (φ.subN (q.x) (q.z)) (φ.subN (q.x) (q.z))),φ.ok (φ.subN (q.x) (q.z)) && φ.ok (φ.subN (q.x) (q.z)),φ.ok (q.x) && φ.ok (q.z),φ.ok (φ.addN (q.x) (q.z)) && φ.ok (φ.addN (q.x) (q.z)),φ.ok (q.x) && φ.ok (q.z),((shr_u8 (List.getD kk (Int.toNat (IntKind.wrap IntKind.i64 (Int.tdiv i 8))) 0) (UInt64.toNat (UInt64.ofInt (Int.tmod i 8))) &&& 1) == 1),(decide ((0:Int)≤IntKind.wrap IntKind.i64 (Int.tdiv i 8)) && decide (IntKind.wrap IntKind.i64 (Int.tdiv i 8) < (kk.length:Int))),decide ((0:Int)≤i)]):=by kernel_rfl
theorem okB_add {a b:N16}(h:Num.okB a=true) (k:Num.okB b=true):Num.okB (addP a b)=true:=okB_iff.2 (addP_val a b (okB_iff.1 h) (okB_iff.1 k)).1
theorem okB_sub {a b:N16}(h:Num.okB a=true) (k:Num.okB b=true):Num.okB (subP a b)=true:=okB_add h (okB_iff.2 (negP_ok b (okB_iff.1 k)))
theorem okB_mul {a b:N16}(h:Num.okB a=true) (k:Num.okB b=true):Num.okB (mulP a b)=true:=okB_iff.2 (mulP_val a b (okB_iff.1 h) (okB_iff.1 k)).1
theorem okB_small (n:UInt32):Num.okB (smallN n)=true:=okB_iff.2 (smallN_val n).1
theorem okB_inv {a:N16}(h:Num.okB a=true):Num.okB (invP a)=true:=okB_iff.2 (powP_ok a (okB_iff.1 h) _)
theorem ok15 (k u kk c:List UInt8) (x:N16) (p q:P2 N16) (i:Int):okS Tryd.prog (S15 k u kk (c.map .u8) x p q i)=true:=by
 have h:∀ (m:Nat) (l:List UInt8),ltL m (l.map .u8)=true:=fun m l=>by
  induction l with
  | nil=>rfl
  | cons y l ih=>simp [ltL,ltS,ih]
 simp [okS,gl0,S15,ltT,ltH,ltV,ltS,ltL,h,N16.cells,nble]
def okP2 (s:P2 N16 × P2 N16):Prop:=(Num.okB s.1.x=true∧Num.okB s.1.z=true)∧(Num.okB s.2.x=true∧Num.okB s.2.z=true)
theorem ok_lad (k:List UInt8){u:List UInt8}(h:isLen u 32=true) (j:Nat):okP2 (ladO opsN k (ofP u) j):=by
 have r:=lad_keeps keeps_EN k (rel_of h) j
 exact ⟨⟨okB_iff.2 r.1.1.okP,okB_iff.2 r.1.2.okP⟩,⟨okB_iff.2 r.2.1.okP,okB_iff.2 r.2.2.okP⟩⟩
theorem stp15 (k u kk c:List UInt8) (hk:kk.length=32) (x:N16) (hx:Num.okB x=true) (s s0:P2 N16 × P2 N16) (hs:okP2 s) (j:Int) (m:Nat) (hm:m≤254):roundA (evC Tryd.prog (nl realFl) 118 (mask 13) 1000 1 b15) (headA Tryd.prog 1 (S15 k u kk (c.map .u8) x s0.1 s0.2 j)) (S15 k u kk (c.map .u8) x s.1 s.2 m)=some (S15 k u kk (c.map .u8) x (rndO opsN x (bitK kk m) s).1 (rndO opsN x (bitK kk m) s).2 ((m:Int) - 1)):=by
 have hw:IntKind.wrap .i64 ((m:Int) - 1)=(m:Int) - 1:=wrapI _ (by omega) (by omega)
 have hb:=bit_raw kk m (by omega)
 have hd:=bit_div m (by omega)
 have h1:decide ((0:Int)≤((m / 8:Nat):Int))=true:=by rw [decide_eq_true_iff]; omega
 have h2:decide (((m / 8:Nat):Int) < (kk.length:Int))=true:=by rw [decide_eq_true_iff]; omega
 have h3:decide ((0:Int)≤(m:Int))=true:=by rw [decide_eq_true_iff]; omega
 obtain ⟨p,q⟩:=s
 obtain ⟨⟨o1,o2⟩,⟨o3,o4⟩⟩:=hs
 simp only at o1 o2 o3 o4
 rw [← hw]
 cases hK:bitK kk m
 ·have hK2:(bitB kk m == 1)=false:=hK
  exact roundO2_ok (nl_ps _) (rnd15a realFl k u kk (c.map .u8) m j x p s0.1 q s0.2) (by
   rw [hb,hK2,hd,h1,h2,h3]
   simp (maxDischargeDepth:=30) only [allT,realFl,okB_add,okB_sub,okB_mul,okB_small,o1,o2,o3,o4,hx,Bool.and_self,Bool.not_false,cond_true]) (ok15 _ _ _ _ _ _ _ _)
 ·have hK2:(bitB kk m == 1)=true:=hK
  exact roundO2_ok (nl_ps _) (rnd15b realFl k u kk (c.map .u8) m j x p s0.1 q s0.2) (by
   rw [hb,hK2,hd,h1,h2,h3]
   simp (maxDischargeDepth:=30) only [allT,realFl,okB_add,okB_sub,okB_mul,okB_small,o1,o2,o3,o4,hx,Bool.and_self,Bool.not_false,cond_true]) (ok15 _ _ _ _ _ _ _ _)
theorem run18 (k u:List UInt8) (hk:isLen k 32=true) (hu:isLen u 32=true):(run1 Tryd.prog (nl realFl) (mask 13) 1000 13 [.str k,.str u] [] 1).map (·.1)=some (.str (ladP k u)):=by
 obtain ⟨u0,u1,u2,u3,u4,u5,u6,u7,u8,u9,u10,u11,u12,u13,u14,u15,u16,u17,u18,u19,u20,u21,u22,u23,u24,u25,u26,u27,u28,u29,u30,u31,rfl⟩:=len32 (isLen_eq.1 hu)
 have hl:isLen [u0,u1,u2,u3,u4,u5,u6,u7,u8,u9,u10,u11,u12,u13,u14,u15,u16,u17,u18,u19,u20,u21,u22,u23,u24,u25,u26,u27,u28,u29,u30,u31 &&& 127] 32=true:=rfl
 have ol:=ok_lad (clampL k) hl
 refine run_loopO (nl_ps _) (fn:=Tryd.f13) (c:=bodyOf Tryd.f13) (by kernel_rfl) (by kernel_rfl) (by kernel_rfl) 10 (id:=0) (b:=b15) (by kernel_rfl) (fun j=>S15 k [u0,u1,u2,u3,u4,u5,u6,u7,u8,u9,u10,u11,u12,u13,u14,u15,u16,u17,u18,u19,u20,u21,u22,u23,u24,u25,u26,u27,u28,u29,u30,u31] (clampL k) ([u0,u1,u2,u3,u4,u5,u6,u7,u8,u9,u10,u11,u12,u13,u14,u15,u16,u17,u18,u19,u20,u21,u22,u23,u24,u25,u26,u27,u28,u29,u30,u31 &&& 127].map .u8) (ofP [u0,u1,u2,u3,u4,u5,u6,u7,u8,u9,u10,u11,u12,u13,u14,u15,u16,u17,u18,u19,u20,u21,u22,u23,u24,u25,u26,u27,u28,u29,u30,u31 &&& 127]) (ladO opsN (clampL k) (ofP [u0,u1,u2,u3,u4,u5,u6,u7,u8,u9,u10,u11,u12,u13,u14,u15,u16,u17,u18,u19,u20,u21,u22,u23,u24,u25,u26,u27,u28,u29,u30,u31 &&& 127]) j).1 (ladO opsN (clampL k) (ofP [u0,u1,u2,u3,u4,u5,u6,u7,u8,u9,u10,u11,u12,u13,u14,u15,u16,u17,u18,u19,u20,u21,u22,u23,u24,u25,u26,u27,u28,u29,u30,u31 &&& 127]) j).2 (254 - (j:Int))) 255 (pre15 realFl k u0 u1 u2 u3 u4 u5 u6 u7 u8 u9 u10 u11 u12 u13 u14 u15 u16 u17 u18 u19 u20 u21 u22 u23 u24 u25 u26 u27 u28 u29 u30 u31) ?_ (fun j hj => ?_) (end15 realFl k [u0,u1,u2,u3,u4,u5,u6,u7,u8,u9,u10,u11,u12,u13,u14,u15,u16,u17,u18,u19,u20,u21,u22,u23,u24,u25,u26,u27,u28,u29,u30,u31] (clampL k) ([u0,u1,u2,u3,u4,u5,u6,u7,u8,u9,u10,u11,u12,u13,u14,u15,u16,u17,u18,u19,u20,u21,u22,u23,u24,u25,u26,u27,u28,u29,u30,u31 &&& 127].map .u8) _ (ofP [u0,u1,u2,u3,u4,u5,u6,u7,u8,u9,u10,u11,u12,u13,u14,u15,u16,u17,u18,u19,u20,u21,u22,u23,u24,u25,u26,u27,u28,u29,u30,u31 &&& 127]) _ _) ?_ (by omega)
 ·simp only [allT,realFl,hk,hl,cond_true]
 ·have e1:(254:Int) - (j:Int)=((254 - j:Nat):Int):=by omega
  have e2:(254:Int) - ((j+1:Nat):Int)=((254 - j:Nat):Int) - 1:=by omega
  rw [e1,e2]
  exact stp15 k [u0,u1,u2,u3,u4,u5,u6,u7,u8,u9,u10,u11,u12,u13,u14,u15,u16,u17,u18,u19,u20,u21,u22,u23,u24,u25,u26,u27,u28,u29,u30,u31] (clampL k) [u0,u1,u2,u3,u4,u5,u6,u7,u8,u9,u10,u11,u12,u13,u14,u15,u16,u17,u18,u19,u20,u21,u22,u23,u24,u25,u26,u27,u28,u29,u30,u31 &&& 127] (clamp_len hk) (ofP [u0,u1,u2,u3,u4,u5,u6,u7,u8,u9,u10,u11,u12,u13,u14,u15,u16,u17,u18,u19,u20,u21,u22,u23,u24,u25,u26,u27,u28,u29,u30,u31 &&& 127]) (okB_iff.2 (rel_of hl).okP) (ladO opsN (clampL k) (ofP [u0,u1,u2,u3,u4,u5,u6,u7,u8,u9,u10,u11,u12,u13,u14,u15,u16,u17,u18,u19,u20,u21,u22,u23,u24,u25,u26,u27,u28,u29,u30,u31 &&& 127]) j) _ (ol j) _ (254 - j) (by omega)
 ·have o:=ol 255
  simp only [allT,realFl,okB_inv,o.1.1,o.1.2,Bool.and_self,cond_true]
  rfl
end Go.Proofs.YtcplgmgpagekfaaDoor
namespace Go.Num
open Go Go.Eng
def zero32:List UInt8:=List.replicate 32 0
def nine32:List UInt8:=9::List.replicate 31 0
def p255:Nat:=57896044618658097711785492504343953926634992332820282019728792003956564819968
theorem all8 {f:UInt8→Bool}(h:((List.range 256).all fun n=>f (UInt8.ofNat n))=true) (x:UInt8):f x=true:=by
 have:=List.all_eq_true.1 h x.toNat (List.mem_range.2 x.toNat_lt)
 rwa [UInt8.ofNat_toNat] at this
theorem leNat_app2:∀ (a b:List UInt8),leNat (a++b)=leNat a+256 ^ a.length * leNat b
 | [],b=>by simp [leNat]
 | x::a,b=>by
  have:=leNat_app2 a b
  simp only [List.cons_append,leNat,this,List.length_cons,Nat.pow_succ]
  rw [Nat.mul_add]
  have:256 * (256 ^ a.length * leNat b)=256 ^ a.length * 256 * leNat b:=by rw [← Nat.mul_assoc,Nat.mul_comm 256]
  omega
theorem leNat_bound:∀ (a:List UInt8),leNat a < 256 ^ a.length
 | []=>by simp [leNat]
 | x::a=>by
  have:=leNat_bound a
  have hx:=x.toNat_lt
  simp only [leNat,List.length_cons,Nat.pow_succ]
  omega
theorem and127 (x:UInt8):(x &&& 127).toNat=x.toNat % 128:=by
 rw [UInt8.toNat_and]
 exact Nat.and_two_pow_sub_one_eq_mod x.toNat 7
theorem topL_val {u:List UInt8}(h:isLen u 32=true):leNat (topL u)=leNat u % p255:=by
 rw [isLen_eq] at h
 have e:u=u.take 31++[u.getD 31 0]:=by
  have h1:u.drop 31=[u.getD 31 0]:=by
   rw [List.drop_eq_getElem_cons (by omega),List.drop_of_length_le (by omega)]
   rw [List.getD_eq_getElem?_getD,List.getElem?_eq_getElem (by omega)]; rfl
  rw [← h1,List.take_append_drop]
 have hl:(u.take 31).length=31:=by rw [List.length_take]; omega
 have e2:topL u=u.take 31++[u.getD 31 0 &&& 127]:=by
  unfold topL
  apply List.ext_getElem?
  intro i
  rw [List.getElem?_set]
  by_cases h1:31=i
  ·subst h1
   rw [if_pos rfl,if_pos (by omega),List.getElem?_append_right (by omega),hl]; rfl
  ·rw [if_neg h1]
   by_cases h2:i < 31
   ·rw [List.getElem?_append_left (by omega),List.getElem?_take_of_lt h2]
   ·rw [List.getElem?_eq_none (by omega),List.getElem?_eq_none (by rw [List.length_append,hl]; show 31+1≤i; omega)]
 have hb:=leNat_bound (u.take 31)
 rw [hl] at hb
 generalize hx:u.getD 31 0=x at e e2
 rw [e2]
 conv=>rhs; rw [e]
 rw [leNat_app2,leNat_app2,hl]
 have hx2:=x.toNat_lt
 have s1:∀ y:UInt8,leNat [y]=y.toNat:=fun y=>by simp [leNat]
 rw [s1,s1,and127]
 unfold p255
 simp only [Nat.reducePow] at hb ⊢
 omega
theorem ladE_nat (k:List UInt8){u:List UInt8}(h:isLen u 32=true):leNat (ladE k u)=quotM (ladM k (leNat u % p255 % Pq)):=by
 rw [ladE_val,ofEl_val (topL_len h),topL_val h]
theorem ladE_is (k:List UInt8){u:List UInt8}(h:isLen u 32=true){n m:Nat}(hn:leNat u=n) (hlt:n < Pq) (hm:quotM (ladM k n)=m):leNat (ladE k u)=m:=by
 rw [ladE_nat k h,hn]
 have hp:Pq < p255:=by decide
 rw [Nat.mod_eq_of_lt (show n < p255 by omega),Nat.mod_eq_of_lt hlt,hm]
theorem isLen_lad (k u:List UInt8):isLen (ladE k u) 32=true:=isLen_eq.2 (ladE_len k u)
theorem nine_val:leNat nine32=9:=by decide
theorem zero_val32:leNat zero32=0:=by decide
end Go.Num
namespace Go.Proofs.YtcplgmgpagekfaaDoor
open Go Go.Eng Go.Num
def p41:List AVal→Option (EffA × Bool)
 | [.str k,.str u]=>some (.pure (.str (ladE k u)),isLen k 32 && isLen u 32)
 | _=>none
theorem p41_ok:CSOk Tryd.prog (csP (psOne 30 p41)):=csP_one fun args v he=>by
 unfold p41 at he
 split at he
 ·simp only [Option.some.injEq,Prod.mk.injEq,Bool.and_eq_true] at he
  obtain ⟨rfl,h⟩:=he
  exact callOk_val nl_ok hmix (run41 _ _ h.1 h.2) rfl rfl
 ·cases he
def p18:List AVal→Option (EffA × Bool)
 | [.str k,.str u]=>some (.pure (.str (ladP k u)),isLen k 32 && isLen u 32)
 | _=>none
theorem p18_ok:CSOk Tryd.prog (csP (psOne 13 p18)):=csP_one fun args v he=>by
 unfold p18 at he
 split at he
 ·simp only [Option.some.injEq,Prod.mk.injEq,Bool.and_eq_true] at he
  obtain ⟨rfl,h⟩:=he
  exact callOk_val nl_ok hmix (run18 _ _ h.1 h.2) rfl rfl
 ·cases he
structure Fh where
 ladE:List UInt8→List UInt8→List UInt8
 ladP:List UInt8→List UInt8→List UInt8
 l32:List UInt8→Bool
def realFh:Fh:=⟨ladE,ladP,fun s=>isLen s 32⟩
def q41 (φ:Fh):List AVal→Option (EffA × Bool)
 | [.str a,.str b]=>some (.pure (.str (φ.ladE a b)),(φ.l32 a && φ.l32 b))
 | _=>none
theorem q41_ok:CSOk Tryd.prog (csP (psOne 30 (q41 realFh))):=csP_one fun args v he=>by
 unfold q41 at he
 split at he
 ·rename_i a b
  simp only [Option.some.injEq,Prod.mk.injEq] at he
  obtain ⟨rfl,h⟩:=he
  have h2:(realFh.l32 a && realFh.l32 b)=true:=h
  refine p41_ok 30 [(.str a),(.str b)] _ ?_
  show cond ((realFh.l32 a && realFh.l32 b)) _ _=_
  rw [h2]; rfl
 ·cases he
def q18 (φ:Fh):List AVal→Option (EffA × Bool)
 | [.str a,.str b]=>some (.pure (.str (φ.ladP a b)),(φ.l32 a && φ.l32 b))
 | _=>none
theorem q18_ok:CSOk Tryd.prog (csP (psOne 13 (q18 realFh))):=csP_one fun args v he=>by
 unfold q18 at he
 split at he
 ·rename_i a b
  simp only [Option.some.injEq,Prod.mk.injEq] at he
  obtain ⟨rfl,h⟩:=he
  have h2:(realFh.l32 a && realFh.l32 b)=true:=h
  refine p18_ok 13 [(.str a),(.str b)] _ ?_
  show cond ((realFh.l32 a && realFh.l32 b)) _ _=_
  rw [h2]; rfl
 ·cases he
def psnh (φ:Fh):PS:=(psAlt (psOne 30 (q41 φ)) (psOne 13 (q18 φ)))
theorem psnh_ok:CSOk Tryd.prog (csP (psnh realFh)):=(csP_alt q41_ok q18_ok)
def chnh (φ:Fh):CS:=cs0
theorem chnh_ok:CSOk Tryd.prog (chnh realFh):=cs0_ok
def nh (φ:Fh):CS:=csAlt (csP (psnh φ)) (chnh φ)
theorem nh_ok:CSOk Tryd.prog (nh realFh):=csAlt_ok psnh_ok chnh_ok
theorem nh_ps (φ:Fh):PSOk (psnh φ) (nh φ):=csP_ok
def shV (l:List UInt8→List UInt8→List UInt8) (k u:List UInt8):List UInt8:=cond (isLen k 32 && isLen u 32) (cond (l k u == zero32) [] (l k u)) []
def shR (l:List UInt8→List UInt8→List UInt8) (k u:List UInt8):Int:=cond (isLen k 32 && isLen u 32) (cond (l k u == zero32) 30 0) 2
def puV (l:List UInt8→List UInt8→List UInt8) (k:List UInt8):List UInt8:=cond (isLen k 32) (l k nine32) []
def puR (k:List UInt8):Int:=cond (isLen k 32) 0 2
theorem v42a (φ:Fh) (k u:List UInt8):ansO (run1O Tryd.prog (psnh φ) (nh φ) [9] [true] [] (mask 31) 200 31 [.str k,.str u] [] Tryd.prog.globals.size)=some (.tup [.str [],.int .i64 2],[((k.length:Int) != 32)]):=by kernel_rfl
theorem v42b (φ:Fh) (k u:List UInt8):ansO (run1O Tryd.prog (psnh φ) (nh φ) [9,13] [false,true] [] (mask 31) 200 31 [.str k,.str u] [] Tryd.prog.globals.size)=some (.tup [.str [],.int .i64 2],[((u.length:Int) != 32),!(((k.length:Int) != 32))]):=by kernel_rfl
theorem v42c (φ:Fh) (k u:List UInt8):ansO (run1O Tryd.prog (psnh φ) (nh φ) [9,13,17,21] [false,false,true] [] (mask 31) 200 31 [.str k,.str u] [] Tryd.prog.globals.size)=some (.tup [.str [],.int .i64 30],[φ.ladE k u == zero32,(φ.l32 k && φ.l32 u),!(((u.length:Int) != 32)),!(((k.length:Int) != 32))]):=by kernel_rfl
theorem v42d (φ:Fh) (k u:List UInt8):ansO (run1O Tryd.prog (psnh φ) (nh φ) [9,13,17,21] [false,false,false] [] (mask 31) 200 31 [.str k,.str u] [] Tryd.prog.globals.size)=some (.tup [.str (φ.ladE k u),.int .i64 0],[!(φ.ladE k u == zero32),(φ.l32 k && φ.l32 u),!(((u.length:Int) != 32)),!(((k.length:Int) != 32))]):=by kernel_rfl
theorem run42 (k u:List UInt8):(run1 Tryd.prog (nh realFh) (mask 31) 200 31 [.str k,.str u] [] Tryd.prog.globals.size).map (·.1)=some (.tup [.str (shV ladE k u),.int .i64 (shR ladE k u)]):=by
 unfold shV shR
 cases hk:isLen k 32
 ·exact ansO_run (nh_ps _) (v42a realFh k u) (by simp [allT,ne32 hk])
 cases hu:isLen u 32
 ·exact ansO_run (nh_ps _) (v42b realFh k u) (by simp [allT,to32 hk,ne32 hu])
 cases hz:(ladE k u == zero32)
 ·exact ansO_run (nh_ps _) (v42d realFh k u) (by simp only [allT,realFh,hk,hu,hz,to32 hk,to32 hu]; rfl)
 ·exact ansO_run (nh_ps _) (v42c realFh k u) (by simp only [allT,realFh,hk,hu,hz,to32 hk,to32 hu]; rfl)
def g42:List AVal→Option EffA
 | [.str a,.str b]=>some (.pure (.tup [.str (shV ladE a b),.int .i64 (shR ladE a b)]))
 | _=>none
theorem g42_ok:CSOk Tryd.prog (csOne 31 g42):=csOne_ok fun args e he=>by
 unfold g42 at he
 split at he
 ·rename_i a b
  cases he
  exact callOk_val nh_ok hmix (run42 a b) rfl rfl
 ·cases he
theorem v20a (φ:Fh) (k:List UInt8):ansO (run1O Tryd.prog (psnh φ) (nh φ) [7] [true] [] (mask 15) 200 15 [.str k] [] Tryd.prog.globals.size)=some (.tup [.str [],.int .i64 2],[((k.length:Int) != 32)]):=by kernel_rfl
theorem v20b (φ:Fh) (k:List UInt8):ansO (run1O Tryd.prog (psnh φ) (nh φ) [7,12] [false] [] (mask 15) 200 15 [.str k] [] Tryd.prog.globals.size)=some (.tup [.str (φ.ladE k nine32),.int .i64 0],[(φ.l32 k && φ.l32 nine32),!(((k.length:Int) != 32))]):=by kernel_rfl
theorem run20 (k:List UInt8):(run1 Tryd.prog (nh realFh) (mask 15) 200 15 [.str k] [] Tryd.prog.globals.size).map (·.1)=some (.tup [.str (puV ladE k),.int .i64 (puR k)]):=by
 unfold puV puR
 cases hk:isLen k 32
 ·exact ansO_run (nh_ps _) (v20a realFh k) (by simp [allT,ne32 hk])
 ·exact ansO_run (nh_ps _) (v20b realFh k) (by simp only [allT,realFh,hk,to32 hk]; rfl)
def g20:List AVal→Option EffA
 | [.str a]=>some (.pure (.tup [.str (puV ladE a),.int .i64 (puR a)]))
 | _=>none
theorem g20_ok:CSOk Tryd.prog (csOne 15 g20):=csOne_ok fun args e he=>by
 unfold g20 at he
 split at he
 ·rename_i a
  cases he
  exact callOk_val nh_ok hmix (run20 a) rfl rfl
 ·cases he
theorem v7a (φ:Fh) (k:List UInt8):ansO (run1O Tryd.prog (psnh φ) (nh φ) [7] [true] [] (mask 7) 200 7 [.str k] [] Tryd.prog.globals.size)=some (.tup [.str [],.int .i64 2],[((k.length:Int) != 32)]):=by kernel_rfl
theorem v7b (φ:Fh) (k:List UInt8):ansO (run1O Tryd.prog (psnh φ) (nh φ) [7,14] [false] [] (mask 7) 200 7 [.str k] [] Tryd.prog.globals.size)=some (.tup [.str (φ.ladP k nine32),.int .i64 0],[(φ.l32 k && φ.l32 nine32),!(((k.length:Int) != 32))]):=by kernel_rfl
theorem run7 (k:List UInt8):(run1 Tryd.prog (nh realFh) (mask 7) 200 7 [.str k] [] Tryd.prog.globals.size).map (·.1)=some (.tup [.str (puV ladP k),.int .i64 (puR k)]):=by
 unfold puV puR
 cases hk:isLen k 32
 ·exact ansO_run (nh_ps _) (v7a realFh k) (by simp [allT,ne32 hk])
 ·exact ansO_run (nh_ps _) (v7b realFh k) (by simp only [allT,realFh,hk,to32 hk]; rfl)
def g7:List AVal→Option EffA
 | [.str a]=>some (.pure (.tup [.str (puV ladP a),.int .i64 (puR a)]))
 | _=>none
theorem g7_ok:CSOk Tryd.prog (csOne 7 g7):=csOne_ok fun args e he=>by
 unfold g7 at he
 split at he
 ·rename_i a
  cases he
  exact callOk_val nh_ok hmix (run7 a) rfl rfl
 ·cases he
end Go.Proofs.YtcplgmgpagekfaaDoor
namespace Go.Proofs.YtcplgmgpagekfaaDoor
open Go Go.Eng Go.Num
structure Fk where
 shV:List UInt8→List UInt8→List UInt8
 shR:List UInt8→List UInt8→Int
 shVd:List UInt8→List UInt8→List UInt8
 shRd:List UInt8→List UInt8→Int
 puV:List UInt8→List UInt8
 puVd:List UInt8→List UInt8
 puR:List UInt8→Int
 l32:List UInt8→Bool
 ofN:List UInt8→N16
 bytesN:N16→List UInt8
def realFk:Fk:=⟨shV ladE,shR ladE,shV ladP,shR ladP,puV ladE,puV ladP,puR,fun s=>isLen s 32,ofP,bytesN⟩
def k42 (φ:Fk):List AVal→Option EffA
 | [.str a,.str b]=>some (.pure (.tup [.str (φ.shV a b),.int .i64 (φ.shR a b)]))
 | _=>none
theorem k42_ok:CSOk Tryd.prog (csOne 31 (k42 realFk)):=csOne_ok fun args e he=>by
 unfold k42 at he
 split at he
 ·rename_i a b
  cases he
  exact g42_ok 31 [(.str a),(.str b)] _ rfl
 ·cases he
def k20 (φ:Fk):List AVal→Option EffA
 | [.str a]=>some (.pure (.tup [.str (φ.puV a),.int .i64 (φ.puR a)]))
 | _=>none
theorem k20_ok:CSOk Tryd.prog (csOne 15 (k20 realFk)):=csOne_ok fun args e he=>by
 unfold k20 at he
 split at he
 ·rename_i a
  cases he
  exact g20_ok 15 [(.str a)] _ rfl
 ·cases he
def k7 (φ:Fk):List AVal→Option EffA
 | [.str a]=>some (.pure (.tup [.str (φ.puVd a),.int .i64 (φ.puR a)]))
 | _=>none
theorem k7_ok:CSOk Tryd.prog (csOne 7 (k7 realFk)):=csOne_ok fun args e he=>by
 unfold k7 at he
 split at he
 ·rename_i a
  cases he
  exact g7_ok 7 [(.str a)] _ rfl
 ·cases he
end Go.Proofs.YtcplgmgpagekfaaDoor
namespace Go.Eng
open Go
theorem nmV_plain {v:AVal}(h:ltS 0 v=true):nmV v=[]:=by
 have h0:∀ n:Nat,Nat.ble (n+1) 0=false:=fun n=>rfl
 cases v <;> first | rfl | (simp only [ltS,h0] at h; done) | skip
 all_goals simp only [ltS,h0] at h
 all_goals first | cases h | skip
 all_goals (rename_i cs; cases cs <;> first | rfl | cases h)
theorem nmL_plain:∀ {c:List AVal},ltL 0 c=true→c.flatMap nmV=[]
 | [],_=>rfl
 | v::c,h=>by
  simp only [ltL] at h
  cases hv:ltS 0 v <;> rw [hv] at h <;> simp only [cond_true,cond_false] at h
  ·cases h
  ·rw [List.flatMap_cons,nmV_plain hv,nmL_plain h]; rfl
theorem cnV_plain {G:Nat}{ns:List Nat}{v:AVal}(h:ltS 0 v=true):cnV G ns v=some v:=by
 have h0:∀ n:Nat,Nat.ble (n+1) 0=false:=fun n=>rfl
 cases v <;> first | rfl | (simp only [ltS,h0] at h; done) | skip
 all_goals simp only [ltS,h0] at h
 all_goals first | cases h | skip
 all_goals (rename_i cs; cases cs <;> first | rfl | cases h)
theorem cnW_plain {G:Nat}{ns:List Nat}:∀ {c:List AVal},ltL 0 c=true→cnW G ns c=some c
 | [],_=>rfl
 | v::c,h=>by
  simp only [ltL] at h
  cases hv:ltS 0 v <;> rw [hv] at h <;> simp only [cond_true,cond_false] at h
  ·cases h
  ·simp only [cnW,cnV_plain hv,cnW_plain h]
theorem unS_plain {G:Nat}{ns:List Nat}{v:AVal}(h:ltS 0 v=true):unS G ns v=some v:=by
 have h0:∀ n:Nat,Nat.ble (n+1) 0=false:=fun n=>rfl
 cases v <;> first | rfl | (simp only [ltS,h0] at h; done) | skip
 all_goals simp only [ltS,h0] at h
 all_goals first | cases h | skip
 all_goals (rename_i cs; cases cs <;> first | rfl | cases h)
theorem unW_plain {G:Nat}{ns:List Nat}:∀ {c:List AVal},ltL 0 c=true→unW G ns c=some c
 | [],_=>rfl
 | v::c,h=>by
  simp only [ltL] at h
  cases hv:ltS 0 v <;> rw [hv] at h <;> simp only [cond_true,cond_false] at h
  ·cases h
  ·simp only [unW,unS_plain hv,unW_plain h]
theorem one_app {P:Program}{cs:CS}{g nn F:Nat}{f:FuncId}{n base G:Nat}{xs c c' ct:List AVal}{v:AVal}{H:HL}(hG:P.globals.size=G)
  (hr:ansR [G] (run1 P cs nn F f (.ptr G 0::xs) [(g,.cells true ct),(G,.cells false c)] (G+1))=some (v,[some (.cells false c')]))
  (h0:aget H g=some (.cells true ct)) (hn:aget H n=some (.cells false c)) (hct:ltL 0 ct=true) (hx:ltL 0 xs=true) (hc:ltL 0 c=true) (hc':ltL 0 c'=true) (hv:unS G [n] v=some v) :
  (inlS P cs g nn F f 1 1 (.ptr n 0::xs)).app base H=some (v,aset H n (.cells false c')):=by
 have hns:reach (aget H) (.ptr n 0::xs)=[n]:=by
  unfold reach
  simp only [List.flatMap_cons,nmL_plain hx]
  have e1:addN [] (nmV (.ptr n 0)++[])=[n]:=rfl
  rw [e1]
  have e2:[n].flatMap (lead (aget H))=[]:=by
   simp only [List.flatMap_cons,List.flatMap_nil,lead,hn,nmL_plain hc,List.append_nil]
  rw [e2]
  show addN [n] ([n].flatMap (lead (aget H)))=[n]
  rw [e2]; rfl
 have hb:blD G (aget H) [n] [n] 0=some [(G,.cells false c)]:=by
  unfold blD
  rw [hn]
  simp only [blD,cnW_plain hc,Nat.add_zero]
 have hcn:cnW G [n] (.ptr n 0::xs)=some (.ptr G 0::xs):=by
  have e:cnV G [n] (.ptr n 0)=some (.ptr G 0):=by
   have:posN n [n] 0=some 0:=by
    unfold posN
    simp
   unfold cnV cnS
   simp only [this,Nat.add_zero]
  unfold cnW
  rw [e,cnW_plain hx]
 have hk:bkL G [n] [n] [some (.cells false c')]=some [(n,some (.cells false c'))]:=by
  simp only [bkL,unW_plain hc']
 exact inlS_run (ns:=[n]) (m:=1) (k:=1) hr h0 hct rfl hG hns rfl hcn hb hv hk
end Go.Eng
