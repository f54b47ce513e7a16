/- Texts Num5, Num8, Qn3, Qn4, Qn5, Num9: what they show that this claim uses. -/
import Derived.Test.YtanaackimepkdaaGreatDoorP11
import Derived.Test.YtanaackimepkdaaGreatDoorP6
set_option maxRecDepth 100000
set_option maxHeartbeats 1000000
set_option linter.unusedVariables false
set_option linter.unusedSimpArgs false
namespace Go.Num
open Go Go.Eng
def val16:List UInt64→Nat
 | []=>0
 | x::l=>x.toNat+65536 * val16 l
def ok16:List UInt64→Prop
 | []=>True
 | x::l=>x.toNat < 65536∧ok16 l
def N16.val (a:N16):Nat:=val16 a.list
def N16.ok (a:N16):Prop:=ok16 a.list
theorem list_ofL {l:List UInt64}(h:l.length=16):(N16.ofL l).list=l:=
 match l,h with
 | [_,_,_,_,_,_,_,_,_,_,_,_,_,_,_,_],_=>rfl
theorem ofL_list (a:N16):N16.ofL a.list=a:=rfl
theorem list_len (a:N16):a.list.length=16:=rfl
theorem val16_lt:∀ {l:List UInt64},ok16 l→val16 l < 65536 ^ l.length
 | [],_=>by simp [val16]
 | x::l,h=>by
  have:=val16_lt h.2
  have h1:=h.1
  simp only [val16,List.length_cons,Nat.pow_succ]
  omega
theorem N16.val_lt {a:N16}(h:a.ok):a.val < 65536 ^ 16:=val16_lt h
theorem val16_inj:∀ {l m:List UInt64},ok16 l→ok16 m→l.length=m.length→val16 l=val16 m→l=m
 | [],[],_,_,_,_=>rfl
 | [],_::_,_,_,h,_=>by cases h
 | _::_,[],_,_,h,_=>by cases h
 | x::l,y::m,h1,h2,h,e=>by
  have a:=h1.1
  have b:=h2.1
  simp only [val16] at e
  have e1:x=y:=UInt64.toNat_inj.1 (by omega)
  have e2:l=m:=val16_inj h1.2 h2.2 (by simpa using h) (by omega)
  rw [e1,e2]
theorem N16.ext_val {a b:N16}(ha:a.ok) (hb:b.ok) (h:a.val=b.val):a=b:=by
 have:=val16_inj ha hb rfl h
 rw [← ofL_list a,← ofL_list b,this]
theorem low16 (x:UInt64):(x &&& 65535).toNat=x.toNat % 65536:=and_nat x 16 _ rfl
theorem high16 (x:UInt64):(shr_u64 x 16).toNat=x.toNat / 65536:=shr_u64_nat x 16 (by omega)
theorem minusL_len:∀ (l m:List UInt64) (c:UInt64),l.length=m.length→(minusL l m c).length=l.length
 | [],[],_,_=>rfl
 | [],_::_,_,h=>by cases h
 | _::_,[],_,h=>by cases h
 | _::l,_::m,c,h=>by simp only [minusL,List.length_cons]; rw [minusL_len l m _ (by simpa using h)]
theorem minusL_val:∀ (l m:List UInt64) (c:UInt64),l.length=m.length→ok16 l→ok16 m→c.toNat≤1→ok16 (minusL l m c)∧∃ k,k≤1∧val16 (minusL l m c)+val16 m+c.toNat=val16 l+65536 ^ l.length * k
 | [],[],c,_,_,_,hc=>⟨trivial,c.toNat,hc,by simp [minusL,val16]⟩
 | [],_::_,_,h,_,_,_=>by cases h
 | _::_,[],_,h,_,_,_=>by cases h
 | x::l,y::m,c,hl,h1,h2,hc=>by
  have hx:=h1.1
  have hy:=h2.1
  have e:(65536+x - y - c).toNat=65536+x.toNat - y.toNat - c.toNat:=by
   rw [UInt64.toNat_sub,UInt64.toNat_sub,UInt64.toNat_add]
   have e2:(65536:UInt64).toNat=65536:=rfl
   rw [e2]
   simp only [Nat.reducePow]
   omega
  have hlo:=low16 (65536+x - y - c)
  have hhi:=high16 (65536+x - y - c)
  have hb:(1 - shr_u64 (65536+x - y - c) 16).toNat=1 - (shr_u64 (65536+x - y - c) 16).toNat:=by
   rw [UInt64.toNat_sub,hhi,e]
   have e2:(1:UInt64).toNat=1:=rfl
   rw [e2]
   simp only [Nat.reducePow]
   omega
  rw [e] at hlo hhi
  rw [hhi] at hb
  obtain ⟨o,k,hk,hv⟩:=minusL_val l m (1 - shr_u64 (65536+x - y - c) 16) (by simpa using hl) h1.2 h2.2 (by omega)
  refine ⟨⟨by omega,o⟩,k,hk,?_⟩
  simp only [minusL,val16,List.length_cons,Nat.pow_succ]
  rw [hb] at hv
  rw [hlo]
  have:65536 ^ l.length * 65536 * k=65536 * (65536 ^ l.length * k):=by rw [Nat.mul_right_comm,Nat.mul_comm]
  rw [this]
  generalize 65536 ^ l.length * k=q at *
  omega
theorem minusN_val (a b:N16) (ha:a.ok) (hb:b.ok) (hle:b.val≤a.val):(minusN a b).ok∧(minusN a b).val=a.val - b.val:=by
 obtain ⟨o,k,hk,hv⟩:=minusL_val a.list b.list 0 rfl ha hb (by decide)
 have e:(minusN a b).list=minusL a.list b.list 0:=list_ofL (by rw [minusL_len a.list b.list 0 rfl]; rfl)
 have hlt:=val16_lt o
 have hl:(minusL a.list b.list 0).length=16:=by rw [minusL_len a.list b.list 0 rfl]; rfl
 rw [hl] at hlt
 refine ⟨by unfold N16.ok; rw [e]; exact o,?_⟩
 have hl2:a.list.length=16:=rfl
 rw [hl2] at hv
 have hz:(0:UInt64).toNat=0:=rfl
 unfold N16.val at *
 rw [e]
 have:k=0:=by
  rcases Nat.eq_zero_or_pos k with h0 | h0
  ·exact h0
  ·have:k=1:=by omega
   subst this
   omega
 subst this
 omega
def valB:List UInt64→Nat
 | []=>0
 | x::l=>x.toNat * 65536 ^ l.length+valB l
theorem valB_snoc:∀ (l:List UInt64) (x:UInt64),valB (l++[x])=65536 * valB l+x.toNat
 | [],x=>by simp [valB]
 | y::l,x=>by
  have e:y.toNat * (65536 ^ l.length * 65536)=65536 * (y.toNat * 65536 ^ l.length):=by rw [← Nat.mul_assoc,Nat.mul_comm]
  have e2:valB (y::(l++[x]))=y.toNat * 65536 ^ (l++[x]).length+valB (l++[x]):=rfl
  have e3:(l++[x]).length=l.length+1:=by simp
  rw [List.cons_append,e2,valB_snoc l x,e3,Nat.pow_succ,e]
  show _=65536 * (y.toNat * 65536 ^ l.length+valB l)+x.toNat
  omega
theorem valB_rev:∀ l:List UInt64,valB l.reverse=val16 l
 | []=>rfl
 | x::l=>by
  rw [List.reverse_cons,valB_snoc,valB_rev l,val16]; omega
theorem ok16_iff:∀ {l:List UInt64},ok16 l ↔ ∀ x ∈ l,x.toNat < 65536
 | []=>by simp [ok16]
 | x::l=>by simp [ok16,ok16_iff (l:=l)]
theorem valB_lt:∀ {l:List UInt64},ok16 l→valB l < 65536 ^ l.length
 | [],_=>by simp [valB]
 | x::l,h=>by
  have:=valB_lt h.2
  have h1:=h.1
  simp only [valB,List.length_cons,Nat.pow_succ]
  have:x.toNat * 65536 ^ l.length+65536 ^ l.length≤65536 ^ l.length * 65536:=by
   rw [← Nat.succ_mul,Nat.mul_comm]
   exact Nat.mul_le_mul_left _ (by omega)
  omega
theorem lessL_eq:∀ (l m:List UInt64),l.length=m.length→ok16 l→ok16 m→lessL l m=decide (valB l < valB m)
 | [],[],_,_,_=>by simp [lessL,valB]
 | [],_::_,h,_,_=>by cases h
 | _::_,[],h,_,_=>by cases h
 | x::l,y::m,h,h1,h2=>by
  have hl:l.length=m.length:=by simpa using h
  have ih:=lessL_eq l m hl h1.2 h2.2
  have b1:=valB_lt h1.2
  have b2:=valB_lt h2.2
  rw [Bool.eq_iff_iff,decide_eq_true_iff]
  simp only [lessL,valB]
  rw [hl] at b1 ⊢
  by_cases he:x=y
  ·subst he
   simp only [bne_self_eq_false,cond_false,ih,decide_eq_true_iff]
   omega
  ·have hne:(x != y)=true:=by simpa using he
   rw [hne,cond_true,decide_eq_true_iff,UInt64.lt_iff_toNat_lt]
   have hne2:x.toNat ≠ y.toNat:=fun e=>he (UInt64.toNat_inj.1 e)
   generalize hq:65536 ^ m.length=q at *
   constructor
   ·intro hlt
    have:(x.toNat+1) * q≤y.toNat * q:=Nat.mul_le_mul_right _ hlt
    rw [Nat.succ_mul] at this
    omega
   ·intro hlt
    rcases Nat.lt_or_ge x.toNat y.toNat with h3 | h3
    ·exact h3
    ·have:(y.toNat+1) * q≤x.toNat * q:=Nat.mul_le_mul_right _ (by omega)
     rw [Nat.succ_mul] at this
     omega
theorem ok16_rev {l:List UInt64}(h:ok16 l):ok16 l.reverse:=ok16_iff.2 fun x hx=>ok16_iff.1 h x (List.mem_reverse.1 hx)
theorem lessN_eq (a b:N16) (ha:a.ok) (hb:b.ok):lessN a b=decide (a.val < b.val):=by
 unfold lessN
 rw [lessL_eq a.list.reverse b.list.reverse rfl (ok16_rev (l:=a.list) ha) (ok16_rev (l:=b.list) hb),valB_rev,valB_rev]; rfl
theorem zeroN_ok:zeroN.ok:=by
 rw [N16.ok,ok16_iff]
 decide
theorem zeroN_val:zeroN.val=0:=by kernel_rfl
theorem pow16:(65536:Nat) ^ 16=115792089237316195423570985008687907853269984665640564039457584007913129639936:=by decide
theorem leNat_lt:∀ s:List UInt8,leNat s < 2 ^ (8 * s.length)
 | []=>by simp [leNat]
 | c::l=>by
  have:=leNat_lt l
  have hc:=c.toNat_lt
  simp only [leNat,List.length_cons]
  rw [show 8 * (l.length+1)=8 * l.length+8 by omega,Nat.pow_add]
  simp only [Nat.reducePow] at *
  omega
theorem two_bytes (a b:UInt8):(0 ||| shl_u64 a.toUInt64 0 ||| shl_u64 b.toUInt64 8).toNat=a.toNat+256 * b.toNat:=by
 have ha:=a.toNat_lt
 have hb:=b.toNat_lt
 rw [UInt64.toNat_or,UInt64.toNat_or,shl_u64_nat _ 0 (by omega),shl_u64_nat _ 8 (by omega),UInt8.toNat_toUInt64,UInt8.toNat_toUInt64]
 have e0:(0:UInt64).toNat=0:=rfl
 rw [e0,Nat.zero_or]
 simp only [Nat.reducePow,Nat.mul_one] at *
 rw [Nat.mod_eq_of_lt (by omega),Nat.mod_eq_of_lt (by omega)]
 have:=Nat.shiftLeft_add_eq_or_of_lt (b:=a.toNat) (i:=8) (by simpa using ha) b.toNat
 rw [Nat.shiftLeft_eq] at this
 rw [Nat.or_comm,← this]
 omega
theorem partsL_val:∀ s:List UInt8,s.length % 2=0→ok16 (partsL s)∧val16 (partsL s)=leNat s∧(partsL s).length=s.length / 2
 | [],_=>⟨trivial,rfl,rfl⟩
 | [_],h=>by cases h
 | a::b::l,h=>by
  obtain ⟨o,e,el⟩:=partsL_val l (by simpa [Nat.add_assoc] using h)
  have ha:=a.toNat_lt
  have hb:=b.toNat_lt
  simp only [Nat.reducePow] at *
  have ht:=two_bytes a b
  refine ⟨⟨by omega,o⟩,?_,?_⟩
  ·simp only [partsL,val16,leNat,ht,e]; omega
  ·simp only [partsL,List.length_cons,el]; omega
theorem partsN_val (s:List UInt8) (h:s.length=32):(partsN s).ok∧(partsN s).val=leNat s:=by
 obtain ⟨o,e,el⟩:=partsL_val s (by omega)
 have hl:(partsN s).list=partsL s:=list_ofL (by omega)
 exact ⟨by unfold N16.ok; rw [hl]; exact o,by unfold N16.val; rw [hl]; exact e⟩
theorem spread:∀ l:List UInt64,ok16 l→leNat (l.flatMap fun x=>[(shr_u64 x 0).toUInt8,(shr_u64 x 8).toUInt8])=val16 l
 | [],_=>rfl
 | x::l,h=>by
  have ih:=spread l h.2
  have hx:=h.1
  simp only [List.flatMap_cons,List.cons_append,List.nil_append,leNat,toU8_nat,shr_u64_nat x 0 (by omega),shr_u64_nat x 8 (by omega),ih,val16,Nat.reducePow]
  omega
theorem bytesN_val (a:N16) (h:a.ok):leNat (bytesN a)=a.val:=spread a.list h
theorem bytesN_len (a:N16):(bytesN a).length=32:=rfl
theorem sumL_val:∀ (l m:List UInt64),l.length=m.length→ok16 l→ok16 m→val16 (sumL l m)=val16 l+val16 m∧(sumL l m).length=l.length∧∀ x ∈ sumL l m,x.toNat < 281474976710656
 | [],[],_,_,_=>⟨rfl,rfl,by simp [sumL]⟩
 | [],_::_,h,_,_=>by cases h
 | _::_,[],h,_,_=>by cases h
 | x::l,y::m,h,h1,h2=>by
  obtain ⟨e,el,b⟩:=sumL_val l m (by simpa using h) h1.2 h2.2
  have hx:=h1.1
  have hy:=h2.1
  have es:(x+y).toNat=x.toNat+y.toNat:=by
   rw [UInt64.toNat_add]
   simp only [Nat.reducePow]
   omega
  refine ⟨by simp only [sumL,val16,es,e]; omega,by simp only [sumL,List.length_cons,el],fun z hz => ?_⟩
  simp only [sumL,List.mem_cons] at hz
  rcases hz with rfl | hz
  ·omega
  ·exact b z hz
theorem val16_append:∀ (l m:List UInt64),val16 (l++m)=val16 l+65536 ^ l.length * val16 m
 | [],m=>by simp [val16]
 | x::l,m=>by
  simp only [List.cons_append,val16,val16_append l m,List.length_cons,Nat.pow_succ]
  rw [Nat.mul_add,Nat.mul_comm (65536 ^ l.length) 65536,Nat.mul_assoc]
  omega
theorem val16_zeros:∀ n,val16 (List.replicate n 0)=0
 | 0=>rfl
 | n+1=>by simp only [List.replicate_succ,val16,val16_zeros n]; rfl
theorem rowL_val:∀ (x:UInt64) (t b:List UInt64) (M:Nat),x.toNat < 65536→ok16 b→b.length≤t.length→(∀ y ∈ t,y.toNat≤M)→M < 4611686018427387904 →
  val16 (rowL x t b)=val16 t+x.toNat * val16 b∧(rowL x t b).length=t.length∧∀ y ∈ rowL x t b,y.toNat≤M+4294836225
 | x,t,[],M,hx,hb,hl,ht,hM=>by
  refine ⟨by simp [rowL,val16],by simp [rowL],fun y hy => ?_⟩
  have:y ∈ t:=by simpa [rowL] using hy
  have:=ht y this
  omega
 | x,[],_::_,M,hx,hb,hl,ht,hM=>by simp at hl
 | x,z::t,y::b,M,hx,hb,hl,ht,hM=>by
  obtain ⟨e,el,bd⟩:=rowL_val x t b M hx hb.2 (by simpa using hl) (fun w hw=>ht w (List.mem_cons_of_mem _ hw)) hM
  have hy:=hb.1
  have hz:=ht z List.mem_cons_self
  have hp:x.toNat * y.toNat≤65535 * 65535:=Nat.mul_le_mul (by omega) (by omega)
  have es:(z+x * y).toNat=z.toNat+x.toNat * y.toNat:=by
   rw [UInt64.toNat_add,UInt64.toNat_mul]
   simp only [Nat.reducePow]
   omega
  refine ⟨?_,by simp only [rowL,List.length_cons,el],fun w hw => ?_⟩
  ·simp only [rowL,val16,es,e]
   have:x.toNat * (y.toNat+65536 * val16 b)=x.toNat * y.toNat+65536 * (x.toNat * val16 b):=by rw [Nat.mul_add,Nat.mul_left_comm]
   rw [this]
   omega
  ·simp only [rowL,List.mem_cons] at hw
   rcases hw with rfl | hw
   ·omega
   ·exact bd w hw
theorem prodL_val:∀ (l b t:List UInt64) (M:Nat),ok16 l→ok16 b→0 < b.length→l.length+b.length≤t.length→(∀ y ∈ t,y.toNat≤M)→M+l.length * 4294836225 < 4611686018427387904 →
  val16 (prodL l b t)=val16 t+val16 l * val16 b∧(prodL l b t).length=t.length∧∀ y ∈ prodL l b t,y.toNat≤M+l.length * 4294836225
 | [],b,t,M,hl,hb,hpos,hlen,ht,hM=>by
  refine ⟨by simp [prodL,val16],by simp [prodL],fun y hy => ?_⟩
  have:=ht y (by simpa [prodL] using hy)
  omega
 | x::l,b,t,M,hl,hb,hpos,hlen,ht,hM=>by
  simp only [List.length_cons] at hlen hM
  obtain ⟨e,el,bd⟩:=rowL_val x t b M hl.1 hb (by omega) ht (by omega)
  have hne:t.length ≠ 0:=by omega
  cases hr:rowL x t b with
  | nil=>rw [hr] at el; simp at el; omega
  | cons h r =>
   rw [hr] at e el bd
   simp only [List.length_cons] at el
   obtain ⟨e2,el2,bd2⟩:=prodL_val l b r (M+4294836225) hl.2 hb hpos (by omega) (fun y hy=>bd y (List.mem_cons_of_mem _ hy)) (by omega)
   have e3:prodL (x::l) b t=h::prodL l b r:=by simp only [prodL,hr]
   rw [e3]
   simp only [val16] at e ⊢
   refine ⟨?_,by simp only [List.length_cons,el2]; exact el,fun y hy => ?_⟩
   ·rw [e2,Nat.mul_add,Nat.add_mul,Nat.mul_assoc]
    omega
   ·simp only [List.length_cons]
    rcases List.mem_cons.1 hy with rfl | hy
    ·have:=bd y List.mem_cons_self
     omega
    ·have:=bd2 y hy
     omega
end Go.Num
namespace Go.Num
open Go Go.Eng
def Pq:Nat:=57896044618658097711785492504343953926634992332820282019728792003956564819949
theorem Pq_pos:0 < Pq:=by decide
theorem primeN_ok:primeN.ok:=by
 rw [N16.ok,ok16_iff]
 decide
theorem primeN_val:primeN.val=Pq:=by kernel_rfl
theorem bndL_iff {l:List UInt64}:bndL l=true ↔ ∀ x ∈ l,x.toNat < 281474976710656:=by
 unfold bndL
 rw [List.all_eq_true]
 constructor
 ·intro h x hx
  have:=h x hx
  rw [decide_eq_true_iff,UInt64.lt_iff_toNat_lt] at this
  exact this
 ·intro h x hx
  rw [decide_eq_true_iff,UInt64.lt_iff_toNat_lt]
  exact h x hx
theorem okB_iff {a:N16}:okB a=true ↔ a.ok:=by
 unfold okB N16.ok
 rw [List.all_eq_true,ok16_iff]
 constructor
 ·intro h x hx
  have:=h x hx
  rw [decide_eq_true_iff,UInt64.lt_iff_toNat_lt] at this
  exact this
 ·intro h x hx
  rw [decide_eq_true_iff,UInt64.lt_iff_toNat_lt]
  exact h x hx
theorem carryL_len:∀ (l:List UInt64) (c:UInt64),(carryL l c).1.length=l.length
 | [],_=>rfl
 | x::l,c=>by simp only [carryL,List.length_cons,carryL_len l]
theorem carryL_val:∀ (l:List UInt64) (c:UInt64),(∀ x ∈ l,x.toNat < 281474976710656)→c.toNat < 281474976710656→ok16 (carryL l c).1∧val16 (carryL l c).1+65536 ^ l.length * (carryL l c).2.toNat=val16 l+c.toNat∧(carryL l c).2.toNat < 281474976710656
 | [],c,_,hc=>⟨trivial,by simp [carryL,val16],hc⟩
 | x::l,c,h,hc=>by
  have hx:=h x List.mem_cons_self
  have e:(x+c).toNat=x.toNat+c.toNat:=by
   rw [UInt64.toNat_add]
   simp only [Nat.reducePow]
   omega
  have hlo:=low16 (x+c)
  have hhi:=high16 (x+c)
  rw [e] at hlo hhi
  obtain ⟨o,hk,hb⟩:=carryL_val l (shr_u64 (x+c) 16) (fun y hy=>h y (List.mem_cons_of_mem _ hy)) (by omega)
  refine ⟨⟨by omega,o⟩,?_,hb⟩
  simp only [carryL,val16,List.length_cons,Nat.pow_succ]
  rw [hhi] at hk
  rw [hlo]
  have:65536 ^ l.length * 65536 * (carryL l (shr_u64 (x+c) 16)).2.toNat=65536 * (65536 ^ l.length * (carryL l (shr_u64 (x+c) 16)).2.toNat):=by rw [Nat.mul_right_comm,Nat.mul_comm]
  rw [this]
  generalize 65536 ^ l.length * (carryL l (shr_u64 (x+c) 16)).2.toNat=q at *
  omega
theorem carryL_same:∀ (l:List UInt64),ok16 l→carryL l 0=(l,0)
 | [],_=>rfl
 | x::l,h=>by
  have hx:=h.1
  have e0:x+0=x:=by simp
  have e1:x &&& 65535=x:=UInt64.toNat_inj.1 (by rw [low16]; omega)
  have e2:shr_u64 x 16=0:=UInt64.toNat_inj.1 (by rw [high16]; show _=0; omega)
  simp only [carryL,e0,e1,e2,carryL_same l h.2]
theorem foldL_val:∀ (l m:List UInt64),l.length=m.length→ok16 l→ok16 m→val16 (foldL l m)=val16 l+38 * val16 m∧(foldL l m).length=l.length∧∀ x ∈ foldL l m,x.toNat < 2621440
 | [],[],_,_,_=>⟨rfl,rfl,by simp [foldL]⟩
 | [],_::_,h,_,_=>by cases h
 | _::_,[],h,_,_=>by cases h
 | x::l,y::m,h,h1,h2=>by
  obtain ⟨e,el,b⟩:=foldL_val l m (by simpa using h) h1.2 h2.2
  have hx:=h1.1
  have hy:=h2.1
  have es:(x+38 * y).toNat=x.toNat+38 * y.toNat:=by
   rw [UInt64.toNat_add,UInt64.toNat_mul]
   have e38:(38:UInt64).toNat=38:=rfl
   rw [e38]
   simp only [Nat.reducePow]
   omega
  refine ⟨by simp only [foldL,val16,es,e]; omega,by simp only [foldL,List.length_cons,el],fun z hz => ?_⟩
  simp only [foldL,List.mem_cons] at hz
  rcases hz with rfl | hz
  ·omega
  ·exact b z hz
theorem ok16_take:∀ {l:List UInt64}(n:Nat),ok16 l→ok16 (l.take n):=fun {l} n h=>ok16_iff.2 fun x hx=>ok16_iff.1 h x (List.mem_of_mem_take hx)
theorem ok16_drop:∀ {l:List UInt64}(n:Nat),ok16 l→ok16 (l.drop n):=fun {l} n h=>ok16_iff.2 fun x hx=>ok16_iff.1 h x (List.mem_of_mem_drop hx)
theorem N32.list_len (t:N32):t.list.length=32:=rfl
def N32.val (t:N32):Nat:=val16 t.list
theorem pow32:(65536:Nat) ^ 32=13407807929942597099574024998205846127479365820592393377723561443721764030073546976801874298166903427690031858186486050853753882811946569946433649006084096:=by decide
theorem pass1_val (t:N32) (h:∀ x ∈ t.list,x.toNat < 281474976710656) :
  (pass1 t).lo.val=t.val % 65536 ^ 16+38 * (t.val / 65536 ^ 16 % 65536 ^ 16)+1444 * (t.val / 65536 ^ 32)∧(pass1 t).hi=zeroN∧t.val / 65536 ^ 32 < 281474976710656 ∧
  (∀ x ∈ (pass1 t).lo.list,x.toNat < 2621440+1444 * (t.val / 65536 ^ 32)):=by
 obtain ⟨o,hv,hc⟩:=carryL_val t.list 0 h (by decide)
 have hz:(0:UInt64).toNat=0:=rfl
 rw [hz,Nat.add_zero,t.list_len] at hv
 have hlen:(carryL t.list 0).1.length=32:=by rw [carryL_len]; rfl
 generalize hr:carryL t.list 0=r at *
 obtain ⟨r1,c⟩:=r
 simp only at o hv hc hlen
 have hlt:=val16_lt o
 rw [hlen] at hlt
 have hsplit:val16 r1=val16 (r1.take 16)+65536 ^ 16 * val16 (r1.drop 16):=by
  have e:=val16_append (r1.take 16) (r1.drop 16)
  rw [List.take_append_drop] at e
  rw [e,List.length_take,hlen]
  rfl
 have l1:(r1.take 16).length=16:=by rw [List.length_take,hlen]; rfl
 have l2:(r1.drop 16).length=16:=by rw [List.length_drop,hlen]
 have b1:=val16_lt (ok16_take 16 o)
 have b2:=val16_lt (ok16_drop 16 o)
 rw [l1] at b1
 rw [l2] at b2
 obtain ⟨fv,fl,fb⟩:=foldL_val (r1.take 16) (r1.drop 16) (by rw [l1,l2]) (ok16_take 16 o) (ok16_drop 16 o)
 have hval:t.val=val16 r1+65536 ^ 32 * c.toNat:=hv.symm
 have d32:t.val / 65536 ^ 32=c.toNat:=by
  rw [hval,pow32] at *
  omega
 have d16:t.val % 65536 ^ 16=val16 (r1.take 16)∧t.val / 65536 ^ 16 % 65536 ^ 16=val16 (r1.drop 16):=by
  rw [hval,hsplit]
  rw [pow16] at *
  rw [pow32] at *
  omega
 rw [d32,d16.1,d16.2]
 have e1444:(1444:UInt64).toNat=1444:=rfl
 have hm:(1444 * c).toNat=1444 * c.toNat:=by
  rw [UInt64.toNat_mul,e1444]
  simp only [Nat.reducePow]
  omega
 have hp:pass1 t=⟨N16.ofL (headL (foldL (r1.take 16) (r1.drop 16)) fun x=>x+1444 * c),zeroN⟩:=by
  unfold pass1
  rw [hr]
 rw [hp]
 generalize hf:foldL (r1.take 16) (r1.drop 16)=f at *
 rw [l1] at fl
 cases f with
 | nil=>cases fl
 | cons x f =>
  have hx:=fb x List.mem_cons_self
  have es:(x+1444 * c).toNat=x.toNat+1444 * c.toNat:=by
   rw [UInt64.toNat_add,hm]
   simp only [Nat.reducePow]
   omega
  have hl:(N16.ofL (headL (x::f) fun x=>x+1444 * c)).list=(x+1444 * c)::f:=list_ofL (by simp only [headL,List.length_cons] at fl ⊢; exact fl)
  refine ⟨?_,rfl,hc,fun y hy => ?_⟩
  ·unfold N16.val
   simp only
   rw [hl]
   simp only [val16] at fv ⊢
   rw [es]
   omega
  ·simp only at hy
   rw [hl] at hy
   rcases List.mem_cons.1 hy with rfl | hy
   ·omega
   ·have:=fb y (List.mem_cons_of_mem _ hy)
    omega
theorem mod38 (a b c:Nat):(a+38 * b+1444 * c) % Pq=(a+65536 ^ 16 * b+65536 ^ 32 * c) % Pq:=by
 have e1:(65536:Nat) ^ 16=2 * Pq+38:=by decide
 have e2:(65536:Nat) ^ 32=(2 * (2 * Pq)+152) * Pq+1444:=by decide
 rw [e1,e2]
 have:a+(2 * Pq+38) * b+((2 * (2 * Pq)+152) * Pq+1444) * c=(a+38 * b+1444 * c)+Pq * (2 * b+(2 * (2 * Pq)+152) * c):=by
  rw [Nat.mul_add,Nat.add_mul,Nat.add_mul]
  have h1:Pq * (2 * b)=2 * Pq * b:=by rw [Nat.mul_left_comm,Nat.mul_assoc]
  have h2:Pq * ((2 * (2 * Pq)+152) * c)=(2 * (2 * Pq)+152) * Pq * c:=by rw [← Nat.mul_assoc,Nat.mul_comm Pq]
  rw [h1,h2]
  omega
 rw [this,Nat.add_mul_mod_self_left]
theorem split3 (V B:Nat):V % B+B * (V / B % B)+B * B * (V / (B * B))=V:=by
 have h1:=Nat.div_add_mod V B
 have h2:=Nat.div_add_mod (V / B) B
 rw [Nat.div_div_eq_div_mul] at h2
 have h3:B * (B * (V / (B * B))+V / B % B)=B * (V / B):=by rw [h2]
 rw [Nat.mul_add,← Nat.mul_assoc] at h3
 omega
theorem pow32s:(65536:Nat) ^ 32=65536 ^ 16 * 65536 ^ 16:=by decide
theorem pass1_mod (t:N32) (h:∀ x ∈ t.list,x.toNat < 281474976710656):(pass1 t).lo.val % Pq=t.val % Pq:=by
 rw [(pass1_val t h).1,mod38,pow32s,split3]
theorem N32.val_lo (n:N16):N32.val ⟨n,zeroN⟩=n.val:=by
 unfold N32.val N32.list
 have e:val16 zeroN.list=0:=by kernel_rfl
 rw [val16_append,e,Nat.mul_zero,Nat.add_zero]; rfl
theorem N32.mem_lo {n:N16}{B:Nat}(h:∀ x ∈ n.list,x.toNat < B) (hB:0 < B):∀ x ∈ N32.list ⟨n,zeroN⟩,x.toNat < B:=fun x hx=>by
 rcases List.mem_append.1 hx with hx | hx
 ·exact h x hx
 ·have:x=0:=by
   simp only [zeroN,N16.list,List.mem_cons,List.not_mem_nil,or_false] at hx
   rcases hx with h | h | h | h | h | h | h | h | h | h | h | h | h | h | h | h <;> exact h
  rw [this]; exact hB
theorem pass2_same (n:N16) (h:n.ok):pass2 n=n:=by
 unfold pass2
 rw [carryL_same _ h]
 obtain ⟨a0,a1,a2,a3,a4,a5,a6,a7,a8,a9,a10,a11,a12,a13,a14,a15⟩:=n
 simp [headL,N16.list,N16.ofL]
theorem val16_bound:∀ (l:List UInt64) (B:Nat),(∀ x ∈ l,x.toNat≤B)→65535 * val16 l+B≤B * 65536 ^ l.length
 | [],B,_=>by simp [val16]
 | x::l,B,h=>by
  have ih:=val16_bound l B fun y hy=>h y (List.mem_cons_of_mem _ hy)
  have hx:=h x List.mem_cons_self
  simp only [val16,List.length_cons,Nat.pow_succ]
  have:B * (65536 ^ l.length * 65536)=65536 * (B * 65536 ^ l.length):=by rw [← Nat.mul_assoc,Nat.mul_comm]
  rw [this]
  generalize B * 65536 ^ l.length=q at *
  omega
theorem headL_len (l:List UInt64) (f:UInt64→UInt64):(headL l f).length=l.length:=by
 cases l <;> rfl
theorem foldL_zero:∀ (l m:List UInt64),l.length=m.length→val16 m=0→foldL l m=l
 | [],[],_,_=>rfl
 | [],_::_,h,_=>by cases h
 | _::_,[],h,_=>by cases h
 | x::l,y::m,h,hv=>by
  simp only [val16] at hv
  have hy:y=0:=UInt64.toNat_inj.1 (show y.toNat=0 by omega)
  have hs:x+38 * 0=x:=by simp
  simp only [foldL,hy,hs,foldL_zero l m (by simpa using h) (by omega)]
theorem third_ok (A B:List UInt64) (l1:A.length=16) (l2:B.length=16) (ot:ok16 A) (hv:val16 A+115792089237316195423570985008687907853269984665640564039457584007913129639936 * val16 B < 115792089237316195423570985008687907853269984665640564039457584007913129639936+38 * 40):ok16 (headL (foldL A B) fun x=>x+1444 * 0):=by
 cases A with
 | nil=>cases l1
 | cons a0 A =>
  cases B with
  | nil=>cases l2
  | cons b0 B =>
   have ha:=ot.1
   simp only [val16] at hv
   have hB:val16 B=0:=by omega
   have hf:foldL (a0::A) (b0::B)=(a0+38 * b0)::A:=by
    simp only [foldL]
    rw [foldL_zero A B (by simp only [List.length_cons] at l1 l2; omega) hB]
   rw [hf]
   refine ⟨?_,ot.2⟩
   have hz:(a0+38 * b0+1444 * 0)=a0+38 * b0:=by simp
   show (a0+38 * b0+1444 * 0).toNat < 65536
   rw [hz,UInt64.toNat_add,UInt64.toNat_mul]
   have e38:(38:UInt64).toNat=38:=rfl
   rw [e38]
   simp only [Nat.reducePow]
   have hb0:b0.toNat=0 ∨ b0.toNat=1:=by omega
   rcases hb0 with hb | hb
   ·rw [hb]; omega
   ·rw [hb] at hv ⊢
    omega
theorem pass1_eq (u:N32):pass1 u=⟨N16.ofL (headL (foldL ((carryL u.list 0).1.take 16) ((carryL u.list 0).1.drop 16)) fun x=>x+1444 * (carryL u.list 0).2),zeroN⟩:=rfl
set_option maxHeartbeats 4000000 in
theorem passes_val (t:N32) (h:∀ x ∈ t.list,x.toNat < 281474976710656):(passes t).lo.ok∧(passes t).lo.val % Pq=t.val % Pq:=by
 obtain ⟨v1,z1,c1,b1⟩:=pass1_val t h
 have m1:=pass1_mod t h
 have hb:=val16_bound t.list 281474976710655 (fun x hx=>by have:=h x hx; omega)
 rw [t.list_len,pow32] at hb
 have hd:t.val / 65536 ^ 32 < 8589934593:=by
  have hv:t.val=val16 t.list:=rfl
  rw [pow32,hv]
  omega
 have e1:pass1 t=⟨(pass1 t).lo,zeroN⟩:=by rw [← z1]
 have h1:∀ x ∈ (pass1 t).list,x.toNat < 281474976710656:=by
  rw [e1]
  refine N32.mem_lo (fun x hx => ?_) (by omega)
  have:=b1 x hx
  omega
 have w1:(pass1 t).val=(pass1 t).lo.val:=by
  conv=>lhs; rw [e1]
  exact N32.val_lo _
 obtain ⟨v2,z2,c2,b2⟩:=pass1_val (pass1 t) h1
 have m2:=pass1_mod (pass1 t) h1
 have hv1:(pass1 t).lo.val < 40 * 115792089237316195423570985008687907853269984665640564039457584007913129639936:=by
  have r1:=Nat.mod_lt t.val (show 0 < 65536 ^ 16 by decide)
  have r2:=Nat.mod_lt (t.val / 65536 ^ 16) (show 0 < 65536 ^ 16 by decide)
  rw [v1]
  generalize t.val % 65536 ^ 16=A at *
  generalize t.val / 65536 ^ 16 % 65536 ^ 16=B at *
  generalize t.val / 65536 ^ 32=C at *
  rw [pow16] at r1 r2
  omega
 have q2:(pass1 t).val / 65536 ^ 32=0:=by
  rw [w1]
  exact Nat.div_eq_of_lt (by rw [pow32]; omega)
 rw [q2,Nat.mul_zero,Nat.add_zero] at v2 b2
 have hv2:(pass1 (pass1 t)).lo.val < 115792089237316195423570985008687907853269984665640564039457584007913129639936+38 * 40:=by
  have r1:=Nat.mod_lt (pass1 t).lo.val (show 0 < 65536 ^ 16 by decide)
  have r2:(pass1 t).lo.val / 65536 ^ 16 < 40:=Nat.div_lt_of_lt_mul (by rw [pow16]; omega)
  rw [v2,w1,Nat.mod_eq_of_lt (Nat.lt_trans r2 (by rw [pow16]; omega))]
  generalize (pass1 t).lo.val % 65536 ^ 16=A at *
  generalize (pass1 t).lo.val / 65536 ^ 16=B at *
  rw [pow16] at r1
  omega
 have e2:pass1 (pass1 t)=⟨(pass1 (pass1 t)).lo,zeroN⟩:=by rw [← z2]
 have h2:∀ x ∈ (pass1 (pass1 t)).list,x.toNat < 281474976710656:=by
  rw [e2]
  refine N32.mem_lo (fun x hx => ?_) (by omega)
  have:=b2 x hx
  omega
 have w2:(pass1 (pass1 t)).val=(pass1 (pass1 t)).lo.val:=by
  conv=>lhs; rw [e2]
  exact N32.val_lo _
 obtain ⟨v3,z3,c3,b3⟩:=pass1_val (pass1 (pass1 t)) h2
 have m3:=pass1_mod (pass1 (pass1 t)) h2
 have q3:(pass1 (pass1 t)).val / 65536 ^ 32=0:=by
  rw [w2]
  exact Nat.div_eq_of_lt (by rw [pow32]; omega)
 rw [q3,Nat.mul_zero,Nat.add_zero] at v3 b3
 have hv3:(pass1 (pass1 (pass1 t))).lo.val < 115792089237316195423570985008687907853269984665640564039457584007913129639936:=by
  have r1:=Nat.mod_lt (pass1 (pass1 t)).lo.val (show 0 < 65536 ^ 16 by decide)
  have r2:(pass1 (pass1 t)).lo.val / 65536 ^ 16 < 2:=Nat.div_lt_of_lt_mul (by rw [pow16]; omega)
  have r3:=Nat.div_add_mod (pass1 (pass1 t)).lo.val (65536 ^ 16)
  rw [v3,w2,Nat.mod_eq_of_lt (Nat.lt_trans r2 (by rw [pow16]; omega))]
  generalize (pass1 (pass1 t)).lo.val % 65536 ^ 16=A at *
  generalize (pass1 (pass1 t)).lo.val / 65536 ^ 16=B at *
  rw [pow16] at r1 r3
  have hB:B=0 ∨ B=1:=by omega
  rcases hB with rfl | rfl <;> omega
 have mm:(pass1 (pass1 (pass1 t))).lo.val % Pq=t.val % Pq:=by rw [m3,w2,m2,w1,m1]
 have o3:(pass1 (pass1 (pass1 t))).lo.ok:=by
  -- the parts by themselves
  obtain ⟨o,hv,hc⟩:=carryL_val (pass1 (pass1 t)).list 0 h2 (by decide)
  have hz:(0:UInt64).toNat=0:=rfl
  rw [hz,Nat.add_zero,N32.list_len] at hv
  have hlen:(carryL (pass1 (pass1 t)).list 0).1.length=32:=by rw [carryL_len]; rfl
  generalize hr:carryL (pass1 (pass1 t)).list 0=r at *
  obtain ⟨r1,c⟩:=r
  simp only at o hv hc hlen
  have hvv:val16 (pass1 (pass1 t)).list=(pass1 (pass1 t)).lo.val:=w2
  have hc0:c.toNat=0:=by
   rw [hvv,pow32] at hv
   omega
  rw [hc0,Nat.mul_zero,Nat.add_zero,hvv] at hv
  have hsplit:val16 r1=val16 (r1.take 16)+65536 ^ 16 * val16 (r1.drop 16):=by
   have e:=val16_append (r1.take 16) (r1.drop 16)
   rw [List.take_append_drop] at e
   rw [e,List.length_take,hlen]
   rfl
  have l1:(r1.take 16).length=16:=by rw [List.length_take,hlen]; rfl
  have l2:(r1.drop 16).length=16:=by rw [List.length_drop,hlen]
  have ot:=ok16_take 16 o
  have od:=ok16_drop 16 o
  have bt:=val16_lt ot
  rw [l1] at bt
  have hp:pass1 (pass1 (pass1 t))=⟨N16.ofL (headL (foldL (r1.take 16) (r1.drop 16)) fun x=>x+1444 * c),zeroN⟩:=by
   rw [pass1_eq,hr]
  have hcz:c=0:=UInt64.toNat_inj.1 hc0
  rw [hp]
  have ht:=third_ok (r1.take 16) (r1.drop 16) l1 l2 ot (by rw [pow16] at hsplit; omega)
  rw [hcz]
  unfold N16.ok
  have hfl:=(foldL_val (r1.take 16) (r1.drop 16) (by rw [l1,l2]) ot od).2.1
  have hll:(N16.ofL (headL (foldL (r1.take 16) (r1.drop 16)) fun x=>x+1444 * 0)).list=headL (foldL (r1.take 16) (r1.drop 16)) fun x=>x+1444 * 0:=list_ofL (by rw [headL_len,hfl,l1])
  rw [hll]
  exact ht
 have p3:∀ u:N32,u.lo.ok→(pass3 u).lo=u.lo:=fun u hu=>by
  show pass2 u.lo=u.lo
  exact pass2_same _ hu
 have f1:=p3 _ o3
 have f2:=p3 (pass3 (pass1 (pass1 (pass1 t)))) (by rw [f1]; exact o3)
 have f3:=p3 (pass3 (pass3 (pass1 (pass1 (pass1 t))))) (by rw [f2,f1]; exact o3)
 have ff:(passes t).lo=(pass1 (pass1 (pass1 t))).lo:=by
  show (pass3 (pass3 (pass3 (pass1 (pass1 (pass1 t)))))).lo=_
  rw [f3,f2,f1]
 rw [ff]
 exact ⟨o3,mm⟩
theorem downN_val (n:N16) (h:n.ok):(downN n).ok∧(downN n).val % Pq=n.val % Pq∧(downN n).val=if n.val < Pq then n.val else n.val - Pq:=by
 unfold downN
 rw [lessN_eq _ _ h primeN_ok,primeN_val]
 by_cases hl:n.val < Pq
 ·rw [decide_eq_true hl,cond_true,if_pos hl]
  exact ⟨h,rfl,rfl⟩
 ·rw [decide_eq_false hl,cond_false,if_neg hl]
  obtain ⟨o,e⟩:=minusN_val n primeN h primeN_ok (by rw [primeN_val]; omega)
  rw [primeN_val] at e
  refine ⟨o,?_,e⟩
  rw [e]
  exact (Nat.mod_eq_sub_mod (by omega)).symm
theorem redN_val (t:N32) (h:bndL t.list=true):(redN t).ok∧(redN t).val=t.val % Pq:=by
 obtain ⟨o,m⟩:=passes_val t (bndL_iff.1 h)
 have hlt:=N16.val_lt o
 rw [pow16] at hlt
 obtain ⟨o1,m1,e1⟩:=downN_val _ o
 obtain ⟨o2,m2,e2⟩:=downN_val _ o1
 refine ⟨o2,?_⟩
 have hl:(redN t).val < Pq:=by
  unfold redN
  rw [e2]
  by_cases q2:(downN (passes t).lo).val < Pq
  ·rw [if_pos q2]; exact q2
  ·rw [if_neg q2]
   by_cases q1:(passes t).lo.val < Pq
   ·rw [e1,if_pos q1] at q2; exact absurd q1 q2
   ·rw [e1,if_neg q1]
    unfold Pq
    omega
 rw [← m,← m1,← m2]
 exact (Nat.mod_eq_of_lt hl).symm
theorem redN_lt (t:N32) (h:bndL t.list=true):(redN t).val < Pq:=by rw [(redN_val t h).2]; exact Nat.mod_lt _ Pq_pos
theorem redN_less (t:N32) (h:bndL t.list=true):lessN (downN (downN (passes t).lo)) primeN=true:=by
 have:=redN_lt t h
 show lessN (redN t) primeN=true
 rw [lessN_eq _ _ (redN_val t h).1 primeN_ok,primeN_val,decide_eq_true_iff]
 exact this
end Go.Num
namespace Go.Num
open Go Go.Eng
theorem bnd_of {n:N16}{B:Nat}(h:∀ x ∈ n.list,x.toNat < B) (hB:B≤281474976710656) (h0:0 < B):bndL (N32.list ⟨n,zeroN⟩)=true:=
 bndL_iff.2 (N32.mem_lo (fun x hx=>Nat.lt_of_lt_of_le (h x hx) hB) (by omega))
theorem wide_bnd (a:N16) (h:a.ok):bndL (wideN a).list=true:=bnd_of (B:=65536) (ok16_iff.1 h) (by omega) (by omega)
theorem ofP_bnd {s:List UInt8}(h:s.length=32):bndL (wideN (partsN s)).list=true:=wide_bnd _ (partsN_val s h).1
theorem ofP_val {s:List UInt8}(h:s.length=32):(ofP s).ok∧(ofP s).val=leNat s % Pq:=by
 obtain ⟨o,e⟩:=redN_val _ (ofP_bnd h)
 refine ⟨o,?_⟩
 unfold ofP
 rw [e,wideN,N32.val_lo,(partsN_val s h).2]
theorem addP_bnd (a b:N16) (ha:a.ok) (hb:b.ok):bndL (N32.list ⟨N16.ofL (sumL a.list b.list),zeroN⟩)=true∧(N16.ofL (sumL a.list b.list)).val=a.val+b.val:=by
 obtain ⟨e,el,bd⟩:=sumL_val a.list b.list rfl ha hb
 have hl:(N16.ofL (sumL a.list b.list)).list=sumL a.list b.list:=list_ofL (by rw [el]; rfl)
 refine ⟨bnd_of (B:=281474976710656) (by rw [hl]; exact bd) (by omega) (by omega),?_⟩
 unfold N16.val
 rw [hl,e]
theorem addP_val (a b:N16) (ha:a.ok) (hb:b.ok):(addP a b).ok∧(addP a b).val=(a.val+b.val) % Pq:=by
 obtain ⟨h1,h2⟩:=addP_bnd a b ha hb
 obtain ⟨o,e⟩:=redN_val _ h1
 refine ⟨o,?_⟩
 unfold addP
 rw [e,N32.val_lo,h2]
theorem mulP_bnd (a b:N16) (ha:a.ok) (hb:b.ok):bndL (prodT a b).list=true∧(prodT a b).val=a.val * b.val:=by
 obtain ⟨e,el,bd⟩:=prodL_val a.list b.list (List.replicate 32 0) 0 ha hb (by show 0 < 16; decide) (by show 16+16≤32; decide) (fun y hy=>by rw [List.mem_replicate] at hy; rw [hy.2]; decide) (by show 0+16 * 4294836225 < 4611686018427387904; decide)
 rw [val16_zeros,Nat.zero_add] at e
 have hlen:(prodL a.list b.list (List.replicate 32 0)).length=32:=by rw [el]; rfl
 have hp:prodT a b=⟨N16.ofL ((prodL a.list b.list (List.replicate 32 0)).take 16),N16.ofL ((prodL a.list b.list (List.replicate 32 0)).drop 16)⟩:=rfl
 have hl:(prodT a b).list=prodL a.list b.list (List.replicate 32 0):=by
  rw [hp]
  unfold N32.list
  simp only
  rw [list_ofL (by rw [List.length_take,hlen]; rfl),list_ofL (by rw [List.length_drop,hlen]),List.take_append_drop]
 refine ⟨?_,?_⟩
 ·rw [hl,bndL_iff]
  intro x hx
  have:=bd x hx
  have hal:a.list.length=16:=rfl
  rw [hal] at this
  omega
 ·unfold N32.val
  rw [hl,e]; rfl
theorem mulP_val (a b:N16) (ha:a.ok) (hb:b.ok):(mulP a b).ok∧(mulP a b).val=a.val * b.val % Pq:=by
 obtain ⟨h1,h2⟩:=mulP_bnd a b ha hb
 obtain ⟨o,e⟩:=redN_val _ h1
 refine ⟨o,?_⟩
 unfold mulP
 rw [e,h2]
theorem minusN_ok (a b:N16) (ha:a.ok) (hb:b.ok):(minusN a b).ok:=by
 obtain ⟨o,_⟩:=minusL_val a.list b.list 0 rfl ha hb (by decide)
 have e:(minusN a b).list=minusL a.list b.list 0:=list_ofL (by rw [minusL_len a.list b.list 0 rfl]; rfl)
 unfold N16.ok; rw [e]; exact o
theorem negP_ok (a:N16) (h:a.ok):(negP a).ok:=by
 unfold negP
 cases isZ16 a
 ·exact minusN_ok _ _ primeN_ok h
 ·exact h
theorem negP_val (a:N16) (h:a.ok) (hv:a.val < Pq):(negP a).ok∧(negP a).val=(Pq - a.val) % Pq:=by
 refine ⟨negP_ok a h,?_⟩
 unfold negP
 rw [isZ16_eq]
 by_cases hz:a=zeroN
 ·rw [decide_eq_true hz,cond_true,hz,zeroN_val,Nat.sub_zero,Nat.mod_self]
 ·rw [decide_eq_false hz,cond_false]
  have hne:a.val ≠ 0:=fun e=>hz (N16.ext_val h zeroN_ok (by rw [e,zeroN_val]))
  obtain ⟨_,e⟩:=minusN_val primeN a primeN_ok h (by rw [primeN_val]; omega)
  rw [e,primeN_val,Nat.mod_eq_of_lt (by omega)]
theorem subP_val (a b:N16) (ha:a.ok) (hb:b.ok) (hv:b.val < Pq):(subP a b).ok∧(subP a b).val=(a.val+(Pq - b.val)) % Pq:=by
 obtain ⟨o,e⟩:=negP_val b hb hv
 obtain ⟨o2,e2⟩:=addP_val a (negP b) ha o
 refine ⟨o2,?_⟩
 unfold subP
 rw [e2,e,Nat.add_mod_mod]
theorem smallN_val (n:UInt32):(smallN n).ok∧(smallN n).val=n.toNat:=by
 have h:=n.toNat_lt
 have e1:(n &&& 65535).toUInt64.toNat=n.toNat % 65536:=by
  rw [UInt32.toNat_toUInt64,UInt32.toNat_and]
  exact Nat.and_two_pow_sub_one_eq_mod n.toNat 16
 have e2:(shr_u32 n 16).toUInt64.toNat=n.toNat / 65536:=by
  rw [UInt32.toNat_toUInt64]
  unfold shr_u32
  rw [Nat.ble_eq_true_of_le (by omega),cond_true,UInt32.toNat_shiftRight]
  have e:(UInt32.ofNat 16).toNat % 32=16:=rfl
  rw [e,Nat.shiftRight_eq_div_pow]
 have hz:(0:UInt64).toNat=0:=rfl
 simp only [Nat.reducePow] at h
 refine ⟨?_,?_⟩
 ·rw [N16.ok]
  refine ⟨?_,?_,?_⟩
  ·show (n &&& 65535).toUInt64.toNat < 65536
   omega
  ·show (shr_u32 n 16).toUInt64.toNat < 65536
   omega
  ·show ok16 [0,0,0,0,0,0,0,0,0,0,0,0,0,0]
   rw [ok16_iff]
   decide
 ·have es:(smallN n).val=(n &&& 65535).toUInt64.toNat+65536 * (shr_u32 n 16).toUInt64.toNat:=by
   simp only [N16.val,smallN,N16.list,val16,hz,Nat.mul_zero,Nat.add_zero]
  rw [es,e1,e2]
  omega
theorem powF_ok (a:N16) (ha:a.ok):∀ (l:List Bool) (x:N16),x.ok→(powF a x l).ok
 | [],x,hx=>hx
 | b::l,x,hx=>by
  have h1:=(mulP_val x x hx hx).1
  refine powF_ok a ha l _ ?_
  cases b
  ·exact h1
  ·exact (mulP_val _ a h1 ha).1
theorem powP_ok (a:N16) (ha:a.ok) (l:List Bool):(powP a l).ok:=powF_ok a ha l _ (smallN_val 1).1
def bitsNat (n:Nat):List Bool→Nat
 | []=>n
 | b::l=>bitsNat (2 * n+bn b) l
theorem powF_val (a:N16) (ha:a.ok) (l:List Bool):∀ (x:N16) (n:Nat),x.ok→x.val=a.val ^ n % Pq→(powF a x l).val=a.val ^ (bitsNat n l) % Pq:=by
 have key:∀ x y:N16,x.ok→y.ok→(mulP x y).ok∧(mulP x y).val=x.val * y.val % Pq:=mulP_val
 generalize Pq=p at *
 induction l with
 | nil=>exact fun x n hx hv=>hv
 | cons b l ih =>
  intro x n hx hv
  obtain ⟨h1,e1⟩:=key x x hx hx
  have e1':(mulP x x).val=a.val ^ (2 * n) % p:=by
   rw [e1,hv,← Nat.mul_mod,← Nat.pow_add,Nat.two_mul]
  have e2:bitsNat n (b::l)=bitsNat (2 * n+bn b) l:=rfl
  have e3:powF a x (b::l)=powF a (cond b (mulP (mulP x x) a) (mulP x x)) l:=rfl
  rw [e2,e3]
  cases b
  ·exact ih _ _ h1 e1'
  ·obtain ⟨h2,f2⟩:=key _ a h1 ha
   refine ih _ _ h2 ?_
   show (mulP (mulP x x) a).val=a.val ^ (2 * n+1) % p
   rw [f2,e1',Nat.mod_mul_mod,Nat.pow_succ]
theorem powP_val (a:N16) (ha:a.ok) (l:List Bool):(powP a l).val=a.val ^ (bitsNat 0 l) % Pq:=by
 refine powF_val a ha l _ 0 (smallN_val 1).1 ?_
 rw [(smallN_val 1).2,Nat.pow_zero]
 rfl
def boolsA:List AVal→Option (List Bool)
 | []=>some []
 | .bool b::l=>match boolsA l with
  | some bs=>some (b::bs)
  | none=>none
 | _=>none
theorem boolsA_eq:∀ {c:List AVal}{l:List Bool},boolsA c=some l→c=l.map .bool
 | [],l,h=>by cases h; rfl
 | v::c,l,h=>by
  cases v <;> simp only [boolsA] at h <;> try (cases h; done)
  split at h
  ·rename_i bs hb
   cases h
   rw [boolsA_eq hb]; rfl
  ·cases h
theorem ltL_bool (m:Nat):∀ (x:List Bool),ltL m (x.map .bool)=true
 | []=>rfl
 | _::l=>ltL_bool m l
end Go.Num
namespace Go.Proofs.YtanaackimepkdaaGreatDoor
open Go Go.Eng Go.Num
theorem run211 (a b:N16):(run1 Tryz.prog cs0 (mask 211) 100 211 [a.av,b.av] [] Tryz.prog.globals.size).map (·.1)=some (.bool (lessN a b)):=by
 cases h15:(a.x15 != b.x15)
 rotate_left
 ·have e:lessN a b=decide (a.x15 < b.x15):=by simp [lessN,N16.list,lessL,h15]
  rw [e]
  exact ansO_run (noPS_ok _) (P:=Tryz.prog) (cs:=cs0) (sy:=[16]) (os:=[true]) (vs:=[]) (nn:=mask 211) (F:=100) (f:=211) (ob:=[(a.x15 != b.x15)]) (show ansO (run1O Tryz.prog noPS cs0 [16] [true] [] (mask 211) 100 211 [a.av,b.av] [] Tryz.prog.globals.size)=some (.bool (decide (a.x15 < b.x15)),[(a.x15 != b.x15)]) from by kernel_rfl) (by simp [allT,h15])
 cases h14:(a.x14 != b.x14)
 rotate_left
 ·have e:lessN a b=decide (a.x14 < b.x14):=by simp [lessN,N16.list,lessL,h15,h14]
  rw [e]
  exact ansO_run (noPS_ok _) (P:=Tryz.prog) (cs:=cs0) (sy:=[16]) (os:=[false,true]) (vs:=[]) (nn:=mask 211) (F:=100) (f:=211) (ob:=[(a.x14 != b.x14),!(a.x15 != b.x15)]) (show ansO (run1O Tryz.prog noPS cs0 [16] [false,true] [] (mask 211) 100 211 [a.av,b.av] [] Tryz.prog.globals.size)=some (.bool (decide (a.x14 < b.x14)),[(a.x14 != b.x14),!(a.x15 != b.x15)]) from by kernel_rfl) (by simp [allT,h15,h14])
 cases h13:(a.x13 != b.x13)
 rotate_left
 ·have e:lessN a b=decide (a.x13 < b.x13):=by simp [lessN,N16.list,lessL,h15,h14,h13]
  rw [e]
  exact ansO_run (noPS_ok _) (P:=Tryz.prog) (cs:=cs0) (sy:=[16]) (os:=[false,false,true]) (vs:=[]) (nn:=mask 211) (F:=100) (f:=211) (ob:=[(a.x13 != b.x13),!(a.x14 != b.x14),!(a.x15 != b.x15)]) (show ansO (run1O Tryz.prog noPS cs0 [16] [false,false,true] [] (mask 211) 100 211 [a.av,b.av] [] Tryz.prog.globals.size)=some (.bool (decide (a.x13 < b.x13)),[(a.x13 != b.x13),!(a.x14 != b.x14),!(a.x15 != b.x15)]) from by kernel_rfl) (by simp [allT,h15,h14,h13])
 cases h12:(a.x12 != b.x12)
 rotate_left
 ·have e:lessN a b=decide (a.x12 < b.x12):=by simp [lessN,N16.list,lessL,h15,h14,h13,h12]
  rw [e]
  exact ansO_run (noPS_ok _) (P:=Tryz.prog) (cs:=cs0) (sy:=[16]) (os:=[false,false,false,true]) (vs:=[]) (nn:=mask 211) (F:=100) (f:=211) (ob:=[(a.x12 != b.x12),!(a.x13 != b.x13),!(a.x14 != b.x14),!(a.x15 != b.x15)]) (show ansO (run1O Tryz.prog noPS cs0 [16] [false,false,false,true] [] (mask 211) 100 211 [a.av,b.av] [] Tryz.prog.globals.size)=some (.bool (decide (a.x12 < b.x12)),[(a.x12 != b.x12),!(a.x13 != b.x13),!(a.x14 != b.x14),!(a.x15 != b.x15)]) from by kernel_rfl) (by simp [allT,h15,h14,h13,h12])
 cases h11:(a.x11 != b.x11)
 rotate_left
 ·have e:lessN a b=decide (a.x11 < b.x11):=by simp [lessN,N16.list,lessL,h15,h14,h13,h12,h11]
  rw [e]
  exact ansO_run (noPS_ok _) (P:=Tryz.prog) (cs:=cs0) (sy:=[16]) (os:=[false,false,false,false,true]) (vs:=[]) (nn:=mask 211) (F:=100) (f:=211) (ob:=[(a.x11 != b.x11),!(a.x12 != b.x12),!(a.x13 != b.x13),!(a.x14 != b.x14),!(a.x15 != b.x15)]) (show ansO (run1O Tryz.prog noPS cs0 [16] [false,false,false,false,true] [] (mask 211) 100 211 [a.av,b.av] [] Tryz.prog.globals.size)=some (.bool (decide (a.x11 < b.x11)),[(a.x11 != b.x11),!(a.x12 != b.x12),!(a.x13 != b.x13),!(a.x14 != b.x14),!(a.x15 != b.x15)]) from by kernel_rfl) (by simp [allT,h15,h14,h13,h12,h11])
 cases h10:(a.x10 != b.x10)
 rotate_left
 ·have e:lessN a b=decide (a.x10 < b.x10):=by simp [lessN,N16.list,lessL,h15,h14,h13,h12,h11,h10]
  rw [e]
  exact ansO_run (noPS_ok _) (P:=Tryz.prog) (cs:=cs0) (sy:=[16]) (os:=[false,false,false,false,false,true]) (vs:=[]) (nn:=mask 211) (F:=100) (f:=211) (ob:=[(a.x10 != b.x10),!(a.x11 != b.x11),!(a.x12 != b.x12),!(a.x13 != b.x13),!(a.x14 != b.x14),!(a.x15 != b.x15)]) (show ansO (run1O Tryz.prog noPS cs0 [16] [false,false,false,false,false,true] [] (mask 211) 100 211 [a.av,b.av] [] Tryz.prog.globals.size)=some (.bool (decide (a.x10 < b.x10)),[(a.x10 != b.x10),!(a.x11 != b.x11),!(a.x12 != b.x12),!(a.x13 != b.x13),!(a.x14 != b.x14),!(a.x15 != b.x15)]) from by kernel_rfl) (by simp [allT,h15,h14,h13,h12,h11,h10])
 cases h9:(a.x9 != b.x9)
 rotate_left
 ·have e:lessN a b=decide (a.x9 < b.x9):=by simp [lessN,N16.list,lessL,h15,h14,h13,h12,h11,h10,h9]
  rw [e]
  exact ansO_run (noPS_ok _) (P:=Tryz.prog) (cs:=cs0) (sy:=[16]) (os:=[false,false,false,false,false,false,true]) (vs:=[]) (nn:=mask 211) (F:=100) (f:=211) (ob:=[(a.x9 != b.x9),!(a.x10 != b.x10),!(a.x11 != b.x11),!(a.x12 != b.x12),!(a.x13 != b.x13),!(a.x14 != b.x14),!(a.x15 != b.x15)]) (show ansO (run1O Tryz.prog noPS cs0 [16] [false,false,false,false,false,false,true] [] (mask 211) 100 211 [a.av,b.av] [] Tryz.prog.globals.size)=some (.bool (decide (a.x9 < b.x9)),[(a.x9 != b.x9),!(a.x10 != b.x10),!(a.x11 != b.x11),!(a.x12 != b.x12),!(a.x13 != b.x13),!(a.x14 != b.x14),!(a.x15 != b.x15)]) from by kernel_rfl) (by simp [allT,h15,h14,h13,h12,h11,h10,h9])
 cases h8:(a.x8 != b.x8)
 rotate_left
 ·have e:lessN a b=decide (a.x8 < b.x8):=by simp [lessN,N16.list,lessL,h15,h14,h13,h12,h11,h10,h9,h8]
  rw [e]
  exact ansO_run (noPS_ok _) (P:=Tryz.prog) (cs:=cs0) (sy:=[16]) (os:=[false,false,false,false,false,false,false,true]) (vs:=[]) (nn:=mask 211) (F:=100) (f:=211) (ob:=[(a.x8 != b.x8),!(a.x9 != b.x9),!(a.x10 != b.x10),!(a.x11 != b.x11),!(a.x12 != b.x12),!(a.x13 != b.x13),!(a.x14 != b.x14),!(a.x15 != b.x15)]) (show ansO (run1O Tryz.prog noPS cs0 [16] [false,false,false,false,false,false,false,true] [] (mask 211) 100 211 [a.av,b.av] [] Tryz.prog.globals.size)=some (.bool (decide (a.x8 < b.x8)),[(a.x8 != b.x8),!(a.x9 != b.x9),!(a.x10 != b.x10),!(a.x11 != b.x11),!(a.x12 != b.x12),!(a.x13 != b.x13),!(a.x14 != b.x14),!(a.x15 != b.x15)]) from by kernel_rfl) (by simp [allT,h15,h14,h13,h12,h11,h10,h9,h8])
 cases h7:(a.x7 != b.x7)
 rotate_left
 ·have e:lessN a b=decide (a.x7 < b.x7):=by simp [lessN,N16.list,lessL,h15,h14,h13,h12,h11,h10,h9,h8,h7]
  rw [e]
  exact ansO_run (noPS_ok _) (P:=Tryz.prog) (cs:=cs0) (sy:=[16]) (os:=[false,false,false,false,false,false,false,false,true]) (vs:=[]) (nn:=mask 211) (F:=100) (f:=211) (ob:=[(a.x7 != b.x7),!(a.x8 != b.x8),!(a.x9 != b.x9),!(a.x10 != b.x10),!(a.x11 != b.x11),!(a.x12 != b.x12),!(a.x13 != b.x13),!(a.x14 != b.x14),!(a.x15 != b.x15)]) (show ansO (run1O Tryz.prog noPS cs0 [16] [false,false,false,false,false,false,false,false,true] [] (mask 211) 100 211 [a.av,b.av] [] Tryz.prog.globals.size)=some (.bool (decide (a.x7 < b.x7)),[(a.x7 != b.x7),!(a.x8 != b.x8),!(a.x9 != b.x9),!(a.x10 != b.x10),!(a.x11 != b.x11),!(a.x12 != b.x12),!(a.x13 != b.x13),!(a.x14 != b.x14),!(a.x15 != b.x15)]) from by kernel_rfl) (by simp [allT,h15,h14,h13,h12,h11,h10,h9,h8,h7])
 cases h6:(a.x6 != b.x6)
 rotate_left
 ·have e:lessN a b=decide (a.x6 < b.x6):=by simp [lessN,N16.list,lessL,h15,h14,h13,h12,h11,h10,h9,h8,h7,h6]
  rw [e]
  exact ansO_run (noPS_ok _) (P:=Tryz.prog) (cs:=cs0) (sy:=[16]) (os:=[false,false,false,false,false,false,false,false,false,true]) (vs:=[]) (nn:=mask 211) (F:=100) (f:=211) (ob:=[(a.x6 != b.x6),!(a.x7 != b.x7),!(a.x8 != b.x8),!(a.x9 != b.x9),!(a.x10 != b.x10),!(a.x11 != b.x11),!(a.x12 != b.x12),!(a.x13 != b.x13),!(a.x14 != b.x14),!(a.x15 != b.x15)]) (show ansO (run1O Tryz.prog noPS cs0 [16] [false,false,false,false,false,false,false,false,false,true] [] (mask 211) 100 211 [a.av,b.av] [] Tryz.prog.globals.size)=some (.bool (decide (a.x6 < b.x6)),[(a.x6 != b.x6),!(a.x7 != b.x7),!(a.x8 != b.x8),!(a.x9 != b.x9),!(a.x10 != b.x10),!(a.x11 != b.x11),!(a.x12 != b.x12),!(a.x13 != b.x13),!(a.x14 != b.x14),!(a.x15 != b.x15)]) from by kernel_rfl) (by simp [allT,h15,h14,h13,h12,h11,h10,h9,h8,h7,h6])
 cases h5:(a.x5 != b.x5)
 rotate_left
 ·have e:lessN a b=decide (a.x5 < b.x5):=by simp [lessN,N16.list,lessL,h15,h14,h13,h12,h11,h10,h9,h8,h7,h6,h5]
  rw [e]
  exact ansO_run (noPS_ok _) (P:=Tryz.prog) (cs:=cs0) (sy:=[16]) (os:=[false,false,false,false,false,false,false,false,false,false,true]) (vs:=[]) (nn:=mask 211) (F:=100) (f:=211) (ob:=[(a.x5 != b.x5),!(a.x6 != b.x6),!(a.x7 != b.x7),!(a.x8 != b.x8),!(a.x9 != b.x9),!(a.x10 != b.x10),!(a.x11 != b.x11),!(a.x12 != b.x12),!(a.x13 != b.x13),!(a.x14 != b.x14),!(a.x15 != b.x15)]) (show ansO (run1O Tryz.prog noPS cs0 [16] [false,false,false,false,false,false,false,false,false,false,true] [] (mask 211) 100 211 [a.av,b.av] [] Tryz.prog.globals.size)=some (.bool (decide (a.x5 < b.x5)),[(a.x5 != b.x5),!(a.x6 != b.x6),!(a.x7 != b.x7),!(a.x8 != b.x8),!(a.x9 != b.x9),!(a.x10 != b.x10),!(a.x11 != b.x11),!(a.x12 != b.x12),!(a.x13 != b.x13),!(a.x14 != b.x14),!(a.x15 != b.x15)]) from by kernel_rfl) (by simp [allT,h15,h14,h13,h12,h11,h10,h9,h8,h7,h6,h5])
 cases h4:(a.x4 != b.x4)
 rotate_left
 ·have e:lessN a b=decide (a.x4 < b.x4):=by simp [lessN,N16.list,lessL,h15,h14,h13,h12,h11,h10,h9,h8,h7,h6,h5,h4]
  rw [e]
  exact ansO_run (noPS_ok _) (P:=Tryz.prog) (cs:=cs0) (sy:=[16]) (os:=[false,false,false,false,false,false,false,false,false,false,false,true]) (vs:=[]) (nn:=mask 211) (F:=100) (f:=211) (ob:=[(a.x4 != b.x4),!(a.x5 != b.x5),!(a.x6 != b.x6),!(a.x7 != b.x7),!(a.x8 != b.x8),!(a.x9 != b.x9),!(a.x10 != b.x10),!(a.x11 != b.x11),!(a.x12 != b.x12),!(a.x13 != b.x13),!(a.x14 != b.x14),!(a.x15 != b.x15)]) (show ansO (run1O Tryz.prog noPS cs0 [16] [false,false,false,false,false,false,false,false,false,false,false,true] [] (mask 211) 100 211 [a.av,b.av] [] Tryz.prog.globals.size)=some (.bool (decide (a.x4 < b.x4)),[(a.x4 != b.x4),!(a.x5 != b.x5),!(a.x6 != b.x6),!(a.x7 != b.x7),!(a.x8 != b.x8),!(a.x9 != b.x9),!(a.x10 != b.x10),!(a.x11 != b.x11),!(a.x12 != b.x12),!(a.x13 != b.x13),!(a.x14 != b.x14),!(a.x15 != b.x15)]) from by kernel_rfl) (by simp [allT,h15,h14,h13,h12,h11,h10,h9,h8,h7,h6,h5,h4])
 cases h3:(a.x3 != b.x3)
 rotate_left
 ·have e:lessN a b=decide (a.x3 < b.x3):=by simp [lessN,N16.list,lessL,h15,h14,h13,h12,h11,h10,h9,h8,h7,h6,h5,h4,h3]
  rw [e]
  exact ansO_run (noPS_ok _) (P:=Tryz.prog) (cs:=cs0) (sy:=[16]) (os:=[false,false,false,false,false,false,false,false,false,false,false,false,true]) (vs:=[]) (nn:=mask 211) (F:=100) (f:=211) (ob:=[(a.x3 != b.x3),!(a.x4 != b.x4),!(a.x5 != b.x5),!(a.x6 != b.x6),!(a.x7 != b.x7),!(a.x8 != b.x8),!(a.x9 != b.x9),!(a.x10 != b.x10),!(a.x11 != b.x11),!(a.x12 != b.x12),!(a.x13 != b.x13),!(a.x14 != b.x14),!(a.x15 != b.x15)]) (show ansO (run1O Tryz.prog noPS cs0 [16] [false,false,false,false,false,false,false,false,false,false,false,false,true] [] (mask 211) 100 211 [a.av,b.av] [] Tryz.prog.globals.size)=some (.bool (decide (a.x3 < b.x3)),[(a.x3 != b.x3),!(a.x4 != b.x4),!(a.x5 != b.x5),!(a.x6 != b.x6),!(a.x7 != b.x7),!(a.x8 != b.x8),!(a.x9 != b.x9),!(a.x10 != b.x10),!(a.x11 != b.x11),!(a.x12 != b.x12),!(a.x13 != b.x13),!(a.x14 != b.x14),!(a.x15 != b.x15)]) from by kernel_rfl) (by simp [allT,h15,h14,h13,h12,h11,h10,h9,h8,h7,h6,h5,h4,h3])
 cases h2:(a.x2 != b.x2)
 rotate_left
 ·have e:lessN a b=decide (a.x2 < b.x2):=by simp [lessN,N16.list,lessL,h15,h14,h13,h12,h11,h10,h9,h8,h7,h6,h5,h4,h3,h2]
  rw [e]
  exact ansO_run (noPS_ok _) (P:=Tryz.prog) (cs:=cs0) (sy:=[16]) (os:=[false,false,false,false,false,false,false,false,false,false,false,false,false,true]) (vs:=[]) (nn:=mask 211) (F:=100) (f:=211) (ob:=[(a.x2 != b.x2),!(a.x3 != b.x3),!(a.x4 != b.x4),!(a.x5 != b.x5),!(a.x6 != b.x6),!(a.x7 != b.x7),!(a.x8 != b.x8),!(a.x9 != b.x9),!(a.x10 != b.x10),!(a.x11 != b.x11),!(a.x12 != b.x12),!(a.x13 != b.x13),!(a.x14 != b.x14),!(a.x15 != b.x15)]) (show ansO (run1O Tryz.prog noPS cs0 [16] [false,false,false,false,false,false,false,false,false,false,false,false,false,true] [] (mask 211) 100 211 [a.av,b.av] [] Tryz.prog.globals.size)=some (.bool (decide (a.x2 < b.x2)),[(a.x2 != b.x2),!(a.x3 != b.x3),!(a.x4 != b.x4),!(a.x5 != b.x5),!(a.x6 != b.x6),!(a.x7 != b.x7),!(a.x8 != b.x8),!(a.x9 != b.x9),!(a.x10 != b.x10),!(a.x11 != b.x11),!(a.x12 != b.x12),!(a.x13 != b.x13),!(a.x14 != b.x14),!(a.x15 != b.x15)]) from by kernel_rfl) (by simp [allT,h15,h14,h13,h12,h11,h10,h9,h8,h7,h6,h5,h4,h3,h2])
 cases h1:(a.x1 != b.x1)
 rotate_left
 ·have e:lessN a b=decide (a.x1 < b.x1):=by simp [lessN,N16.list,lessL,h15,h14,h13,h12,h11,h10,h9,h8,h7,h6,h5,h4,h3,h2,h1]
  rw [e]
  exact ansO_run (noPS_ok _) (P:=Tryz.prog) (cs:=cs0) (sy:=[16]) (os:=[false,false,false,false,false,false,false,false,false,false,false,false,false,false,true]) (vs:=[]) (nn:=mask 211) (F:=100) (f:=211) (ob:=[(a.x1 != b.x1),!(a.x2 != b.x2),!(a.x3 != b.x3),!(a.x4 != b.x4),!(a.x5 != b.x5),!(a.x6 != b.x6),!(a.x7 != b.x7),!(a.x8 != b.x8),!(a.x9 != b.x9),!(a.x10 != b.x10),!(a.x11 != b.x11),!(a.x12 != b.x12),!(a.x13 != b.x13),!(a.x14 != b.x14),!(a.x15 != b.x15)]) (show ansO (run1O Tryz.prog noPS cs0 [16] [false,false,false,false,false,false,false,false,false,false,false,false,false,false,true] [] (mask 211) 100 211 [a.av,b.av] [] Tryz.prog.globals.size)=some (.bool (decide (a.x1 < b.x1)),[(a.x1 != b.x1),!(a.x2 != b.x2),!(a.x3 != b.x3),!(a.x4 != b.x4),!(a.x5 != b.x5),!(a.x6 != b.x6),!(a.x7 != b.x7),!(a.x8 != b.x8),!(a.x9 != b.x9),!(a.x10 != b.x10),!(a.x11 != b.x11),!(a.x12 != b.x12),!(a.x13 != b.x13),!(a.x14 != b.x14),!(a.x15 != b.x15)]) from by kernel_rfl) (by simp [allT,h15,h14,h13,h12,h11,h10,h9,h8,h7,h6,h5,h4,h3,h2,h1])
 cases h0:(a.x0 != b.x0)
 rotate_left
 ·have e:lessN a b=decide (a.x0 < b.x0):=by simp [lessN,N16.list,lessL,h15,h14,h13,h12,h11,h10,h9,h8,h7,h6,h5,h4,h3,h2,h1,h0]
  rw [e]
  exact ansO_run (noPS_ok _) (P:=Tryz.prog) (cs:=cs0) (sy:=[16]) (os:=[false,false,false,false,false,false,false,false,false,false,false,false,false,false,false,true]) (vs:=[]) (nn:=mask 211) (F:=100) (f:=211) (ob:=[(a.x0 != b.x0),!(a.x1 != b.x1),!(a.x2 != b.x2),!(a.x3 != b.x3),!(a.x4 != b.x4),!(a.x5 != b.x5),!(a.x6 != b.x6),!(a.x7 != b.x7),!(a.x8 != b.x8),!(a.x9 != b.x9),!(a.x10 != b.x10),!(a.x11 != b.x11),!(a.x12 != b.x12),!(a.x13 != b.x13),!(a.x14 != b.x14),!(a.x15 != b.x15)]) (show ansO (run1O Tryz.prog noPS cs0 [16] [false,false,false,false,false,false,false,false,false,false,false,false,false,false,false,true] [] (mask 211) 100 211 [a.av,b.av] [] Tryz.prog.globals.size)=some (.bool (decide (a.x0 < b.x0)),[(a.x0 != b.x0),!(a.x1 != b.x1),!(a.x2 != b.x2),!(a.x3 != b.x3),!(a.x4 != b.x4),!(a.x5 != b.x5),!(a.x6 != b.x6),!(a.x7 != b.x7),!(a.x8 != b.x8),!(a.x9 != b.x9),!(a.x10 != b.x10),!(a.x11 != b.x11),!(a.x12 != b.x12),!(a.x13 != b.x13),!(a.x14 != b.x14),!(a.x15 != b.x15)]) from by kernel_rfl) (by simp [allT,h15,h14,h13,h12,h11,h10,h9,h8,h7,h6,h5,h4,h3,h2,h1,h0])
 have e:lessN a b=false:=by simp [lessN,N16.list,lessL,h15,h14,h13,h12,h11,h10,h9,h8,h7,h6,h5,h4,h3,h2,h1,h0]
 rw [e]
 exact ansO_run (noPS_ok _) (P:=Tryz.prog) (cs:=cs0) (sy:=[16]) (os:=[false,false,false,false,false,false,false,false,false,false,false,false,false,false,false,false]) (vs:=[]) (nn:=mask 211) (F:=100) (f:=211) (ob:=[!(a.x0 != b.x0),!(a.x1 != b.x1),!(a.x2 != b.x2),!(a.x3 != b.x3),!(a.x4 != b.x4),!(a.x5 != b.x5),!(a.x6 != b.x6),!(a.x7 != b.x7),!(a.x8 != b.x8),!(a.x9 != b.x9),!(a.x10 != b.x10),!(a.x11 != b.x11),!(a.x12 != b.x12),!(a.x13 != b.x13),!(a.x14 != b.x14),!(a.x15 != b.x15)]) (show ansO (run1O Tryz.prog noPS cs0 [16] [false,false,false,false,false,false,false,false,false,false,false,false,false,false,false,false] [] (mask 211) 100 211 [a.av,b.av] [] Tryz.prog.globals.size)=some (.bool false,[!(a.x0 != b.x0),!(a.x1 != b.x1),!(a.x2 != b.x2),!(a.x3 != b.x3),!(a.x4 != b.x4),!(a.x5 != b.x5),!(a.x6 != b.x6),!(a.x7 != b.x7),!(a.x8 != b.x8),!(a.x9 != b.x9),!(a.x10 != b.x10),!(a.x11 != b.x11),!(a.x12 != b.x12),!(a.x13 != b.x13),!(a.x14 != b.x14),!(a.x15 != b.x15)]) from by kernel_rfl) (by simp [allT,h15,h14,h13,h12,h11,h10,h9,h8,h7,h6,h5,h4,h3,h2,h1,h0])
def g211:List AVal→Option EffA
 | [.agg [.u64 a0,.u64 a1,.u64 a2,.u64 a3,.u64 a4,.u64 a5,.u64 a6,.u64 a7,.u64 a8,.u64 a9,.u64 a10,.u64 a11,.u64 a12,.u64 a13,.u64 a14,.u64 a15],.agg [.u64 b0,.u64 b1,.u64 b2,.u64 b3,.u64 b4,.u64 b5,.u64 b6,.u64 b7,.u64 b8,.u64 b9,.u64 b10,.u64 b11,.u64 b12,.u64 b13,.u64 b14,.u64 b15]]=>some (.pure (.bool (lessN (N16.mk a0 a1 a2 a3 a4 a5 a6 a7 a8 a9 a10 a11 a12 a13 a14 a15) (N16.mk b0 b1 b2 b3 b4 b5 b6 b7 b8 b9 b10 b11 b12 b13 b14 b15))))
 | _=>none
theorem g211_ok:CSOk Tryz.prog (csOne 211 g211):=csOne_ok fun args e he=>by
 unfold g211 at he
 split at he
 ·rename_i a0 a1 a2 a3 a4 a5 a6 a7 a8 a9 a10 a11 a12 a13 a14 a15 b0 b1 b2 b3 b4 b5 b6 b7 b8 b9 b10 b11 b12 b13 b14 b15
  cases he
  exact callOk_val cs0_ok hmix (run211 (N16.mk a0 a1 a2 a3 a4 a5 a6 a7 a8 a9 a10 a11 a12 a13 a14 a15) (N16.mk b0 b1 b2 b3 b4 b5 b6 b7 b8 b9 b10 b11 b12 b13 b14 b15)) rfl rfl
 ·cases he
theorem run183 (a0 a1 a2 a3 a4 a5 a6 a7 a8 a9 a10 a11 a12 a13 a14 a15 a16 a17 a18 a19 a20 a21 a22 a23 a24 a25 a26 a27 a28 a29 a30 a31:UInt8):(run1 Tryz.prog cs0 (mask 183) 100 183 [.str [a0,a1,a2,a3,a4,a5,a6,a7,a8,a9,a10,a11,a12,a13,a14,a15,a16,a17,a18,a19,a20,a21,a22,a23,a24,a25,a26,a27,a28,a29,a30,a31]] [] Tryz.prog.globals.size).map (·.1)=some (partsN [a0,a1,a2,a3,a4,a5,a6,a7,a8,a9,a10,a11,a12,a13,a14,a15,a16,a17,a18,a19,a20,a21,a22,a23,a24,a25,a26,a27,a28,a29,a30,a31]).av:=by kernel_rfl
def g183:List AVal→Option EffA
 | [.str [a0,a1,a2,a3,a4,a5,a6,a7,a8,a9,a10,a11,a12,a13,a14,a15,a16,a17,a18,a19,a20,a21,a22,a23,a24,a25,a26,a27,a28,a29,a30,a31]]=>some (.pure (partsN [a0,a1,a2,a3,a4,a5,a6,a7,a8,a9,a10,a11,a12,a13,a14,a15,a16,a17,a18,a19,a20,a21,a22,a23,a24,a25,a26,a27,a28,a29,a30,a31]).av)
 | _=>none
theorem g183_ok:CSOk Tryz.prog (csOne 183 g183):=csOne_ok fun args e he=>by
 unfold g183 at he
 split at he
 ·rename_i a0 a1 a2 a3 a4 a5 a6 a7 a8 a9 a10 a11 a12 a13 a14 a15 a16 a17 a18 a19 a20 a21 a22 a23 a24 a25 a26 a27 a28 a29 a30 a31
  cases he
  exact callOk_val cs0_ok hmix (run183 a0 a1 a2 a3 a4 a5 a6 a7 a8 a9 a10 a11 a12 a13 a14 a15 a16 a17 a18 a19 a20 a21 a22 a23 a24 a25 a26 a27 a28 a29 a30 a31) rfl rfl
 ·cases he
theorem run140 (a:N16):(run1 Tryz.prog cs0 (mask 140) 100 140 [(N16.av a)] [] Tryz.prog.globals.size).map (·.1)=some (.str (bytesN a)):=by kernel_rfl
def g140:List AVal→Option EffA
 | [.agg [.u64 a0,.u64 a1,.u64 a2,.u64 a3,.u64 a4,.u64 a5,.u64 a6,.u64 a7,.u64 a8,.u64 a9,.u64 a10,.u64 a11,.u64 a12,.u64 a13,.u64 a14,.u64 a15]]=>some (.pure (.str (bytesN (N16.mk a0 a1 a2 a3 a4 a5 a6 a7 a8 a9 a10 a11 a12 a13 a14 a15))))
 | _=>none
theorem g140_ok:CSOk Tryz.prog (csOne 140 g140):=csOne_ok fun args e he=>by
 unfold g140 at he
 split at he
 ·rename_i a0 a1 a2 a3 a4 a5 a6 a7 a8 a9 a10 a11 a12 a13 a14 a15
  cases he
  exact callOk_val cs0_ok hmix (run140 (N16.mk a0 a1 a2 a3 a4 a5 a6 a7 a8 a9 a10 a11 a12 a13 a14 a15)) rfl rfl
 ·cases he
theorem run213 (a:N16) (b:N16):(run1 Tryz.prog cs0 (mask 213) 100 213 [(N16.av a),(N16.av b)] [] Tryz.prog.globals.size).map (·.1)=some (N16.av (minusN a b)):=by kernel_rfl
def g213:List AVal→Option EffA
 | [.agg [.u64 a0,.u64 a1,.u64 a2,.u64 a3,.u64 a4,.u64 a5,.u64 a6,.u64 a7,.u64 a8,.u64 a9,.u64 a10,.u64 a11,.u64 a12,.u64 a13,.u64 a14,.u64 a15],.agg [.u64 b0,.u64 b1,.u64 b2,.u64 b3,.u64 b4,.u64 b5,.u64 b6,.u64 b7,.u64 b8,.u64 b9,.u64 b10,.u64 b11,.u64 b12,.u64 b13,.u64 b14,.u64 b15]]=>some (.pure (N16.av (minusN (N16.mk a0 a1 a2 a3 a4 a5 a6 a7 a8 a9 a10 a11 a12 a13 a14 a15) (N16.mk b0 b1 b2 b3 b4 b5 b6 b7 b8 b9 b10 b11 b12 b13 b14 b15))))
 | _=>none
theorem g213_ok:CSOk Tryz.prog (csOne 213 g213):=csOne_ok fun args e he=>by
 unfold g213 at he
 split at he
 ·rename_i a0 a1 a2 a3 a4 a5 a6 a7 a8 a9 a10 a11 a12 a13 a14 a15 b0 b1 b2 b3 b4 b5 b6 b7 b8 b9 b10 b11 b12 b13 b14 b15
  cases he
  exact callOk_val cs0_ok hmix (run213 (N16.mk a0 a1 a2 a3 a4 a5 a6 a7 a8 a9 a10 a11 a12 a13 a14 a15) (N16.mk b0 b1 b2 b3 b4 b5 b6 b7 b8 b9 b10 b11 b12 b13 b14 b15)) rfl rfl
 ·cases he
theorem run212  : (run1 Tryz.prog cs0 (mask 212) 100 212 [] [] Tryz.prog.globals.size).map (·.1)=some (primeN.av):=by kernel_rfl
def g212:List AVal→Option EffA
 | []=>some (.pure (primeN.av))
 | _=>none
theorem g212_ok:CSOk Tryz.prog (csOne 212 g212):=csOne_ok fun args e he=>by
 unfold g212 at he
 split at he
 ·skip
  cases he
  exact callOk_val cs0_ok hmix (run212 ) rfl rfl
 ·cases he
theorem run182 (a:N16):(run1 Tryz.prog cs0 (mask 182) 100 182 [(N16.av a)] [] Tryz.prog.globals.size).map (·.1)=some (N32.av (wideN a)):=by kernel_rfl
def g182:List AVal→Option EffA
 | [.agg [.u64 a0,.u64 a1,.u64 a2,.u64 a3,.u64 a4,.u64 a5,.u64 a6,.u64 a7,.u64 a8,.u64 a9,.u64 a10,.u64 a11,.u64 a12,.u64 a13,.u64 a14,.u64 a15]]=>some (.pure (N32.av (wideN (N16.mk a0 a1 a2 a3 a4 a5 a6 a7 a8 a9 a10 a11 a12 a13 a14 a15))))
 | _=>none
theorem g182_ok:CSOk Tryz.prog (csOne 182 g182):=csOne_ok fun args e he=>by
 unfold g182 at he
 split at he
 ·rename_i a0 a1 a2 a3 a4 a5 a6 a7 a8 a9 a10 a11 a12 a13 a14 a15
  cases he
  exact callOk_val cs0_ok hmix (run182 (N16.mk a0 a1 a2 a3 a4 a5 a6 a7 a8 a9 a10 a11 a12 a13 a14 a15)) rfl rfl
 ·cases he
def nr1:CS:=(csAlt (csOne 211 g211) (csAlt (csOne 183 g183) (csAlt (csOne 140 g140) (csAlt (csOne 213 g213) (csAlt (csOne 212 g212) (csOne 182 g182))))))
theorem nr1_ok:CSOk Tryz.prog nr1:=(csAlt_ok g211_ok (csAlt_ok g183_ok (csAlt_ok g140_ok (csAlt_ok g213_ok (csAlt_ok g212_ok g182_ok)))))
def Sd1 (t0 t:N32) (k:Int):SA:=⟨[(0,t0.av),(1,.ptr 5 0),(2,.ptr 13 0),(3,.int .i64 k)],[(5,.cells false t.cells),(13,.cells false zeroN.cells)],29⟩
def Sd1e (t0 t:N32):SA:=⟨[(0,t0.av),(1,.ptr 5 0),(2,.ptr 13 0),(3,.int .i64 3),(15,.bool false)],[(5,.cells false t.cells),(13,.cells false zeroN.cells)],45⟩
def Sd2 (t0 t:N32) (k:Int):SA:=⟨[(0,t0.av),(1,.ptr 5 0),(2,.ptr 13 0),(3,.int .i64 3),(15,.bool false),(8,.int .i64 k)],[(5,.cells false t.cells),(13,.cells false zeroN.cells)],53⟩
def Sd2e (t0 t:N32):SA:=⟨[(0,t0.av),(1,.ptr 5 0),(2,.ptr 13 0),(3,.int .i64 3),(15,.bool false),(8,.int .i64 3),(58,.bool false)],[(5,.cells false t.cells),(13,.cells false zeroN.cells)],69⟩
noncomputable def prd:List Code:=pieces (bodyOf Tryz.f181)
noncomputable def bd1:Code:=loopOf (prd.getD 2 .skip)
noncomputable def bd2:Code:=loopOf (prd.getD 4 .skip)
theorem red0 (t:N32):segO (evSO Tryz.prog noPS nr1 [] 99 (mask 181) 100 Tryz.prog.globals.size ((prd.drop 0).take 2) ⟨startT [t.av] 0,[],Tryz.prog.globals.size⟩ ⟨[],[],[]⟩)=some (Sd1 t t 0,[]):=by kernel_rfl
theorem red1_0 (t0 s t:N32):roundO Tryz.prog noPS nr1 [] [] [] 99 (mask 181) 100 Tryz.prog.globals.size bd1 (Sd1 t0 s 0) (Sd1 t0 t 0)=some (Sd1 t0 (pass1 t) 1,[]):=by kernel_rfl
theorem red1_1 (t0 s t:N32):roundO Tryz.prog noPS nr1 [] [] [] 99 (mask 181) 100 Tryz.prog.globals.size bd1 (Sd1 t0 s 0) (Sd1 t0 t 1)=some (Sd1 t0 (pass1 t) 2,[]):=by kernel_rfl
theorem red1_2 (t0 s t:N32):roundO Tryz.prog noPS nr1 [] [] [] 99 (mask 181) 100 Tryz.prog.globals.size bd1 (Sd1 t0 s 0) (Sd1 t0 t 2)=some (Sd1 t0 (pass1 t) 3,[]):=by kernel_rfl
theorem red1e (t0 t:N32):evC Tryz.prog nr1 99 (mask 181) 100 Tryz.prog.globals.size bd1 (Sd1 t0 t 3)=some (.exit 0,Sd1e t0 t):=by kernel_rfl
theorem red1x (t0 t:N32):segO (evSO Tryz.prog noPS nr1 [] 99 (mask 181) 100 Tryz.prog.globals.size ((prd.drop 3).take 1) (Sd1e t0 t) ⟨[],[],[]⟩)=some (Sd2 t0 t 0,[]):=by kernel_rfl
theorem red2_0 (t0 s t:N32):roundO Tryz.prog noPS nr1 [] [] [] 99 (mask 181) 100 Tryz.prog.globals.size bd2 (Sd2 t0 s 0) (Sd2 t0 t 0)=some (Sd2 t0 (pass3 t) 1,[]):=by kernel_rfl
theorem red2_1 (t0 s t:N32):roundO Tryz.prog noPS nr1 [] [] [] 99 (mask 181) 100 Tryz.prog.globals.size bd2 (Sd2 t0 s 0) (Sd2 t0 t 1)=some (Sd2 t0 (pass3 t) 2,[]):=by kernel_rfl
theorem red2_2 (t0 s t:N32):roundO Tryz.prog noPS nr1 [] [] [] 99 (mask 181) 100 Tryz.prog.globals.size bd2 (Sd2 t0 s 0) (Sd2 t0 t 2)=some (Sd2 t0 (pass3 t) 3,[]):=by kernel_rfl
theorem red2e (t0 t:N32):evC Tryz.prog nr1 99 (mask 181) 100 Tryz.prog.globals.size bd2 (Sd2 t0 t 3)=some (.exit 6,Sd2e t0 t):=by kernel_rfl
theorem red3a (t0 t:N32):ansF Tryz.prog Tryz.f181 (evSO Tryz.prog noPS nr1 [94] 99 (mask 181) 100 Tryz.prog.globals.size (prd.drop 5) (Sd2e t0 t) ⟨[false],[],[]⟩)=some (t.lo.av,[!(!(lessN t.lo primeN))]):=by kernel_rfl
theorem red3b (t0 t:N32):ansF Tryz.prog Tryz.f181 (evSO Tryz.prog noPS nr1 [94] 99 (mask 181) 100 Tryz.prog.globals.size (prd.drop 5) (Sd2e t0 t) ⟨[true,false],[],[]⟩)=some ((minusN t.lo primeN).av,[!(!(lessN (minusN t.lo primeN) primeN)),!(lessN t.lo primeN)]):=by kernel_rfl
theorem red3c (t0 t:N32):ansF Tryz.prog Tryz.f181 (evSO Tryz.prog noPS nr1 [94] 99 (mask 181) 100 Tryz.prog.globals.size (prd.drop 5) (Sd2e t0 t) ⟨[true,true,false],[],[]⟩)=some ((minusN (minusN t.lo primeN) primeN).av,[!(!(lessN (minusN (minusN t.lo primeN) primeN) primeN)),!(lessN (minusN t.lo primeN) primeN),!(lessN t.lo primeN)]):=by kernel_rfl
theorem red3 (t0 t:N32) (h:lessN (downN (downN t.lo)) primeN=true):finV Tryz.prog Tryz.f181 (evS Tryz.prog nr1 99 (mask 181) 100 Tryz.prog.globals.size (prd.drop 5) (Sd2e t0 t))=some (downN (downN t.lo)).av:=by
 cases h1:lessN t.lo primeN
 ·have e1:downN t.lo=(minusN t.lo primeN):=by simp only [downN,h1,cond_false]
  rw [e1] at h ⊢
  cases h2:lessN (minusN t.lo primeN) primeN
  ·have e2:downN (minusN t.lo primeN)=(minusN (minusN t.lo primeN) primeN):=by simp only [downN,h2,cond_false]
   rw [e2] at h ⊢
   exact ansF_ok (noPS_ok _) (red3c t0 t) (by simp [allT,h1,h2,h])
  ·have e2:downN (minusN t.lo primeN)=(minusN t.lo primeN):=by simp only [downN,h2,cond_true]
   rw [e2]
   exact ansF_ok (noPS_ok _) (red3b t0 t) (by simp [allT,h1,h2])
 ·have e1:downN t.lo=t.lo:=by simp only [downN,h1,cond_true]
  rw [e1,e1]
  exact ansF_ok (noPS_ok _) (red3a t0 t) (by simp [allT,h1])
theorem run181 (t:N32) (hb:bndL t.list=true):(run1 Tryz.prog nr1 (mask 181) 100 181 [t.av] [] Tryz.prog.globals.size).map (·.1)=some (redN t).av:=by
 rw [run1_val (fn:=Tryz.f181) (c:=bodyOf Tryz.f181) (by kernel_rfl) (by kernel_rfl) (by kernel_rfl)]
 have hA:=segO_ok (noPS_ok _) (red0 t) rfl
 rw [List.drop_zero] at hA
 show finV Tryz.prog Tryz.f181 (evS Tryz.prog nr1 99 (mask 181) 100 Tryz.prog.globals.size prd ⟨startT [t.av] 0,[],Tryz.prog.globals.size⟩)=_
 rw [hA]
 have hB:=evS_loop (P:=Tryz.prog) (cs:=nr1) (nt:=99) (nn:=mask 181) (F:=100) (bs:=Tryz.prog.globals.size) (l:=prd) (k:=2) (id:=0) (b:=bd1) (by kernel_rfl) (fun j=>match j with | 0=>Sd1 t t 0 | 1=>Sd1 t (pass1 t) 1 | 2=>Sd1 t (pass1 (pass1 t)) 2 | _=>Sd1 t (pass1 (pass1 (pass1 t))) 3) 3 (s1:=Sd1e t (pass1 (pass1 (pass1 t))))
  (fun j hj=>match j,hj with
   | 0,_=>roundO_ok (noPS_ok _) (red1_0 t t t) rfl
   | 1,_=>roundO_ok (noPS_ok _) (red1_1 t t (pass1 t)) rfl
   | 2,_=>roundO_ok (noPS_ok _) (red1_2 t t (pass1 (pass1 t))) rfl) (red1e t _) (by omega)
 have hC:=segO_ok (noPS_ok _) (red1x t (pass1 (pass1 (pass1 t)))) rfl
 have hD:=evS_loop (P:=Tryz.prog) (cs:=nr1) (nt:=99) (nn:=mask 181) (F:=100) (bs:=Tryz.prog.globals.size) (l:=prd) (k:=4) (id:=6) (b:=bd2) (by kernel_rfl) (fun j=>match j with | 0=>Sd2 t (pass1 (pass1 (pass1 t))) 0 | 1=>Sd2 t (pass3 (pass1 (pass1 (pass1 t)))) 1 | 2=>Sd2 t (pass3 (pass3 (pass1 (pass1 (pass1 t))))) 2 | _=>Sd2 t (passes t) 3) 3 (s1:=Sd2e t (passes t))
  (fun j hj=>match j,hj with
   | 0,_=>roundO_ok (noPS_ok _) (red2_0 t (pass1 (pass1 (pass1 t))) (pass1 (pass1 (pass1 t)))) rfl
   | 1,_=>roundO_ok (noPS_ok _) (red2_1 t (pass1 (pass1 (pass1 t))) (pass3 (pass1 (pass1 (pass1 t))))) rfl
   | 2,_=>roundO_ok (noPS_ok _) (red2_2 t (pass1 (pass1 (pass1 t))) (pass3 (pass3 (pass1 (pass1 (pass1 t)))))) rfl) (red2e t _) (by omega)
 have hB':evS Tryz.prog nr1 99 (mask 181) 100 Tryz.prog.globals.size (prd.drop 2) (Sd1 t t 0)=evS Tryz.prog nr1 99 (mask 181) 100 Tryz.prog.globals.size (prd.drop 3) (Sd1e t (pass1 (pass1 (pass1 t)))):=hB
 have hD':evS Tryz.prog nr1 99 (mask 181) 100 Tryz.prog.globals.size (prd.drop 4) (Sd2 t (pass1 (pass1 (pass1 t))) 0)=evS Tryz.prog nr1 99 (mask 181) 100 Tryz.prog.globals.size (prd.drop 5) (Sd2e t (passes t)):=hD
 rw [hB',hC,hD']
 exact red3 t (passes t) (redN_less t hb)
def p181:List AVal→Option (EffA × Bool)
 | [.agg [.u64 a0,.u64 a1,.u64 a2,.u64 a3,.u64 a4,.u64 a5,.u64 a6,.u64 a7,.u64 a8,.u64 a9,.u64 a10,.u64 a11,.u64 a12,.u64 a13,.u64 a14,.u64 a15,.u64 a16,.u64 a17,.u64 a18,.u64 a19,.u64 a20,.u64 a21,.u64 a22,.u64 a23,.u64 a24,.u64 a25,.u64 a26,.u64 a27,.u64 a28,.u64 a29,.u64 a30,.u64 a31]]=>some (.pure (redN (N32.mk (N16.mk a0 a1 a2 a3 a4 a5 a6 a7 a8 a9 a10 a11 a12 a13 a14 a15) (N16.mk a16 a17 a18 a19 a20 a21 a22 a23 a24 a25 a26 a27 a28 a29 a30 a31))).av,bndL (N32.mk (N16.mk a0 a1 a2 a3 a4 a5 a6 a7 a8 a9 a10 a11 a12 a13 a14 a15) (N16.mk a16 a17 a18 a19 a20 a21 a22 a23 a24 a25 a26 a27 a28 a29 a30 a31)).list)
 | _=>none
theorem p181_ok:CSOk Tryz.prog (csP (psOne 181 p181)):=csP_one fun args v he=>by
 unfold p181 at he
 split at he
 ·rename_i a0 a1 a2 a3 a4 a5 a6 a7 a8 a9 a10 a11 a12 a13 a14 a15 a16 a17 a18 a19 a20 a21 a22 a23 a24 a25 a26 a27 a28 a29 a30 a31
  simp only [Option.some.injEq,Prod.mk.injEq] at he
  obtain ⟨rfl,h⟩:=he
  exact callOk_val nr1_ok hmix (run181 (N32.mk (N16.mk a0 a1 a2 a3 a4 a5 a6 a7 a8 a9 a10 a11 a12 a13 a14 a15) (N16.mk a16 a17 a18 a19 a20 a21 a22 a23 a24 a25 a26 a27 a28 a29 a30 a31)) h) rfl rfl
 ·cases he
def nr2:CS:=csAlt (csP (psOne 181 p181)) nr1
theorem nr2_ok:CSOk Tryz.prog nr2:=csAlt_ok p181_ok nr1_ok
theorem nr2_ps:PSOk (psOne 181 p181) nr2:=csP_ok
end Go.Proofs.YtanaackimepkdaaGreatDoor
namespace Go.Proofs.YtanaackimepkdaaGreatDoor
open Go Go.Eng Go.Num
theorem run135 (a:UInt32):(run1 Tryz.prog nr1 (mask 135) 100 135 [(.u32 a)] [] Tryz.prog.globals.size).map (·.1)=some (N16.av (smallN a)):=by kernel_rfl
def g135:List AVal→Option EffA
 | [.u32 a]=>some (.pure (N16.av (smallN a)))
 | _=>none
theorem g135_ok:CSOk Tryz.prog (csOne 135 g135):=csOne_ok fun args e he=>by
 unfold g135 at he
 split at he
 ·rename_i a
  cases he
  exact callOk_val nr1_ok hmix (run135 a) rfl rfl
 ·cases he
theorem run134t (a0 a1 a2 a3 a4 a5 a6 a7 a8 a9 a10 a11 a12 a13 a14 a15 a16 a17 a18 a19 a20 a21 a22 a23 a24 a25 a26 a27 a28 a29 a30 a31:UInt8):(run1 Tryz.prog nr2 (mask 134) 100 134 [.str [a0,a1,a2,a3,a4,a5,a6,a7,a8,a9,a10,a11,a12,a13,a14,a15,a16,a17,a18,a19,a20,a21,a22,a23,a24,a25,a26,a27,a28,a29,a30,a31]] [] Tryz.prog.globals.size).map (·.1)=some (ofP [a0,a1,a2,a3,a4,a5,a6,a7,a8,a9,a10,a11,a12,a13,a14,a15,a16,a17,a18,a19,a20,a21,a22,a23,a24,a25,a26,a27,a28,a29,a30,a31]).av:=
 ansO_run nr2_ps (P:=Tryz.prog) (cs:=nr2) (sy:=[6]) (os:=[]) (vs:=[]) (nn:=mask 134) (F:=100) (f:=134) (ob:=[bndL (wideN (partsN [a0,a1,a2,a3,a4,a5,a6,a7,a8,a9,a10,a11,a12,a13,a14,a15,a16,a17,a18,a19,a20,a21,a22,a23,a24,a25,a26,a27,a28,a29,a30,a31])).list]) (show ansO (run1O Tryz.prog (psOne 181 p181) nr2 [6] [] [] (mask 134) 100 134 [.str [a0,a1,a2,a3,a4,a5,a6,a7,a8,a9,a10,a11,a12,a13,a14,a15,a16,a17,a18,a19,a20,a21,a22,a23,a24,a25,a26,a27,a28,a29,a30,a31]] [] Tryz.prog.globals.size)=some ((ofP [a0,a1,a2,a3,a4,a5,a6,a7,a8,a9,a10,a11,a12,a13,a14,a15,a16,a17,a18,a19,a20,a21,a22,a23,a24,a25,a26,a27,a28,a29,a30,a31]).av,[bndL (wideN (partsN [a0,a1,a2,a3,a4,a5,a6,a7,a8,a9,a10,a11,a12,a13,a14,a15,a16,a17,a18,a19,a20,a21,a22,a23,a24,a25,a26,a27,a28,a29,a30,a31])).list]) from by kernel_rfl) (by rw [ofP_bnd (s:=[a0,a1,a2,a3,a4,a5,a6,a7,a8,a9,a10,a11,a12,a13,a14,a15,a16,a17,a18,a19,a20,a21,a22,a23,a24,a25,a26,a27,a28,a29,a30,a31]) rfl]; rfl)
theorem run134 (s:List UInt8) (h:isLen s 32=true):(run1 Tryz.prog nr2 (mask 134) 100 134 [.str s] [] Tryz.prog.globals.size).map (·.1)=some (ofP s).av:=by
 obtain ⟨a0,a1,a2,a3,a4,a5,a6,a7,a8,a9,a10,a11,a12,a13,a14,a15,a16,a17,a18,a19,a20,a21,a22,a23,a24,a25,a26,a27,a28,a29,a30,a31,rfl⟩:=len32 (isLen_eq.1 h)
 exact run134t a0 a1 a2 a3 a4 a5 a6 a7 a8 a9 a10 a11 a12 a13 a14 a15 a16 a17 a18 a19 a20 a21 a22 a23 a24 a25 a26 a27 a28 a29 a30 a31
def p134:List AVal→Option (EffA × Bool)
 | [.str a]=>some (.pure ((ofP a).av),isLen a 32)
 | _=>none
theorem p134_ok:CSOk Tryz.prog (csP (psOne 134 p134)):=csP_one fun args v he=>by
 unfold p134 at he
 split at he
 ·rename_i a
  simp only [Option.some.injEq,Prod.mk.injEq] at he
  obtain ⟨rfl,h⟩:=he
  exact callOk_val nr2_ok hmix (run134 a h) rfl rfl
 ·cases he
theorem run136 (a b:N16) (h:(okB a && okB b)=true):(run1 Tryz.prog nr2 (mask 136) 200 136 [a.av,b.av] [] Tryz.prog.globals.size).map (·.1)=some (addP a b).av:=by
 rw [Bool.and_eq_true,okB_iff,okB_iff] at h
 exact ansO_run nr2_ps (P:=Tryz.prog) (cs:=nr2) (sy:=[23]) (os:=[]) (vs:=[]) (nn:=mask 136) (F:=200) (f:=136) (ob:=[bndL (N32.list ⟨N16.ofL (sumL a.list b.list),zeroN⟩)]) (show ansO (run1O Tryz.prog (psOne 181 p181) nr2 [23] [] [] (mask 136) 200 136 [a.av,b.av] [] Tryz.prog.globals.size)=some ((addP a b).av,[bndL (N32.list ⟨N16.ofL (sumL a.list b.list),zeroN⟩)]) from by kernel_rfl) (by rw [(addP_bnd a b h.1 h.2).1]; rfl)
def p136:List AVal→Option (EffA × Bool)
 | [.agg [.u64 a0,.u64 a1,.u64 a2,.u64 a3,.u64 a4,.u64 a5,.u64 a6,.u64 a7,.u64 a8,.u64 a9,.u64 a10,.u64 a11,.u64 a12,.u64 a13,.u64 a14,.u64 a15],.agg [.u64 b0,.u64 b1,.u64 b2,.u64 b3,.u64 b4,.u64 b5,.u64 b6,.u64 b7,.u64 b8,.u64 b9,.u64 b10,.u64 b11,.u64 b12,.u64 b13,.u64 b14,.u64 b15]]=>some (.pure ((addP (N16.mk a0 a1 a2 a3 a4 a5 a6 a7 a8 a9 a10 a11 a12 a13 a14 a15) (N16.mk b0 b1 b2 b3 b4 b5 b6 b7 b8 b9 b10 b11 b12 b13 b14 b15)).av),okB (N16.mk a0 a1 a2 a3 a4 a5 a6 a7 a8 a9 a10 a11 a12 a13 a14 a15) && okB (N16.mk b0 b1 b2 b3 b4 b5 b6 b7 b8 b9 b10 b11 b12 b13 b14 b15))
 | _=>none
theorem p136_ok:CSOk Tryz.prog (csP (psOne 136 p136)):=csP_one fun args v he=>by
 unfold p136 at he
 split at he
 ·rename_i a0 a1 a2 a3 a4 a5 a6 a7 a8 a9 a10 a11 a12 a13 a14 a15 b0 b1 b2 b3 b4 b5 b6 b7 b8 b9 b10 b11 b12 b13 b14 b15
  simp only [Option.some.injEq,Prod.mk.injEq] at he
  obtain ⟨rfl,h⟩:=he
  exact callOk_val nr2_ok hmix (run136 (N16.mk a0 a1 a2 a3 a4 a5 a6 a7 a8 a9 a10 a11 a12 a13 a14 a15) (N16.mk b0 b1 b2 b3 b4 b5 b6 b7 b8 b9 b10 b11 b12 b13 b14 b15) h) rfl rfl
 ·cases he
theorem run137 (a b:N16) (h:(okB a && okB b)=true):(run1 Tryz.prog nr2 (mask 137) 200 137 [a.av,b.av] [] Tryz.prog.globals.size).map (·.1)=some (mulP a b).av:=by
 rw [Bool.and_eq_true,okB_iff,okB_iff] at h
 exact ansO_run nr2_ps (P:=Tryz.prog) (cs:=nr2) (sy:=[34]) (os:=[]) (vs:=[]) (nn:=mask 137) (F:=200) (f:=137) (ob:=[bndL (prodT a b).list]) (show ansO (run1O Tryz.prog (psOne 181 p181) nr2 [34] [] [] (mask 137) 200 137 [a.av,b.av] [] Tryz.prog.globals.size)=some ((mulP a b).av,[bndL (prodT a b).list]) from by kernel_rfl) (by rw [(mulP_bnd a b h.1 h.2).1]; rfl)
def p137:List AVal→Option (EffA × Bool)
 | [.agg [.u64 a0,.u64 a1,.u64 a2,.u64 a3,.u64 a4,.u64 a5,.u64 a6,.u64 a7,.u64 a8,.u64 a9,.u64 a10,.u64 a11,.u64 a12,.u64 a13,.u64 a14,.u64 a15],.agg [.u64 b0,.u64 b1,.u64 b2,.u64 b3,.u64 b4,.u64 b5,.u64 b6,.u64 b7,.u64 b8,.u64 b9,.u64 b10,.u64 b11,.u64 b12,.u64 b13,.u64 b14,.u64 b15]]=>some (.pure ((mulP (N16.mk a0 a1 a2 a3 a4 a5 a6 a7 a8 a9 a10 a11 a12 a13 a14 a15) (N16.mk b0 b1 b2 b3 b4 b5 b6 b7 b8 b9 b10 b11 b12 b13 b14 b15)).av),okB (N16.mk a0 a1 a2 a3 a4 a5 a6 a7 a8 a9 a10 a11 a12 a13 a14 a15) && okB (N16.mk b0 b1 b2 b3 b4 b5 b6 b7 b8 b9 b10 b11 b12 b13 b14 b15))
 | _=>none
theorem p137_ok:CSOk Tryz.prog (csP (psOne 137 p137)):=csP_one fun args v he=>by
 unfold p137 at he
 split at he
 ·rename_i a0 a1 a2 a3 a4 a5 a6 a7 a8 a9 a10 a11 a12 a13 a14 a15 b0 b1 b2 b3 b4 b5 b6 b7 b8 b9 b10 b11 b12 b13 b14 b15
  simp only [Option.some.injEq,Prod.mk.injEq] at he
  obtain ⟨rfl,h⟩:=he
  exact callOk_val nr2_ok hmix (run137 (N16.mk a0 a1 a2 a3 a4 a5 a6 a7 a8 a9 a10 a11 a12 a13 a14 a15) (N16.mk b0 b1 b2 b3 b4 b5 b6 b7 b8 b9 b10 b11 b12 b13 b14 b15) h) rfl rfl
 ·cases he
theorem run184 (a:N16):(run1 Tryz.prog nr2 (mask 184) 100 184 [a.av] [] Tryz.prog.globals.size).map (·.1)=some (negP a).av:=by
 cases h:isZ16 a
 ·have e:negP a=minusN primeN a:=by simp only [negP,h,cond_false]
  rw [e]
  exact ansO_run (noPS_ok _) (P:=Tryz.prog) (cs:=nr2) (sy:=[5]) (os:=[false]) (vs:=[]) (nn:=mask 184) (F:=100) (f:=184) (ob:=[!isZ16 a]) (show ansO (run1O Tryz.prog noPS nr2 [5] [false] [] (mask 184) 100 184 [a.av] [] Tryz.prog.globals.size)=some ((minusN primeN a).av,[!isZ16 a]) from by kernel_rfl) (by simp [allT,h])
 ·have e:negP a=a:=by simp only [negP,h,cond_true]
  rw [e]
  exact ansO_run (noPS_ok _) (P:=Tryz.prog) (cs:=nr2) (sy:=[5]) (os:=[true]) (vs:=[]) (nn:=mask 184) (F:=100) (f:=184) (ob:=[isZ16 a]) (show ansO (run1O Tryz.prog noPS nr2 [5] [true] [] (mask 184) 100 184 [a.av] [] Tryz.prog.globals.size)=some (a.av,[isZ16 a]) from by kernel_rfl) (by simp [allT,h])
def g184:List AVal→Option EffA
 | [.agg [.u64 a0,.u64 a1,.u64 a2,.u64 a3,.u64 a4,.u64 a5,.u64 a6,.u64 a7,.u64 a8,.u64 a9,.u64 a10,.u64 a11,.u64 a12,.u64 a13,.u64 a14,.u64 a15]]=>some (.pure (N16.av (negP (N16.mk a0 a1 a2 a3 a4 a5 a6 a7 a8 a9 a10 a11 a12 a13 a14 a15))))
 | _=>none
theorem g184_ok:CSOk Tryz.prog (csOne 184 g184):=csOne_ok fun args e he=>by
 unfold g184 at he
 split at he
 ·rename_i a0 a1 a2 a3 a4 a5 a6 a7 a8 a9 a10 a11 a12 a13 a14 a15
  cases he
  exact callOk_val nr2_ok hmix (run184 (N16.mk a0 a1 a2 a3 a4 a5 a6 a7 a8 a9 a10 a11 a12 a13 a14 a15)) rfl rfl
 ·cases he
def np1:PS:=psAlt (psOne 136 p136) (psAlt (psOne 137 p137) (psOne 134 p134))
theorem np1_ok:CSOk Tryz.prog (csP np1):=csP_alt p136_ok (csP_alt p137_ok (p134_ok))
def nr3a:CS:=(csAlt (csOne 135 g135) (csAlt (csOne 184 g184) nr2))
theorem nr3a_ok:CSOk Tryz.prog nr3a:=(csAlt_ok g135_ok (csAlt_ok g184_ok nr2_ok))
def nr3:CS:=csAlt (csP np1) nr3a
theorem nr3_ok:CSOk Tryz.prog nr3:=csAlt_ok np1_ok nr3a_ok
theorem nr3_ps:PSOk np1 nr3:=csP_ok
theorem run138 (a b:N16) (h:(okB a && okB b)=true):(run1 Tryz.prog nr3 (mask 138) 200 138 [a.av,b.av] [] Tryz.prog.globals.size).map (·.1)=some (subP a b).av:=by
 rw [Bool.and_eq_true,okB_iff,okB_iff] at h
 exact ansO_run nr3_ps (P:=Tryz.prog) (cs:=nr3) (sy:=[8]) (os:=[]) (vs:=[]) (nn:=mask 138) (F:=200) (f:=138) (ob:=[okB a && okB (negP b)]) (show ansO (run1O Tryz.prog np1 nr3 [8] [] [] (mask 138) 200 138 [a.av,b.av] [] Tryz.prog.globals.size)=some ((subP a b).av,[okB a && okB (negP b)]) from by kernel_rfl) (by rw [okB_iff.2 h.1,okB_iff.2 (negP_ok b h.2)]; rfl)
def p138:List AVal→Option (EffA × Bool)
 | [.agg [.u64 a0,.u64 a1,.u64 a2,.u64 a3,.u64 a4,.u64 a5,.u64 a6,.u64 a7,.u64 a8,.u64 a9,.u64 a10,.u64 a11,.u64 a12,.u64 a13,.u64 a14,.u64 a15],.agg [.u64 b0,.u64 b1,.u64 b2,.u64 b3,.u64 b4,.u64 b5,.u64 b6,.u64 b7,.u64 b8,.u64 b9,.u64 b10,.u64 b11,.u64 b12,.u64 b13,.u64 b14,.u64 b15]]=>some (.pure ((subP (N16.mk a0 a1 a2 a3 a4 a5 a6 a7 a8 a9 a10 a11 a12 a13 a14 a15) (N16.mk b0 b1 b2 b3 b4 b5 b6 b7 b8 b9 b10 b11 b12 b13 b14 b15)).av),okB (N16.mk a0 a1 a2 a3 a4 a5 a6 a7 a8 a9 a10 a11 a12 a13 a14 a15) && okB (N16.mk b0 b1 b2 b3 b4 b5 b6 b7 b8 b9 b10 b11 b12 b13 b14 b15))
 | _=>none
theorem p138_ok:CSOk Tryz.prog (csP (psOne 138 p138)):=csP_one fun args v he=>by
 unfold p138 at he
 split at he
 ·rename_i a0 a1 a2 a3 a4 a5 a6 a7 a8 a9 a10 a11 a12 a13 a14 a15 b0 b1 b2 b3 b4 b5 b6 b7 b8 b9 b10 b11 b12 b13 b14 b15
  simp only [Option.some.injEq,Prod.mk.injEq] at he
  obtain ⟨rfl,h⟩:=he
  exact callOk_val nr3_ok hmix (run138 (N16.mk a0 a1 a2 a3 a4 a5 a6 a7 a8 a9 a10 a11 a12 a13 a14 a15) (N16.mk b0 b1 b2 b3 b4 b5 b6 b7 b8 b9 b10 b11 b12 b13 b14 b15) h) rfl rfl
 ·cases he
def Spw (a x:N16) (bits:List Bool) (ro:Bool) (i:Int):SA:=⟨[(0,a.av),(1,.slice 5 0 bits.length 1),(2,.ptr 6 0),(4,.ptr 14 0),(5,.ptr 30 0),(6,.int .i64 i)],[(5,.cells ro (bits.map .bool)),(6,.cells false a.cells),(14,.cells false zeroN.cells),(30,.cells false x.cells)],54⟩
noncomputable def ppw:List Code:=pieces (bodyOf Tryz.f185)
noncomputable def bpw:Code:=loopOf (ppw.getD 3 .skip)
theorem powA (F:Nat) (a:N16) (bits:List Bool) (ro:Bool):segO (evSO Tryz.prog np1 nr3 [] 25 (mask 185) F 6 ((ppw.drop 0).take 3) ⟨startT [a.av,.slice 5 0 bits.length 1] 0,[(5,.cells ro (bits.map .bool))],6⟩ ⟨[],[],[]⟩)=some (Spw a (smallN 1) bits ro 0,[]):=by kernel_rfl
theorem powT (F:Nat) (a x0 x:N16) (bits:List Bool) (ro:Bool) (j i:Int):roundO2 Tryz.prog np1 nr3 [11,16,19,20,23] [true,true] [.bool true] 25 (mask 185) F 6 bpw (Spw a x0 bits ro j) (Spw a x bits ro i)=some (Spw a (mulP (mulP x x) a) bits ro (IntKind.wrap .i64 (i+1)),[okB (mulP x x) && okB a,true,isAt (bits.map .bool) (0+i.toNat * 1) (.bool true),(decide ((0:Int)≤i) && decide (i < (bits.length:Int))),okB x && okB x,decide (i < (bits.length:Int))]):=by kernel_rfl
theorem pow_ok (a x:N16) (bits:List Bool) (ro:Bool) (i:Int):okS Tryz.prog (Spw a x bits ro i)=true:=by
 have hg:Tryz.prog.globals.size=5:=by kernel_rfl
 simp [okS,hg,Spw,ltT,ltH,ltV,ltS,ltL,ltL_bool,N16.av,N16.cells,nble]
theorem powN (F:Nat) (a x0 x:N16) (bits:List Bool) (ro:Bool) (j i:Int):roundO2 Tryz.prog np1 nr3 [11,16,19,20,23] [true,false] [.bool false] 25 (mask 185) F 6 bpw (Spw a x0 bits ro j) (Spw a x bits ro i)=some (Spw a (mulP x x) bits ro (IntKind.wrap .i64 (i+1)),[true,isAt (bits.map .bool) (0+i.toNat * 1) (.bool false),(decide ((0:Int)≤i) && decide (i < (bits.length:Int))),okB x && okB x,decide (i < (bits.length:Int))]):=by kernel_rfl
theorem powR (F:Nat) (a x0 x:N16) (bits:List Bool) (ro:Bool) (j:Int) (i:Nat) (b:Bool) (hx:x.ok) (ha:a.ok) (hb:bits[i]? = some b) (hl:bits.length < 100000):roundA (evC Tryz.prog nr3 25 (mask 185) F 6 bpw) (headA Tryz.prog 6 (Spw a x0 bits ro j)) (Spw a x bits ro i)=some (Spw a (cond b (mulP (mulP x x) a) (mulP x x)) bits ro ((i+1:Nat):Int)):=by
 have hi:i < bits.length:=(List.getElem?_eq_some_iff.1 hb).1
 have hw:IntKind.wrap .i64 ((i:Int)+1)=((i+1:Nat):Int):=wrapI _ (by omega) (by omega)
 have h1:=okB_iff.2 hx
 have h2:=okB_iff.2 ha
 have h3:=okB_iff.2 (mulP_val x x hx hx).1
 have hat:∀ c,b=c→isAt (bits.map AVal.bool) (0+(i:Int).toNat * 1) (.bool c)=true:=fun c hc=>by
  subst hc
  have e:0+(i:Int).toNat * 1=i:=by omega
  unfold isAt
  rw [e,List.getElem?_map,hb]
  simp [eqS]
 have d1:decide ((0:Int)≤(i:Int))=true:=by rw [decide_eq_true_iff]; omega
 have d2:decide ((i:Int) < (bits.length:Int))=true:=by rw [decide_eq_true_iff]; omega
 cases b
 ·have:=roundO2_ok nr3_ps (powN F a x0 x bits ro j i) (by rw [hat false rfl,d1,d2,h1]; rfl) (pow_ok _ _ _ _ _)
  rw [hw] at this
  exact this
 ·have:=roundO2_ok nr3_ps (powT F a x0 x bits ro j i) (by rw [hat true rfl,d1,d2,h1,h2,h3]; rfl) (pow_ok _ _ _ _ _)
  rw [hw] at this
  exact this
theorem powE (F:Nat) (a x:N16) (bits:List Bool) (ro:Bool) (i:Int):(match evT Tryz.prog np1 nr3 [11] 25 (mask 185) F 6 bpw (Spw a x bits ro i) ⟨[false],[],[]⟩ with | some (.exit 0,s1,q)=>(match evS Tryz.prog nr3 25 (mask 185) F 6 (ppw.drop 4) s1 with | some (XA.ret,s2)=>(match resA Tryz.prog s2.T s2.H Tryz.f185.results.toList with | some [v]=>some (v,aget s2.H 5,q.ob) | _=>none) | _=>none) | _=>none)=some (x.av,some (.cells ro (bits.map .bool)),[!decide (i < (bits.length:Int))]):=by kernel_rfl
def accpw (a:N16) (bits:List Bool):Nat→N16
 | 0=>smallN 1
 | j+1=>cond (bits.getD j false) (mulP (mulP (accpw a bits j) (accpw a bits j)) a) (mulP (accpw a bits j) (accpw a bits j))
theorem accpw_eq (a:N16) (bits:List Bool):∀ j,j≤bits.length→powF a (accpw a bits j) (bits.drop j)=powP a bits
 | 0,_=>rfl
 | j+1,h=>by
  have:=accpw_eq a bits j (by omega)
  have hj:j < bits.length:=by omega
  rw [← this,List.drop_eq_getElem_cons hj]
  have e:bits[j]=bits.getD j false:=by rw [List.getD_eq_getElem?_getD,List.getElem?_eq_getElem hj]; rfl
  rw [e]; rfl
theorem accpw_ok (a:N16) (ha:a.ok) (bits:List Bool):∀ j,(accpw a bits j).ok
 | 0=>(smallN_val 1).1
 | j+1=>by
  have h1:=(mulP_val _ _ (accpw_ok a ha bits j) (accpw_ok a ha bits j)).1
  show (cond (bits.getD j false) (mulP (mulP (accpw a bits j) (accpw a bits j)) a) (mulP (accpw a bits j) (accpw a bits j))).ok
  cases bits.getD j false
  ·exact h1
  ·exact (mulP_val _ _ h1 ha).1
theorem run185 (a:N16) (ha:a.ok) (bits:List Bool) (hl:bits.length < 1000) (ro:Bool):∃ r,run1 Tryz.prog nr3 (mask 185) 1000 185 [a.av,.slice 5 0 bits.length 1] [(5,.cells ro (bits.map .bool))] 6=some r∧r.1=(powP a bits).av∧aget r.2.1 5=some (.cells ro (bits.map .bool)):=by
 have hx:accpw a bits bits.length=powP a bits:=by
  have:=accpw_eq a bits bits.length (Nat.le_refl _)
  rw [List.drop_length] at this
  exact this
 have he:=powE 1000 a (powP a bits) bits ro bits.length
 split at he
 ·rename_i s1 q h1
  split at he
  ·rename_i s2 h2
   split at he
   ·rename_i v h3
    simp only [Option.some.injEq,Prod.mk.injEq] at he
    obtain ⟨rfl,e2,e3⟩:=he
    have hA:=segO_ok nr3_ps (powA 1000 a bits ro) rfl
    rw [List.drop_zero] at hA
    have hB:=evS_loop (P:=Tryz.prog) (cs:=nr3) (nt:=25) (nn:=mask 185) (F:=1000) (bs:=6) (l:=ppw) (k:=3) (id:=0) (b:=bpw) (by kernel_rfl) (fun j=>Spw a (accpw a bits j) bits ro j) bits.length (s1:=s1)
     (fun j hj=>powR 1000 a _ _ bits ro _ j (bits.getD j false) (accpw_ok a ha bits j) ha (by rw [List.getD_eq_getElem?_getD,List.getElem?_eq_getElem hj]; rfl) (by omega))
     (by
      show evC Tryz.prog nr3 25 (mask 185) 1000 6 bpw (Spw a (accpw a bits bits.length) bits ro bits.length)=_
      rw [hx]
      exact (evT_ok nr3_ps _ _ _ _ _ _ h1 (by rw [e3]; simp [allT])).1) hl
    have hev:evS Tryz.prog nr3 Tryz.f185.ntmps (mask 185) 1000 6 (pieces (bodyOf Tryz.f185)) ⟨startT [a.av,.slice 5 0 bits.length 1] 0,[(5,.cells ro (bits.map .bool))],6⟩=some (XA.ret,s2):=by
     refine Eq.trans hA (Eq.trans hB ?_)
     exact h2
    refine ⟨_,run1_of (fn:=Tryz.f185) (c:=bodyOf Tryz.f185) (by kernel_rfl) (by kernel_rfl) (by kernel_rfl) hev rfl |>.trans (by rw [h3]),rfl,e2⟩
   ·cases he
  ·cases he
 ·cases he
def gbits (a:N16) (len:Nat) (c:List AVal):Option AVal:=
 match boolsA c with
 | some l=>cond (Nat.beq l.length len && Nat.ble l.length 999) (some (powP a l).av) none
 | none=>none
def p185:List AVal→Option (EffA × Bool)
 | [.agg [.u64 a0,.u64 a1,.u64 a2,.u64 a3,.u64 a4,.u64 a5,.u64 a6,.u64 a7,.u64 a8,.u64 a9,.u64 a10,.u64 a11,.u64 a12,.u64 a13,.u64 a14,.u64 a15],.slice n 0 len 1]=>some (.read n fun ob=>match ob with | .cells _ c=>cond (ltL 0 c) (match gbits (N16.mk a0 a1 a2 a3 a4 a5 a6 a7 a8 a9 a10 a11 a12 a13 a14 a15) len c with | some v=>cond (ltV 0 v) (some v) none | none=>none) none | .mp _=>none,okB (N16.mk a0 a1 a2 a3 a4 a5 a6 a7 a8 a9 a10 a11 a12 a13 a14 a15))
 | _=>none
theorem p185_ok:CSOk Tryz.prog (csP (psOne 185 p185)):=csP_one fun args v he=>by
 unfold p185 at he
 split at he
 ·rename_i a0 a1 a2 a3 a4 a5 a6 a7 a8 a9 a10 a11 a12 a13 a14 a15 n len
  simp only [Option.some.injEq,Prod.mk.injEq] at he
  obtain ⟨rfl,h⟩:=he
  refine callOk_slice (nn:=mask 185) (F:=1000) nr3_ok hmix rfl (fun s=>rfl) fun ro c v hg hv hc => ?_
  unfold gbits at hg
  split at hg
  ·rename_i l hl
   cases hb:(Nat.beq l.length len && Nat.ble l.length 999) with
   | false=>rw [hb] at hg; cases hg
   | true =>
    rw [hb] at hg
    cases hg
    simp only [Bool.and_eq_true] at hb
    obtain rfl:=Nat.eq_of_beq_eq_true hb.1
    have:=Nat.le_of_ble_eq_true hb.2
    rw [boolsA_eq hl]
    exact run185 (N16.mk a0 a1 a2 a3 a4 a5 a6 a7 a8 a9 a10 a11 a12 a13 a14 a15) (okB_iff.1 h) l (by omega) ro
  ·cases hg
 ·cases he
def np2:PS:=psAlt (psOne 138 p138) (psAlt (psOne 185 p185) (psAlt (psOne 136 p136) (psAlt (psOne 137 p137) (psOne 134 p134))))
theorem np2_ok:CSOk Tryz.prog (csP np2):=csP_alt p138_ok (csP_alt p185_ok (csP_alt p136_ok (csP_alt p137_ok (p134_ok))))
theorem run186_255:newR (run1 Tryz.prog nr1 (mask 186) 300 186 [.int .i64 255,.int .i64 21] [] Tryz.prog.globals.size)=some (21,255,1,(bitsL 255 21).map .bool):=by kernel_rfl
theorem run186_252:newR (run1 Tryz.prog nr1 (mask 186) 300 186 [.int .i64 252,.int .i64 2] [] Tryz.prog.globals.size)=some (21,252,1,(bitsL 252 2).map .bool):=by kernel_rfl
theorem run186_253:newR (run1 Tryz.prog nr1 (mask 186) 300 186 [.int .i64 253,.int .i64 5] [] Tryz.prog.globals.size)=some (21,253,1,(bitsL 253 5).map .bool):=by kernel_rfl
def g186:List AVal→Option EffA
 | [.int .i64 (.ofNat n),.int .i64 (.ofNat k)]=>cond (Nat.beq n 255 && Nat.beq k 21) (some (.alloc (.cells false ((bitsL 255 21).map .bool)) fun b=>.slice b 0 255 1)) (cond (Nat.beq n 252 && Nat.beq k 2) (some (.alloc (.cells false ((bitsL 252 2).map .bool)) fun b=>.slice b 0 252 1)) (cond (Nat.beq n 253 && Nat.beq k 5) (some (.alloc (.cells false ((bitsL 253 5).map .bool)) fun b=>.slice b 0 253 1)) none))
 | _=>none
theorem g186_ok:CSOk Tryz.prog (csOne 186 g186):=csOne_ok fun args e he=>by
 unfold g186 at he
 split at he
 ·rename_i n k
  cases h1:(Nat.beq n 255 && Nat.beq k 21) with
  | true =>
   rw [h1] at he
   cases he
   simp only [Bool.and_eq_true] at h1
   rw [Nat.eq_of_beq_eq_true h1.1,Nat.eq_of_beq_eq_true h1.2]
   exact callOk_new2 nr1_ok hmix rfl run186_255 (ltL_bool 0 _) (by kernel_rfl)
  | false =>
   rw [h1] at he
   cases h2:(Nat.beq n 252 && Nat.beq k 2) with
   | true =>
    rw [h2] at he
    cases he
    simp only [Bool.and_eq_true] at h2
    rw [Nat.eq_of_beq_eq_true h2.1,Nat.eq_of_beq_eq_true h2.2]
    exact callOk_new2 nr1_ok hmix rfl run186_252 (ltL_bool 0 _) (by kernel_rfl)
   | false =>
    rw [h2] at he
    cases h3:(Nat.beq n 253 && Nat.beq k 5) with
    | true =>
     rw [h3] at he
     cases he
     simp only [Bool.and_eq_true] at h3
     rw [Nat.eq_of_beq_eq_true h3.1,Nat.eq_of_beq_eq_true h3.2]
     exact callOk_new2 nr1_ok hmix rfl run186_253 (ltL_bool 0 _) (by kernel_rfl)
    | false=>rw [h3] at he; cases he
 ·cases he
def nr3b:CS:=(csAlt (csOne 186 g186) nr3a)
theorem nr3b_ok:CSOk Tryz.prog nr3b:=(csAlt_ok g186_ok nr3a_ok)
def nr4:CS:=csAlt (csP np2) nr3b
theorem nr4_ok:CSOk Tryz.prog nr4:=csAlt_ok np2_ok nr3b_ok
theorem nr4_ps:PSOk np2 nr4:=csP_ok
end Go.Proofs.YtanaackimepkdaaGreatDoor
namespace Go.Proofs.YtanaackimepkdaaGreatDoor
open Go Go.Eng Go.Num
theorem run139 (a:N16) (h:okB a=true):(run1 Tryz.prog nr4 (mask 139) 300 139 [a.av] [] Tryz.prog.globals.size).map (·.1)=some (invP a).av:=
 ansO_run nr4_ps (P:=Tryz.prog) (cs:=nr4) (sy:=[5]) (os:=[]) (vs:=[]) (nn:=mask 139) (F:=300) (f:=139) (ob:=[okB a]) (show ansO (run1O Tryz.prog np2 nr4 [5] [] [] (mask 139) 300 139 [a.av] [] Tryz.prog.globals.size)=some ((invP a).av,[okB a]) from by kernel_rfl) (by rw [h]; rfl)
def p139:List AVal→Option (EffA × Bool)
 | [.agg [.u64 a0,.u64 a1,.u64 a2,.u64 a3,.u64 a4,.u64 a5,.u64 a6,.u64 a7,.u64 a8,.u64 a9,.u64 a10,.u64 a11,.u64 a12,.u64 a13,.u64 a14,.u64 a15]]=>some (.pure ((invP (N16.mk a0 a1 a2 a3 a4 a5 a6 a7 a8 a9 a10 a11 a12 a13 a14 a15)).av),okB (N16.mk a0 a1 a2 a3 a4 a5 a6 a7 a8 a9 a10 a11 a12 a13 a14 a15))
 | _=>none
theorem p139_ok:CSOk Tryz.prog (csP (psOne 139 p139)):=csP_one fun args v he=>by
 unfold p139 at he
 split at he
 ·rename_i a0 a1 a2 a3 a4 a5 a6 a7 a8 a9 a10 a11 a12 a13 a14 a15
  simp only [Option.some.injEq,Prod.mk.injEq] at he
  obtain ⟨rfl,h⟩:=he
  exact callOk_val nr4_ok hmix (run139 (N16.mk a0 a1 a2 a3 a4 a5 a6 a7 a8 a9 a10 a11 a12 a13 a14 a15) h) rfl rfl
 ·cases he
end Go.Proofs.YtanaackimepkdaaGreatDoor
namespace Go.Num
open Go Go.Eng
def E5.val (a:E5):Nat:=a.x0.toNat+2251799813685248 * a.x1.toNat+5070602400912917605986812821504 * a.x2.toNat+11417981541647679048466287755595961091061972992 * a.x3.toNat+25711008708143844408671393477458601640355247900524685364822016 * a.x4.toNat
def E5.ok (a:E5):Prop:=a.x0.toNat < 2251799813947392∧a.x1.toNat < 2251799813947392∧a.x2.toNat < 2251799813947392∧a.x3.toNat < 2251799813947392∧a.x4.toNat < 2251799813947392
theorem and51 (x:UInt64):(x &&& m51).toNat=x.toNat % 2251799813685248:=and_nat x 51 _ rfl
theorem shr51 (x:UInt64):(shr_u64 x 51).toNat=x.toNat / 2251799813685248:=shr_u64_nat x 51 (by omega)
theorem low_plus (x y:UInt64):((x &&& m51)+shr_u64 y 51).toNat=x.toNat % 2251799813685248+y.toNat / 2251799813685248:=by
 have hy:=y.toNat_lt
 rw [UInt64.toNat_add,and51,shr51]
 simp only [Nat.reducePow] at *
 omega
theorem n19:(19:UInt64).toNat=19:=rfl
theorem low_plus19 (x y:UInt64):((x &&& m51)+19 * shr_u64 y 51).toNat=x.toNat % 2251799813685248+19 * (y.toNat / 2251799813685248):=by
 have hy:=y.toNat_lt
 rw [UInt64.toNat_add,UInt64.toNat_mul,and51,shr51,n19]
 simp only [Nat.reducePow] at *
 omega
theorem carried_val (a:E5):(carriedE a).ok∧(carriedE a).val+Pq * (a.x4.toNat / 2251799813685248)=a.val:=by
 have h0:=a.x0.toNat_lt; have h1:=a.x1.toNat_lt; have h2:=a.x2.toNat_lt; have h3:=a.x3.toNat_lt; have h4:=a.x4.toNat_lt
 simp only [Nat.reducePow] at h0 h1 h2 h3 h4
 have e0:=low_plus19 a.x0 a.x4
 have e1:=low_plus a.x1 a.x0
 have e2:=low_plus a.x2 a.x1
 have e3:=low_plus a.x3 a.x2
 have e4:=low_plus a.x4 a.x3
 unfold E5.ok E5.val carriedE Pq
 simp only [e0,e1,e2,e3,e4]
 omega
theorem carried_ok (a:E5):(carriedE a).ok:=(carried_val a).1
theorem carried_mod (a:E5):(carriedE a).val % Pq=a.val % Pq:=by
 rw [← (carried_val a).2,Nat.add_mul_mod_self_left]
theorem add_nat (x y:UInt64) (h:x.toNat+y.toNat < 18446744073709551616):(x+y).toNat=x.toNat+y.toNat:=by
 rw [UInt64.toNat_add]
 exact Nat.mod_eq_of_lt h
theorem addE_val (a b:E5) (ha:a.ok) (hb:b.ok):(addE a b).ok∧(addE a b).val % Pq=(a.val+b.val) % Pq:=by
 refine ⟨carried_ok _,?_⟩
 unfold addE
 rw [carried_mod]
 unfold E5.ok at ha hb
 have e:E5.val ⟨a.x0+b.x0,a.x1+b.x1,a.x2+b.x2,a.x3+b.x3,a.x4+b.x4⟩=a.val+b.val:=by
  unfold E5.val
  rw [add_nat a.x0 b.x0 (by omega),add_nat a.x1 b.x1 (by omega),add_nat a.x2 b.x2 (by omega),add_nat a.x3 b.x3 (by omega),add_nat a.x4 b.x4 (by omega)]
  omega
 rw [e]
theorem sub_nat (x k y:UInt64) (h1:x.toNat+k.toNat < 18446744073709551616) (h2:y.toNat≤k.toNat):(x+k - y).toNat=x.toNat+k.toNat - y.toNat:=by
 rw [UInt64.toNat_sub,UInt64.toNat_add]
 simp only [Nat.reducePow]
 omega
theorem k0_nat:(4503599627370458:UInt64).toNat=4503599627370458:=rfl
theorem k1_nat:(4503599627370494:UInt64).toNat=4503599627370494:=rfl
theorem subE_val (a b:E5) (ha:a.ok) (hb:b.ok):(subE a b).ok∧(subE a b).val % Pq=(a.val+(2 * Pq - b.val)) % Pq∧b.val≤2 * Pq:=by
 unfold E5.ok at ha hb
 have hle:b.val≤2 * Pq:=by unfold E5.val Pq; omega
 refine ⟨carried_ok _,?_,hle⟩
 unfold subE
 rw [carried_mod]
 have e:E5.val ⟨a.x0+4503599627370458 - b.x0,a.x1+4503599627370494 - b.x1,a.x2+4503599627370494 - b.x2,a.x3+4503599627370494 - b.x3,a.x4+4503599627370494 - b.x4⟩=a.val+(2 * Pq - b.val):=by
  have hl:=hle
  unfold E5.val Pq at *
  rw [sub_nat a.x0 _ b.x0 (by rw [k0_nat]; omega) (by rw [k0_nat]; omega),sub_nat a.x1 _ b.x1 (by rw [k1_nat]; omega) (by rw [k1_nat]; omega),sub_nat a.x2 _ b.x2 (by rw [k1_nat]; omega) (by rw [k1_nat]; omega),sub_nat a.x3 _ b.x3 (by rw [k1_nat]; omega) (by rw [k1_nat]; omega),sub_nat a.x4 _ b.x4 (by rw [k1_nat]; omega) (by rw [k1_nat]; omega),k0_nat,k1_nat]
  omega
 rw [e]
def Wd.val (w:Wd):Nat:=18446744073709551616 * w.hi.toNat+w.lo.toNat
theorem plus_val (w:Wd) (a b:UInt64) (h:w.val+a.toNat * b.toNat < 340282366920938463463374607431768211456):(plusE w a b).val=w.val+a.toNat * b.toNat:=by
 have hm:=mulHi_nat a b
 have hs:=addStep w.lo (a * b) false
 have hz:bn false=0:=rfl
 have hc:=bn_le (cyO w.lo (a * b) false)
 have hl:=w.lo.toNat_lt
 have hh:=w.hi.toNat_lt
 have hl2:=(w.lo+a * b+bit64 false).toNat_lt
 unfold Wd.val plusE at *
 simp only
 rw [UInt64.toNat_add,UInt64.toNat_add,bit64_nat]
 generalize a.toNat * b.toNat=p at *
 simp only [Nat.reducePow] at *
 omega
theorem shift_val (w:Wd) (h:w.val < 41538374868278621028243970633760768):(shiftE w).toNat=w.val / 2251799813685248:=by
 have hl:=w.lo.toNat_lt
 have hh:=w.hi.toNat_lt
 unfold shiftE
 rw [UInt64.toNat_or,shl_u64_nat _ 13 (by omega),shr51]
 unfold Wd.val at *
 simp only [Nat.reducePow] at *
 have h1:w.hi.toNat * 8192 % 18446744073709551616=w.hi.toNat * 8192:=Nat.mod_eq_of_lt (by omega)
 rw [h1]
 have h2:w.lo.toNat / 2251799813685248 < 2 ^ 13:=by simp only [Nat.reducePow]; omega
 have:=Nat.shiftLeft_add_eq_or_of_lt h2 w.hi.toNat
 rw [Nat.shiftLeft_eq] at this
 simp only [Nat.reducePow] at this
 rw [← this]
 omega
theorem lo_val (w:Wd):(w.lo &&& m51).toNat=w.val % 2251799813685248:=by
 rw [and51]
 unfold Wd.val
 have:18446744073709551616 * w.hi.toNat=2251799813685248 * (8192 * w.hi.toNat):=by omega
 omega
theorem mul19 (y:UInt64) (h:y.toNat < 2251799813947392):(19 * y).toNat=19 * y.toNat:=by
 rw [UInt64.toNat_mul,n19]
 simp only [Nat.reducePow]
 omega
theorem prod_le {x y B C:Nat}(hx:x≤B) (hy:y≤C):x * y≤B * C:=Nat.mul_le_mul hx hy
theorem five_val (w:Wd) (a0 a1 a2 a3 a4 b0 b1 b2 b3 b4:UInt64) (hw:w.val=0) (h0:a0.toNat * b0.toNat≤96342400000000000000000000000000) (h1:a1.toNat * b1.toNat≤96342400000000000000000000000000) (h2:a2.toNat * b2.toNat≤96342400000000000000000000000000) (h3:a3.toNat * b3.toNat≤96342400000000000000000000000000) (h4:a4.toNat * b4.toNat≤96342400000000000000000000000000) :
  (plusE (plusE (plusE (plusE (plusE w a0 b0) a1 b1) a2 b2) a3 b3) a4 b4).val=a0.toNat * b0.toNat+a1.toNat * b1.toNat+a2.toNat * b2.toNat+a3.toNat * b3.toNat+a4.toNat * b4.toNat:=by
 have e0:=plus_val w a0 b0 (by omega)
 have e1:=plus_val (plusE w a0 b0) a1 b1 (by omega)
 have e2:=plus_val (plusE (plusE w a0 b0) a1 b1) a2 b2 (by omega)
 have e3:=plus_val (plusE (plusE (plusE w a0 b0) a1 b1) a2 b2) a3 b3 (by omega)
 have e4:=plus_val (plusE (plusE (plusE (plusE w a0 b0) a1 b1) a2 b2) a3 b3) a4 b4 (by omega)
 omega
theorem mulE_val (a b:E5) (ha:a.ok) (hb:b.ok):(mulE a b).ok∧(mulE a b).val % Pq=a.val * b.val % Pq:=by
 refine ⟨carried_ok _,?_⟩
 unfold E5.ok at ha hb
 obtain ⟨a0,a1,a2,a3,a4⟩:=a
 obtain ⟨b0,b1,b2,b3,b4⟩:=b
 simp only at ha hb
 obtain ⟨ha0,ha1,ha2,ha3,ha4⟩:=ha
 obtain ⟨hb0,hb1,hb2,hb3,hb4⟩:=hb
 have hp:∀ x y:UInt64,x.toNat < 2251799813947392→y.toNat < 2251799813947392→x.toNat * y.toNat≤96342400000000000000000000000000:=fun x y hx hy=>Nat.le_trans (prod_le (Nat.le_of_lt hx) (Nat.le_of_lt hy)) (by omega)
 have hq:∀ x y:UInt64,x.toNat < 2251799813947392→y.toNat < 2251799813947392→x.toNat * (19 * y).toNat≤96342400000000000000000000000000∧x.toNat * (19 * y).toNat=19 * (x.toNat * y.toNat):=fun x y hx hy=>by
  rw [mul19 y hy]
  refine ⟨Nat.le_trans (prod_le (Nat.le_of_lt hx) (Nat.mul_le_mul_left 19 (Nat.le_of_lt hy))) (by omega),?_⟩
  rw [Nat.mul_left_comm]
 have hz:zeroWd.val=0:=rfl
 have w0:=five_val zeroWd a0 a1 a2 a3 a4 b0 (19 * b4) (19 * b3) (19 * b2) (19 * b1) hz (hp _ _ ha0 hb0) (hq _ _ ha1 hb4).1 (hq _ _ ha2 hb3).1 (hq _ _ ha3 hb2).1 (hq _ _ ha4 hb1).1
 have w1:=five_val zeroWd a0 a1 a2 a3 a4 b1 b0 (19 * b4) (19 * b3) (19 * b2) hz (hp _ _ ha0 hb1) (hp _ _ ha1 hb0) (hq _ _ ha2 hb4).1 (hq _ _ ha3 hb3).1 (hq _ _ ha4 hb2).1
 have w2:=five_val zeroWd a0 a1 a2 a3 a4 b2 b1 b0 (19 * b4) (19 * b3) hz (hp _ _ ha0 hb2) (hp _ _ ha1 hb1) (hp _ _ ha2 hb0) (hq _ _ ha3 hb4).1 (hq _ _ ha4 hb3).1
 have w3:=five_val zeroWd a0 a1 a2 a3 a4 b3 b2 b1 b0 (19 * b4) hz (hp _ _ ha0 hb3) (hp _ _ ha1 hb2) (hp _ _ ha2 hb1) (hp _ _ ha3 hb0) (hq _ _ ha4 hb4).1
 have w4:=five_val zeroWd a0 a1 a2 a3 a4 b4 b3 b2 b1 b0 hz (hp _ _ ha0 hb4) (hp _ _ ha1 hb3) (hp _ _ ha2 hb2) (hp _ _ ha3 hb1) (hp _ _ ha4 hb0)
 rw [(hq _ _ ha1 hb4).2,(hq _ _ ha2 hb3).2,(hq _ _ ha3 hb2).2,(hq _ _ ha4 hb1).2] at w0
 rw [(hq _ _ ha2 hb4).2,(hq _ _ ha3 hb3).2,(hq _ _ ha4 hb2).2] at w1
 rw [(hq _ _ ha3 hb4).2,(hq _ _ ha4 hb3).2] at w2
 rw [(hq _ _ ha4 hb4).2] at w3
 have b4':=hp _ _ ha0 hb4
 have p00:=hp _ _ ha0 hb0; have p01:=hp _ _ ha0 hb1; have p02:=hp _ _ ha0 hb2; have p03:=hp _ _ ha0 hb3
 have p10:=hp _ _ ha1 hb0; have p11:=hp _ _ ha1 hb1; have p12:=hp _ _ ha1 hb2; have p13:=hp _ _ ha1 hb3; have p14:=(hq _ _ ha1 hb4)
 have p20:=hp _ _ ha2 hb0; have p21:=hp _ _ ha2 hb1; have p22:=hp _ _ ha2 hb2; have p23:=(hq _ _ ha2 hb3); have p24:=(hq _ _ ha2 hb4)
 have p30:=hp _ _ ha3 hb0; have p31:=hp _ _ ha3 hb1; have p32:=(hq _ _ ha3 hb2); have p33:=(hq _ _ ha3 hb3); have p34:=(hq _ _ ha3 hb4)
 have p40:=hp _ _ ha4 hb0; have p41:=(hq _ _ ha4 hb1); have p42:=(hq _ _ ha4 hb2); have p43:=(hq _ _ ha4 hb3); have p44:=(hq _ _ ha4 hb4)
 have q14:=p14.1; have q23:=p23.1; have q24:=p24.1; have q32:=p32.1; have q33:=p33.1; have q34:=p34.1; have q41:=p41.1; have q42:=p42.1; have q43:=p43.1; have q44:=p44.1
 rw [p14.2] at q14; rw [p23.2] at q23; rw [p24.2] at q24; rw [p32.2] at q32; rw [p33.2] at q33; rw [p34.2] at q34; rw [p41.2] at q41; rw [p42.2] at q42; rw [p43.2] at q43; rw [p44.2] at q44
 have ex:E5.val ⟨a0,a1,a2,a3,a4⟩ * E5.val ⟨b0,b1,b2,b3,b4⟩ =
   (a0.toNat * b0.toNat+19 * (a1.toNat * b4.toNat)+19 * (a2.toNat * b3.toNat)+19 * (a3.toNat * b2.toNat)+19 * (a4.toNat * b1.toNat))
   + 2251799813685248 * (a0.toNat * b1.toNat+a1.toNat * b0.toNat+19 * (a2.toNat * b4.toNat)+19 * (a3.toNat * b3.toNat)+19 * (a4.toNat * b2.toNat))
   + 5070602400912917605986812821504 * (a0.toNat * b2.toNat+a1.toNat * b1.toNat+a2.toNat * b0.toNat+19 * (a3.toNat * b4.toNat)+19 * (a4.toNat * b3.toNat))
   + 11417981541647679048466287755595961091061972992 * (a0.toNat * b3.toNat+a1.toNat * b2.toNat+a2.toNat * b1.toNat+a3.toNat * b0.toNat+19 * (a4.toNat * b4.toNat))
   + 25711008708143844408671393477458601640355247900524685364822016 * (a0.toNat * b4.toNat+a1.toNat * b3.toNat+a2.toNat * b2.toNat+a3.toNat * b1.toNat+a4.toNat * b0.toNat)
   + Pq * (a1.toNat * b4.toNat+a2.toNat * b3.toNat+a3.toNat * b2.toNat+a4.toNat * b1.toNat+2251799813685248 * (a2.toNat * b4.toNat+a3.toNat * b3.toNat+a4.toNat * b2.toNat)+5070602400912917605986812821504 * (a3.toNat * b4.toNat+a4.toNat * b3.toNat)+11417981541647679048466287755595961091061972992 * (a4.toNat * b4.toNat)):=by
  unfold E5.val Pq
  simp only
  generalize a0.toNat=u0; generalize a1.toNat=u1; generalize a2.toNat=u2; generalize a3.toNat=u3; generalize a4.toNat=u4
  generalize b0.toNat=v0; generalize b1.toNat=v1; generalize b2.toNat=v2; generalize b3.toNat=v3; generalize b4.toNat=v4
  grind
 rw [ex,Nat.add_mul_mod_self_left]
 unfold mulE
 rw [carried_mod]
 unfold rowE
 simp only
 generalize hW0:plusE (plusE (plusE (plusE (plusE zeroWd a0 b0) a1 (19 * b4)) a2 (19 * b3)) a3 (19 * b2)) a4 (19 * b1)=W0 at *
 generalize hW1:plusE (plusE (plusE (plusE (plusE zeroWd a0 b1) a1 b0) a2 (19 * b4)) a3 (19 * b3)) a4 (19 * b2)=W1 at *
 generalize hW2:plusE (plusE (plusE (plusE (plusE zeroWd a0 b2) a1 b1) a2 b0) a3 (19 * b4)) a4 (19 * b3)=W2 at *
 generalize hW3:plusE (plusE (plusE (plusE (plusE zeroWd a0 b3) a1 b2) a2 b1) a3 b0) a4 (19 * b4)=W3 at *
 generalize hW4:plusE (plusE (plusE (plusE (plusE zeroWd a0 b4) a1 b3) a2 b2) a3 b1) a4 b0=W4' at *
 rw [← w0,← w1,← w2,← w3,← w4]
 have l0:W0.val≤481712000000000000000000000000000:=by omega
 have l1:W1.val≤481712000000000000000000000000000:=by omega
 have l2:W2.val≤481712000000000000000000000000000:=by omega
 have l3:W3.val≤481712000000000000000000000000000:=by omega
 have l4:W4'.val≤25353013000000000000000000000000:=by
  have r:∀ x y:UInt64,x.toNat < 2251799813947392→y.toNat < 2251799813947392→x.toNat * y.toNat≤5070602600000000000000000000000:=fun x y hx hy=>Nat.le_trans (prod_le (Nat.le_of_lt hx) (Nat.le_of_lt hy)) (by omega)
  have r1:=r _ _ ha0 hb4; have r2:=r _ _ ha1 hb3; have r3:=r _ _ ha2 hb2; have r4:=r _ _ ha3 hb1; have r5:=r _ _ ha4 hb0
  omega
 clear w0 w1 w2 w3 w4 ex p00 p01 p02 p03 p10 p11 p12 p13 p14 p20 p21 p22 p23 p24 p30 p31 p32 p33 p34 p40 p41 p42 p43 p44 q14 q23 q24 q32 q33 q34 q41 q42 q43 q44 hp hq b4'
 have s0:=shift_val W0 (by omega)
 have s1:=shift_val W1 (by omega)
 have s2:=shift_val W2 (by omega)
 have s3:=shift_val W3 (by omega)
 have s4:=shift_val W4' (by omega)
 have t0:=lo_val W0
 have t1:=lo_val W1
 have t2:=lo_val W2
 have t3:=lo_val W3
 have t4:=lo_val W4'
 have c0:((W0.lo &&& m51)+19 * shiftE W4').toNat=W0.val % 2251799813685248+19 * (W4'.val / 2251799813685248):=by
  rw [UInt64.toNat_add,UInt64.toNat_mul,n19,t0,s4]
  simp only [Nat.reducePow]
  omega
 have c1:=add_nat (W1.lo &&& m51) (shiftE W0) (by omega)
 have c2:=add_nat (W2.lo &&& m51) (shiftE W1) (by omega)
 have c3:=add_nat (W3.lo &&& m51) (shiftE W2) (by omega)
 have c4:=add_nat (W4'.lo &&& m51) (shiftE W3) (by omega)
 have fin:E5.val ⟨(W0.lo &&& m51)+19 * shiftE W4',(W1.lo &&& m51)+shiftE W0,(W2.lo &&& m51)+shiftE W1,(W3.lo &&& m51)+shiftE W2,(W4'.lo &&& m51)+shiftE W3⟩+Pq * (W4'.val / 2251799813685248)=W0.val+2251799813685248 * W1.val+5070602400912917605986812821504 * W2.val+11417981541647679048466287755595961091061972992 * W3.val+25711008708143844408671393477458601640355247900524685364822016 * W4'.val:=by
  unfold E5.val Pq
  simp only
  rw [c0,c1,c2,c3,c4,s0,s1,s2,s3,t1,t2,t3,t4]
  omega
 rw [← fin,Nat.add_mul_mod_self_left]
end Go.Num
