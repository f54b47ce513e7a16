/- Texts Num5, Num8, Wn3, Wn4, Wn5, Num9: what they show that this claim uses. -/
import Derived.Test.YtcplgmgpagekfaaGreatDoorP11
import Derived.Test.YtcplgmgpagekfaaGreatDoorP6
set_option maxRecDepth 100000
set_option maxHeartbeats 1000000
set_option linter.unusedVariables false
set_option linter.unusedSimpArgs false
namespace Go.Num
open Go Go.Eng
def AQ:List UInt64→Nat
 | []=>0
 | x::l=>x.toNat+65536 * AQ l
def Cg:List UInt64→Prop
 | []=>True
 | x::l=>x.toNat < 65536∧Cg l
def N16.val (a:N16):Nat:=AQ a.list
def N16.ok (a:N16):Prop:=Cg a.list
theorem Dg {l:List UInt64}(h:l.length=16):(N16.ofL l).list=l:=
 match l,h with
 | [_,_,_,_,_,_,_,_,_,_,_,_,_,_,_,_],_=>rfl
theorem O0 (a:N16):N16.ofL a.list=a:=rfl
theorem list_len (a:N16):a.list.length=16:=rfl
theorem DG:∀ {l:List UInt64},Cg l→AQ l < 65536 ^ l.length
 | [],_=>by simp [AQ]
 | x::l,h=>by
  have:=DG h.2
  have h1:=h.1
  simp only [AQ,List.length_cons,Nat.pow_succ]
  omega
theorem N16.val_lt {a:N16}(h:a.ok):a.val < 65536 ^ 16:=DG h
theorem L6:∀ {l m:List UInt64},Cg l→Cg m→l.length=m.length→AQ l=AQ m→l=m
 | [],[],_,_,_,_=>rfl
 | [],_::_,_,_,h,_=>by cases h
 | _::_,[],_,_,h,_=>by cases h
 | x::l,y::m,h1,h2,h,e=>by
  have a:=h1.1
  have b:=h2.1
  simp only [AQ] at e
  have e1:x=y:=UInt64.toNat_inj.1 (by omega)
  have e2:l=m:=L6 h1.2 h2.2 (by simpa using h) (by omega)
  rw [e1,e2]
theorem N16.ext_val {a b:N16}(ha:a.ok) (hb:b.ok) (h:a.val=b.val):a=b:=by
 have:=L6 ha hb rfl h
 rw [← O0 a,← O0 b,this]
theorem Yl (x:UInt64):(x &&& 65535).toNat=x.toNat % 65536:=NC x 16 _ rfl
theorem QA (x:UInt64):(Ad x 16).toNat=x.toNat / 65536:=Bw x 16 (by omega)
theorem EW:∀ (l m:List UInt64) (c:UInt64),l.length=m.length→(DM l m c).length=l.length
 | [],[],_,_=>rfl
 | [],_::_,_,h=>by cases h
 | _::_,[],_,h=>by cases h
 | _::l,_::m,c,h=>by simp only [DM,List.length_cons]; rw [EW l m _ (by simpa using h)]
theorem Hj:∀ (l m:List UInt64) (c:UInt64),l.length=m.length→Cg l→Cg m→c.toNat≤1→Cg (DM l m c)∧∃ k,k≤1∧AQ (DM l m c)+AQ m+c.toNat=AQ l+65536 ^ l.length * k
 | [],[],c,_,_,_,hc=>⟨trivial,c.toNat,hc,by simp [DM,AQ]⟩
 | [],_::_,_,h,_,_,_=>by cases h
 | _::_,[],_,h,_,_,_=>by cases h
 | x::l,y::m,c,hl,h1,h2,hc=>by
  have hx:=h1.1
  have hy:=h2.1
  have e:(65536+x - y - c).toNat=65536+x.toNat - y.toNat - c.toNat:=by
   rw [UInt64.toNat_sub,UInt64.toNat_sub,UInt64.toNat_add]
   have e2:(65536:UInt64).toNat=65536:=rfl
   rw [e2]
   simp only [Nat.reducePow]
   omega
  have hlo:=Yl (65536+x - y - c)
  have hhi:=QA (65536+x - y - c)
  have hb:(1 - Ad (65536+x - y - c) 16).toNat=1 - (Ad (65536+x - y - c) 16).toNat:=by
   rw [UInt64.toNat_sub,hhi,e]
   have e2:(1:UInt64).toNat=1:=rfl
   rw [e2]
   simp only [Nat.reducePow]
   omega
  rw [e] at hlo hhi
  rw [hhi] at hb
  obtain ⟨o,k,hk,hv⟩:=Hj l m (1 - Ad (65536+x - y - c) 16) (by simpa using hl) h1.2 h2.2 (by omega)
  refine ⟨⟨by omega,o⟩,k,hk,?_⟩
  simp only [DM,AQ,List.length_cons,Nat.pow_succ]
  rw [hb] at hv
  rw [hlo]
  have:65536 ^ l.length * 65536 * k=65536 * (65536 ^ l.length * k):=by rw [Nat.mul_right_comm,Nat.mul_comm]
  rw [this]
  generalize 65536 ^ l.length * k=q at *
  omega
theorem Ls (a b:N16) (ha:a.ok) (hb:b.ok) (hle:b.val≤a.val):(Bv a b).ok∧(Bv a b).val=a.val - b.val:=by
 obtain ⟨o,k,hk,hv⟩:=Hj a.list b.list 0 rfl ha hb (by decide)
 have e:(Bv a b).list=DM a.list b.list 0:=Dg (by rw [EW a.list b.list 0 rfl]; rfl)
 have hlt:=DG o
 have hl:(DM a.list b.list 0).length=16:=by rw [EW a.list b.list 0 rfl]; rfl
 rw [hl] at hlt
 refine ⟨by unfold N16.ok; rw [e]; exact o,?_⟩
 have hl2:a.list.length=16:=rfl
 rw [hl2] at hv
 have hz:(0:UInt64).toNat=0:=rfl
 unfold N16.val at *
 rw [e]
 have:k=0:=by
  rcases Nat.eq_zero_or_pos k with h0 | h0
  ·exact h0
  ·have:k=1:=by omega
   subst this
   omega
 subst this
 omega
def GW:List UInt64→Nat
 | []=>0
 | x::l=>x.toNat * 65536 ^ l.length+GW l
theorem Ma:∀ (l:List UInt64) (x:UInt64),GW (l++[x])=65536 * GW l+x.toNat
 | [],x=>by simp [GW]
 | y::l,x=>by
  have e:y.toNat * (65536 ^ l.length * 65536)=65536 * (y.toNat * 65536 ^ l.length):=by rw [← Nat.mul_assoc,Nat.mul_comm]
  have e2:GW (y::(l++[x]))=y.toNat * 65536 ^ (l++[x]).length+GW (l++[x]):=rfl
  have e3:(l++[x]).length=l.length+1:=by simp
  rw [List.cons_append,e2,Ma l x,e3,Nat.pow_succ,e]
  show _=65536 * (y.toNat * 65536 ^ l.length+GW l)+x.toNat
  omega
theorem Ko:∀ l:List UInt64,GW l.reverse=AQ l
 | []=>rfl
 | x::l=>by
  rw [List.reverse_cons,Ma,Ko l,AQ]; omega
theorem BY:∀ {l:List UInt64},Cg l ↔ ∀ x ∈ l,x.toNat < 65536
 | []=>by simp [Cg]
 | x::l=>by simp [Cg,BY (l:=l)]
theorem M5:∀ {l:List UInt64},Cg l→GW l < 65536 ^ l.length
 | [],_=>by simp [GW]
 | x::l,h=>by
  have:=M5 h.2
  have h1:=h.1
  simp only [GW,List.length_cons,Nat.pow_succ]
  have:x.toNat * 65536 ^ l.length+65536 ^ l.length≤65536 ^ l.length * 65536:=by
   rw [← Nat.succ_mul,Nat.mul_comm]
   exact Nat.mul_le_mul_left _ (by omega)
  omega
theorem Qo:∀ (l m:List UInt64),l.length=m.length→Cg l→Cg m→Ci l m=decide (GW l < GW m)
 | [],[],_,_,_=>by simp [Ci,GW]
 | [],_::_,h,_,_=>by cases h
 | _::_,[],h,_,_=>by cases h
 | x::l,y::m,h,h1,h2=>by
  have hl:l.length=m.length:=by simpa using h
  have ih:=Qo l m hl h1.2 h2.2
  have b1:=M5 h1.2
  have b2:=M5 h2.2
  rw [Bool.eq_iff_iff,decide_eq_true_iff]
  simp only [Ci,GW]
  rw [hl] at b1 ⊢
  by_cases he:x=y
  ·subst he
   simp only [bne_self_eq_false,cond_false,ih,decide_eq_true_iff]
   omega
  ·have hne:(x != y)=true:=by simpa using he
   rw [hne,cond_true,decide_eq_true_iff,UInt64.lt_iff_toNat_lt]
   have hne2:x.toNat ≠ y.toNat:=fun e=>he (UInt64.toNat_inj.1 e)
   generalize hq:65536 ^ m.length=q at *
   constructor
   ·intro hlt
    have:(x.toNat+1) * q≤y.toNat * q:=Nat.mul_le_mul_right _ hlt
    rw [Nat.succ_mul] at this
    omega
   ·intro hlt
    rcases Nat.lt_or_ge x.toNat y.toNat with h3 | h3
    ·exact h3
    ·have:(y.toNat+1) * q≤x.toNat * q:=Nat.mul_le_mul_right _ (by omega)
     rw [Nat.succ_mul] at this
     omega
theorem OH {l:List UInt64}(h:Cg l):Cg l.reverse:=BY.2 fun x hx=>BY.1 h x (List.mem_reverse.1 hx)
theorem Pz (a b:N16) (ha:a.ok) (hb:b.ok):A8 a b=decide (a.val < b.val):=by
 unfold A8
 rw [Qo a.list.reverse b.list.reverse rfl (OH (l:=a.list) ha) (OH (l:=b.list) hb),Ko,Ko]; rfl
theorem ON:BG.ok:=by
 rw [N16.ok,BY]
 decide
theorem IR:BG.val=0:=by kernel_rfl
theorem GI:(65536:Nat) ^ 16=115792089237316195423570985008687907853269984665640564039457584007913129639936:=by decide
theorem Pl:∀ s:List UInt8,leNat s < 2 ^ (8 * s.length)
 | []=>by simp [leNat]
 | c::l=>by
  have:=Pl l
  have hc:=c.toNat_lt
  simp only [leNat,List.length_cons]
  rw [show 8 * (l.length+1)=8 * l.length+8 by omega,Nat.pow_add]
  simp only [Nat.reducePow] at *
  omega
theorem U2 (a b:UInt8):(0 ||| AI a.toUInt64 0 ||| AI b.toUInt64 8).toNat=a.toNat+256 * b.toNat:=by
 have ha:=a.toNat_lt
 have hb:=b.toNat_lt
 rw [UInt64.toNat_or,UInt64.toNat_or,Dm _ 0 (by omega),Dm _ 8 (by omega),UInt8.toNat_toUInt64,UInt8.toNat_toUInt64]
 have e0:(0:UInt64).toNat=0:=rfl
 rw [e0,Nat.zero_or]
 simp only [Nat.reducePow,Nat.mul_one] at *
 rw [Nat.mod_eq_of_lt (by omega),Nat.mod_eq_of_lt (by omega)]
 have:=Nat.shiftLeft_add_eq_or_of_lt (b:=a.toNat) (i:=8) (by simpa using ha) b.toNat
 rw [Nat.shiftLeft_eq] at this
 rw [Nat.or_comm,← this]
 omega
theorem KY:∀ s:List UInt8,s.length % 2=0→Cg (FX s)∧AQ (FX s)=leNat s∧(FX s).length=s.length / 2
 | [],_=>⟨trivial,rfl,rfl⟩
 | [_],h=>by cases h
 | a::b::l,h=>by
  obtain ⟨o,e,el⟩:=KY l (by simpa [Nat.add_assoc] using h)
  have ha:=a.toNat_lt
  have hb:=b.toNat_lt
  simp only [Nat.reducePow] at *
  have ht:=U2 a b
  refine ⟨⟨by omega,o⟩,?_,?_⟩
  ·simp only [FX,AQ,leNat,ht,e]; omega
  ·simp only [FX,List.length_cons,el]; omega
theorem Ky (s:List UInt8) (h:s.length=32):(EQ s).ok∧(EQ s).val=leNat s:=by
 obtain ⟨o,e,el⟩:=KY s (by omega)
 have hl:(EQ s).list=FX s:=Dg (by omega)
 exact ⟨by unfold N16.ok; rw [hl]; exact o,by unfold N16.val; rw [hl]; exact e⟩
theorem X5:∀ l:List UInt64,Cg l→leNat (l.flatMap fun x=>[(Ad x 0).toUInt8,(Ad x 8).toUInt8])=AQ l
 | [],_=>rfl
 | x::l,h=>by
  have ih:=X5 l h.2
  have hx:=h.1
  simp only [List.flatMap_cons,List.cons_append,List.nil_append,leNat,Im,Bw x 0 (by omega),Bw x 8 (by omega),ih,AQ,Nat.reducePow]
  omega
theorem Qw (a:N16) (h:a.ok):leNat (bytesN a)=a.val:=X5 a.list h
theorem Ri (a:N16):(bytesN a).length=32:=rfl
theorem OK:∀ (l m:List UInt64),l.length=m.length→Cg l→Cg m→AQ (Gv l m)=AQ l+AQ m∧(Gv l m).length=l.length∧∀ x ∈ Gv l m,x.toNat < 281474976710656
 | [],[],_,_,_=>⟨rfl,rfl,by simp [Gv]⟩
 | [],_::_,h,_,_=>by cases h
 | _::_,[],h,_,_=>by cases h
 | x::l,y::m,h,h1,h2=>by
  obtain ⟨e,el,b⟩:=OK l m (by simpa using h) h1.2 h2.2
  have hx:=h1.1
  have hy:=h2.1
  have es:(x+y).toNat=x.toNat+y.toNat:=by
   rw [UInt64.toNat_add]
   simp only [Nat.reducePow]
   omega
  refine ⟨by simp only [Gv,AQ,es,e]; omega,by simp only [Gv,List.length_cons,el],fun z hz => ?_⟩
  simp only [Gv,List.mem_cons] at hz
  rcases hz with rfl | hz
  ·omega
  ·exact b z hz
theorem Dz:∀ (l m:List UInt64),AQ (l++m)=AQ l+65536 ^ l.length * AQ m
 | [],m=>by simp [AQ]
 | x::l,m=>by
  simp only [List.cons_append,AQ,Dz l m,List.length_cons,Nat.pow_succ]
  rw [Nat.mul_add,Nat.mul_comm (65536 ^ l.length) 65536,Nat.mul_assoc]
  omega
theorem Jy:∀ n,AQ (List.replicate n 0)=0
 | 0=>rfl
 | n+1=>by simp only [List.replicate_succ,AQ,Jy n]; rfl
theorem P9:∀ (x:UInt64) (t b:List UInt64) (M:Nat),x.toNat < 65536→Cg b→b.length≤t.length→(∀ y ∈ t,y.toNat≤M)→M < 4611686018427387904 →
  AQ (JS x t b)=AQ t+x.toNat * AQ b∧(JS x t b).length=t.length∧∀ y ∈ JS x t b,y.toNat≤M+4294836225
 | x,t,[],M,hx,hb,hl,ht,hM=>by
  refine ⟨by simp [JS,AQ],by simp [JS],fun y hy => ?_⟩
  have:y ∈ t:=by simpa [JS] using hy
  have:=ht y this
  omega
 | x,[],_::_,M,hx,hb,hl,ht,hM=>by simp at hl
 | x,z::t,y::b,M,hx,hb,hl,ht,hM=>by
  obtain ⟨e,el,bd⟩:=P9 x t b M hx hb.2 (by simpa using hl) (fun w hw=>ht w (List.mem_cons_of_mem _ hw)) hM
  have hy:=hb.1
  have hz:=ht z List.mem_cons_self
  have hp:x.toNat * y.toNat≤65535 * 65535:=Nat.mul_le_mul (by omega) (by omega)
  have es:(z+x * y).toNat=z.toNat+x.toNat * y.toNat:=by
   rw [UInt64.toNat_add,UInt64.toNat_mul]
   simp only [Nat.reducePow]
   omega
  refine ⟨?_,by simp only [JS,List.length_cons,el],fun w hw => ?_⟩
  ·simp only [JS,AQ,es,e]
   have:x.toNat * (y.toNat+65536 * AQ b)=x.toNat * y.toNat+65536 * (x.toNat * AQ b):=by rw [Nat.mul_add,Nat.mul_left_comm]
   rw [this]
   omega
  ·simp only [JS,List.mem_cons] at hw
   rcases hw with rfl | hw
   ·omega
   ·exact bd w hw
theorem MW:∀ (l b t:List UInt64) (M:Nat),Cg l→Cg b→0 < b.length→l.length+b.length≤t.length→(∀ y ∈ t,y.toNat≤M)→M+l.length * 4294836225 < 4611686018427387904 →
  AQ (Du l b t)=AQ t+AQ l * AQ b∧(Du l b t).length=t.length∧∀ y ∈ Du l b t,y.toNat≤M+l.length * 4294836225
 | [],b,t,M,hl,hb,hpos,hlen,ht,hM=>by
  refine ⟨by simp [Du,AQ],by simp [Du],fun y hy => ?_⟩
  have:=ht y (by simpa [Du] using hy)
  omega
 | x::l,b,t,M,hl,hb,hpos,hlen,ht,hM=>by
  simp only [List.length_cons] at hlen hM
  obtain ⟨e,el,bd⟩:=P9 x t b M hl.1 hb (by omega) ht (by omega)
  have hne:t.length ≠ 0:=by omega
  cases hr:JS x t b with
  | nil=>rw [hr] at el; simp at el; omega
  | cons h r =>
   rw [hr] at e el bd
   simp only [List.length_cons] at el
   obtain ⟨e2,el2,bd2⟩:=MW l b r (M+4294836225) hl.2 hb hpos (by omega) (fun y hy=>bd y (List.mem_cons_of_mem _ hy)) (by omega)
   have e3:Du (x::l) b t=h::Du l b r:=by simp only [Du,hr]
   rw [e3]
   simp only [AQ] at e ⊢
   refine ⟨?_,by simp only [List.length_cons,el2]; exact el,fun y hy => ?_⟩
   ·rw [e2,Nat.mul_add,Nat.add_mul,Nat.mul_assoc]
    omega
   ·simp only [List.length_cons]
    rcases List.mem_cons.1 hy with rfl | hy
    ·have:=bd y List.mem_cons_self
     omega
    ·have:=bd2 y hy
     omega
end Go.Num
namespace Go.Num
open Go Go.Eng
def Pq:Nat:=57896044618658097711785492504343953926634992332820282019728792003956564819949
theorem GS:0 < Pq:=by decide
theorem Ei:Bd.ok:=by
 rw [N16.ok,BY]
 decide
theorem Dc:Bd.val=Pq:=by kernel_rfl
theorem K0 {l:List UInt64}:Fv l=true ↔ ∀ x ∈ l,x.toNat < 281474976710656:=by
 unfold Fv
 rw [List.all_eq_true]
 constructor
 ·intro h x hx
  have:=h x hx
  rw [decide_eq_true_iff,UInt64.lt_iff_toNat_lt] at this
  exact this
 ·intro h x hx
  rw [decide_eq_true_iff,UInt64.lt_iff_toNat_lt]
  exact h x hx
theorem Be {a:N16}:Num.okB a=true ↔ a.ok:=by
 unfold Num.okB N16.ok
 rw [List.all_eq_true,BY]
 constructor
 ·intro h x hx
  have:=h x hx
  rw [decide_eq_true_iff,UInt64.lt_iff_toNat_lt] at this
  exact this
 ·intro h x hx
  rw [decide_eq_true_iff,UInt64.lt_iff_toNat_lt]
  exact h x hx
theorem GY:∀ (l:List UInt64) (c:UInt64),(BF l c).1.length=l.length
 | [],_=>rfl
 | x::l,c=>by simp only [BF,List.length_cons,GY l]
theorem Hk:∀ (l:List UInt64) (c:UInt64),(∀ x ∈ l,x.toNat < 281474976710656)→c.toNat < 281474976710656→Cg (BF l c).1∧AQ (BF l c).1+65536 ^ l.length * (BF l c).2.toNat=AQ l+c.toNat∧(BF l c).2.toNat < 281474976710656
 | [],c,_,hc=>⟨trivial,by simp [BF,AQ],hc⟩
 | x::l,c,h,hc=>by
  have hx:=h x List.mem_cons_self
  have e:(x+c).toNat=x.toNat+c.toNat:=by
   rw [UInt64.toNat_add]
   simp only [Nat.reducePow]
   omega
  have hlo:=Yl (x+c)
  have hhi:=QA (x+c)
  rw [e] at hlo hhi
  obtain ⟨o,hk,hb⟩:=Hk l (Ad (x+c) 16) (fun y hy=>h y (List.mem_cons_of_mem _ hy)) (by omega)
  refine ⟨⟨by omega,o⟩,?_,hb⟩
  simp only [BF,AQ,List.length_cons,Nat.pow_succ]
  rw [hhi] at hk
  rw [hlo]
  have:65536 ^ l.length * 65536 * (BF l (Ad (x+c) 16)).2.toNat=65536 * (65536 ^ l.length * (BF l (Ad (x+c) 16)).2.toNat):=by rw [Nat.mul_right_comm,Nat.mul_comm]
  rw [this]
  generalize 65536 ^ l.length * (BF l (Ad (x+c) 16)).2.toNat=q at *
  omega
theorem Jo:∀ (l:List UInt64),Cg l→BF l 0=(l,0)
 | [],_=>rfl
 | x::l,h=>by
  have hx:=h.1
  have e0:x+0=x:=by simp
  have e1:x &&& 65535=x:=UInt64.toNat_inj.1 (by rw [Yl]; omega)
  have e2:Ad x 16=0:=UInt64.toNat_inj.1 (by rw [QA]; show _=0; omega)
  simp only [BF,e0,e1,e2,Jo l h.2]
theorem IF:∀ (l m:List UInt64),l.length=m.length→Cg l→Cg m→AQ (CH l m)=AQ l+38 * AQ m∧(CH l m).length=l.length∧∀ x ∈ CH l m,x.toNat < 2621440
 | [],[],_,_,_=>⟨rfl,rfl,by simp [CH]⟩
 | [],_::_,h,_,_=>by cases h
 | _::_,[],h,_,_=>by cases h
 | x::l,y::m,h,h1,h2=>by
  obtain ⟨e,el,b⟩:=IF l m (by simpa using h) h1.2 h2.2
  have hx:=h1.1
  have hy:=h2.1
  have es:(x+38 * y).toNat=x.toNat+38 * y.toNat:=by
   rw [UInt64.toNat_add,UInt64.toNat_mul]
   have e38:(38:UInt64).toNat=38:=rfl
   rw [e38]
   simp only [Nat.reducePow]
   omega
  refine ⟨by simp only [CH,AQ,es,e]; omega,by simp only [CH,List.length_cons,el],fun z hz => ?_⟩
  simp only [CH,List.mem_cons] at hz
  rcases hz with rfl | hz
  ·omega
  ·exact b z hz
theorem I6:∀ {l:List UInt64}(n:Nat),Cg l→Cg (l.take n):=fun {l} n h=>BY.2 fun x hx=>BY.1 h x (List.mem_of_mem_take hx)
theorem I4:∀ {l:List UInt64}(n:Nat),Cg l→Cg (l.drop n):=fun {l} n h=>BY.2 fun x hx=>BY.1 h x (List.mem_of_mem_drop hx)
theorem N32.list_len (t:N32):t.list.length=32:=rfl
def N32.val (t:N32):Nat:=AQ t.list
theorem Lm:(65536:Nat) ^ 32=13407807929942597099574024998205846127479365820592393377723561443721764030073546976801874298166903427690031858186486050853753882811946569946433649006084096:=by decide
theorem Gi (t:N32) (h:∀ x ∈ t.list,x.toNat < 281474976710656) :
  (Ap t).lo.val=t.val % 65536 ^ 16+38 * (t.val / 65536 ^ 16 % 65536 ^ 16)+1444 * (t.val / 65536 ^ 32)∧(Ap t).hi=BG∧t.val / 65536 ^ 32 < 281474976710656 ∧
  (∀ x ∈ (Ap t).lo.list,x.toNat < 2621440+1444 * (t.val / 65536 ^ 32)):=by
 obtain ⟨o,hv,hc⟩:=Hk t.list 0 h (by decide)
 have hz:(0:UInt64).toNat=0:=rfl
 rw [hz,Nat.add_zero,t.list_len] at hv
 have hlen:(BF t.list 0).1.length=32:=by rw [GY]; rfl
 generalize hr:BF t.list 0=r at *
 obtain ⟨r1,c⟩:=r
 simp only at o hv hc hlen
 have hlt:=DG o
 rw [hlen] at hlt
 have hsplit:AQ r1=AQ (r1.take 16)+65536 ^ 16 * AQ (r1.drop 16):=by
  have e:=Dz (r1.take 16) (r1.drop 16)
  rw [List.take_append_drop] at e
  rw [e,List.length_take,hlen]
  rfl
 have l1:(r1.take 16).length=16:=by rw [List.length_take,hlen]; rfl
 have l2:(r1.drop 16).length=16:=by rw [List.length_drop,hlen]
 have b1:=DG (I6 16 o)
 have b2:=DG (I4 16 o)
 rw [l1] at b1
 rw [l2] at b2
 obtain ⟨fv,fl,fb⟩:=IF (r1.take 16) (r1.drop 16) (by rw [l1,l2]) (I6 16 o) (I4 16 o)
 have hval:t.val=AQ r1+65536 ^ 32 * c.toNat:=hv.symm
 have d32:t.val / 65536 ^ 32=c.toNat:=by
  rw [hval,Lm] at *
  omega
 have d16:t.val % 65536 ^ 16=AQ (r1.take 16)∧t.val / 65536 ^ 16 % 65536 ^ 16=AQ (r1.drop 16):=by
  rw [hval,hsplit]
  rw [GI] at *
  rw [Lm] at *
  omega
 rw [d32,d16.1,d16.2]
 have e1444:(1444:UInt64).toNat=1444:=rfl
 have hm:(1444 * c).toNat=1444 * c.toNat:=by
  rw [UInt64.toNat_mul,e1444]
  simp only [Nat.reducePow]
  omega
 have hp:Ap t=⟨N16.ofL (Fe (CH (r1.take 16) (r1.drop 16)) fun x=>x+1444 * c),BG⟩:=by
  unfold Ap
  rw [hr]
 rw [hp]
 generalize hf:CH (r1.take 16) (r1.drop 16)=f at *
 rw [l1] at fl
 cases f with
 | nil=>cases fl
 | cons x f =>
  have hx:=fb x List.mem_cons_self
  have es:(x+1444 * c).toNat=x.toNat+1444 * c.toNat:=by
   rw [UInt64.toNat_add,hm]
   simp only [Nat.reducePow]
   omega
  have hl:(N16.ofL (Fe (x::f) fun x=>x+1444 * c)).list=(x+1444 * c)::f:=Dg (by simp only [Fe,List.length_cons] at fl ⊢; exact fl)
  refine ⟨?_,rfl,hc,fun y hy => ?_⟩
  ·unfold N16.val
   simp only
   rw [hl]
   simp only [AQ] at fv ⊢
   rw [es]
   omega
  ·simp only at hy
   rw [hl] at hy
   rcases List.mem_cons.1 hy with rfl | hy
   ·omega
   ·have:=fb y (List.mem_cons_of_mem _ hy)
    omega
theorem ajB (a b c:Nat):(a+38 * b+1444 * c) % Pq=(a+65536 ^ 16 * b+65536 ^ 32 * c) % Pq:=by
 have e1:(65536:Nat) ^ 16=2 * Pq+38:=by decide
 have e2:(65536:Nat) ^ 32=(2 * (2 * Pq)+152) * Pq+1444:=by decide
 rw [e1,e2]
 have:a+(2 * Pq+38) * b+((2 * (2 * Pq)+152) * Pq+1444) * c=(a+38 * b+1444 * c)+Pq * (2 * b+(2 * (2 * Pq)+152) * c):=by
  rw [Nat.mul_add,Nat.add_mul,Nat.add_mul]
  have h1:Pq * (2 * b)=2 * Pq * b:=by rw [Nat.mul_left_comm,Nat.mul_assoc]
  have h2:Pq * ((2 * (2 * Pq)+152) * c)=(2 * (2 * Pq)+152) * Pq * c:=by rw [← Nat.mul_assoc,Nat.mul_comm Pq]
  rw [h1,h2]
  omega
 rw [this,Nat.add_mul_mod_self_left]
theorem afF (V B:Nat):V % B+B * (V / B % B)+B * B * (V / (B * B))=V:=by
 have h1:=Nat.div_add_mod V B
 have h2:=Nat.div_add_mod (V / B) B
 rw [Nat.div_div_eq_div_mul] at h2
 have h3:B * (B * (V / (B * B))+V / B % B)=B * (V / B):=by rw [h2]
 rw [Nat.mul_add,← Nat.mul_assoc] at h3
 omega
theorem afX:(65536:Nat) ^ 32=65536 ^ 16 * 65536 ^ 16:=by decide
theorem IL (t:N32) (h:∀ x ∈ t.list,x.toNat < 281474976710656):(Ap t).lo.val % Pq=t.val % Pq:=by
 rw [(Gi t h).1,ajB,afX,afF]
theorem N32.val_lo (n:N16):N32.val ⟨n,BG⟩=n.val:=by
 unfold N32.val N32.list
 have e:AQ BG.list=0:=by kernel_rfl
 rw [Dz,e,Nat.mul_zero,Nat.add_zero]; rfl
theorem N32.mem_lo {n:N16}{B:Nat}(h:∀ x ∈ n.list,x.toNat < B) (hB:0 < B):∀ x ∈ N32.list ⟨n,BG⟩,x.toNat < B:=fun x hx=>by
 rcases List.mem_append.1 hx with hx | hx
 ·exact h x hx
 ·have:x=0:=by
   simp only [BG,N16.list,List.mem_cons,List.not_mem_nil,or_false] at hx
   rcases hx with h | h | h | h | h | h | h | h | h | h | h | h | h | h | h | h <;> exact h
  rw [this]; exact hB
theorem QC (n:N16) (h:n.ok):Sz n=n:=by
 unfold Sz
 rw [Jo _ h]
 obtain ⟨a0,a1,a2,a3,a4,a5,a6,a7,a8,a9,a10,a11,a12,a13,a14,a15⟩:=n
 simp [Fe,N16.list,N16.ofL]
theorem Jt:∀ (l:List UInt64) (B:Nat),(∀ x ∈ l,x.toNat≤B)→65535 * AQ l+B≤B * 65536 ^ l.length
 | [],B,_=>by simp [AQ]
 | x::l,B,h=>by
  have ih:=Jt l B fun y hy=>h y (List.mem_cons_of_mem _ hy)
  have hx:=h x List.mem_cons_self
  simp only [AQ,List.length_cons,Nat.pow_succ]
  have:B * (65536 ^ l.length * 65536)=65536 * (B * 65536 ^ l.length):=by rw [← Nat.mul_assoc,Nat.mul_comm]
  rw [this]
  generalize B * 65536 ^ l.length=q at *
  omega
theorem UU (l:List UInt64) (f:UInt64→UInt64):(Fe l f).length=l.length:=by
 cases l <;> rfl
theorem KA:∀ (l m:List UInt64),l.length=m.length→AQ m=0→CH l m=l
 | [],[],_,_=>rfl
 | [],_::_,h,_=>by cases h
 | _::_,[],h,_=>by cases h
 | x::l,y::m,h,hv=>by
  simp only [AQ] at hv
  have hy:y=0:=UInt64.toNat_inj.1 (show y.toNat=0 by omega)
  have hs:x+38 * 0=x:=by simp
  simp only [CH,hy,hs,KA l m (by simpa using h) (by omega)]
theorem Yr (A B:List UInt64) (l1:A.length=16) (l2:B.length=16) (ot:Cg A) (hv:AQ A+115792089237316195423570985008687907853269984665640564039457584007913129639936 * AQ B < 115792089237316195423570985008687907853269984665640564039457584007913129639936+38 * 40):Cg (Fe (CH A B) fun x=>x+1444 * 0):=by
 cases A with
 | nil=>cases l1
 | cons a0 A =>
  cases B with
  | nil=>cases l2
  | cons b0 B =>
   have ha:=ot.1
   simp only [AQ] at hv
   have hB:AQ B=0:=by omega
   have hf:CH (a0::A) (b0::B)=(a0+38 * b0)::A:=by
    simp only [CH]
    rw [KA A B (by simp only [List.length_cons] at l1 l2; omega) hB]
   rw [hf]
   refine ⟨?_,ot.2⟩
   have hz:(a0+38 * b0+1444 * 0)=a0+38 * b0:=by simp
   show (a0+38 * b0+1444 * 0).toNat < 65536
   rw [hz,UInt64.toNat_add,UInt64.toNat_mul]
   have e38:(38:UInt64).toNat=38:=rfl
   rw [e38]
   simp only [Nat.reducePow]
   have hb0:b0.toNat=0 ∨ b0.toNat=1:=by omega
   rcases hb0 with hb | hb
   ·rw [hb]; omega
   ·rw [hb] at hv ⊢
    omega
theorem Wy (u:N32):Ap u=⟨N16.ofL (Fe (CH ((BF u.list 0).1.take 16) ((BF u.list 0).1.drop 16)) fun x=>x+1444 * (BF u.list 0).2),BG⟩:=rfl
set_option maxHeartbeats 4000000 in
theorem Qs (t:N32) (h:∀ x ∈ t.list,x.toNat < 281474976710656):(DP t).lo.ok∧(DP t).lo.val % Pq=t.val % Pq:=by
 obtain ⟨v1,z1,c1,b1⟩:=Gi t h
 have m1:=IL t h
 have hb:=Jt t.list 281474976710655 (fun x hx=>by have:=h x hx; omega)
 rw [t.list_len,Lm] at hb
 have hd:t.val / 65536 ^ 32 < 8589934593:=by
  have hv:t.val=AQ t.list:=rfl
  rw [Lm,hv]
  omega
 have e1:Ap t=⟨(Ap t).lo,BG⟩:=by rw [← z1]
 have h1:∀ x ∈ (Ap t).list,x.toNat < 281474976710656:=by
  rw [e1]
  refine N32.mem_lo (fun x hx => ?_) (by omega)
  have:=b1 x hx
  omega
 have w1:(Ap t).val=(Ap t).lo.val:=by
  conv=>lhs; rw [e1]
  exact N32.val_lo _
 obtain ⟨v2,z2,c2,b2⟩:=Gi (Ap t) h1
 have m2:=IL (Ap t) h1
 have hv1:(Ap t).lo.val < 40 * 115792089237316195423570985008687907853269984665640564039457584007913129639936:=by
  have r1:=Nat.mod_lt t.val (show 0 < 65536 ^ 16 by decide)
  have r2:=Nat.mod_lt (t.val / 65536 ^ 16) (show 0 < 65536 ^ 16 by decide)
  rw [v1]
  generalize t.val % 65536 ^ 16=A at *
  generalize t.val / 65536 ^ 16 % 65536 ^ 16=B at *
  generalize t.val / 65536 ^ 32=C at *
  rw [GI] at r1 r2
  omega
 have q2:(Ap t).val / 65536 ^ 32=0:=by
  rw [w1]
  exact Nat.div_eq_of_lt (by rw [Lm]; omega)
 rw [q2,Nat.mul_zero,Nat.add_zero] at v2 b2
 have hv2:(Ap (Ap t)).lo.val < 115792089237316195423570985008687907853269984665640564039457584007913129639936+38 * 40:=by
  have r1:=Nat.mod_lt (Ap t).lo.val (show 0 < 65536 ^ 16 by decide)
  have r2:(Ap t).lo.val / 65536 ^ 16 < 40:=Nat.div_lt_of_lt_mul (by rw [GI]; omega)
  rw [v2,w1,Nat.mod_eq_of_lt (Nat.lt_trans r2 (by rw [GI]; omega))]
  generalize (Ap t).lo.val % 65536 ^ 16=A at *
  generalize (Ap t).lo.val / 65536 ^ 16=B at *
  rw [GI] at r1
  omega
 have e2:Ap (Ap t)=⟨(Ap (Ap t)).lo,BG⟩:=by rw [← z2]
 have h2:∀ x ∈ (Ap (Ap t)).list,x.toNat < 281474976710656:=by
  rw [e2]
  refine N32.mem_lo (fun x hx => ?_) (by omega)
  have:=b2 x hx
  omega
 have w2:(Ap (Ap t)).val=(Ap (Ap t)).lo.val:=by
  conv=>lhs; rw [e2]
  exact N32.val_lo _
 obtain ⟨v3,z3,c3,b3⟩:=Gi (Ap (Ap t)) h2
 have m3:=IL (Ap (Ap t)) h2
 have q3:(Ap (Ap t)).val / 65536 ^ 32=0:=by
  rw [w2]
  exact Nat.div_eq_of_lt (by rw [Lm]; omega)
 rw [q3,Nat.mul_zero,Nat.add_zero] at v3 b3
 have hv3:(Ap (Ap (Ap t))).lo.val < 115792089237316195423570985008687907853269984665640564039457584007913129639936:=by
  have r1:=Nat.mod_lt (Ap (Ap t)).lo.val (show 0 < 65536 ^ 16 by decide)
  have r2:(Ap (Ap t)).lo.val / 65536 ^ 16 < 2:=Nat.div_lt_of_lt_mul (by rw [GI]; omega)
  have r3:=Nat.div_add_mod (Ap (Ap t)).lo.val (65536 ^ 16)
  rw [v3,w2,Nat.mod_eq_of_lt (Nat.lt_trans r2 (by rw [GI]; omega))]
  generalize (Ap (Ap t)).lo.val % 65536 ^ 16=A at *
  generalize (Ap (Ap t)).lo.val / 65536 ^ 16=B at *
  rw [GI] at r1 r3
  have hB:B=0 ∨ B=1:=by omega
  rcases hB with rfl | rfl <;> omega
 have mm:(Ap (Ap (Ap t))).lo.val % Pq=t.val % Pq:=by rw [m3,w2,m2,w1,m1]
 have o3:(Ap (Ap (Ap t))).lo.ok:=by
  -- the parts by themselves
  obtain ⟨o,hv,hc⟩:=Hk (Ap (Ap t)).list 0 h2 (by decide)
  have hz:(0:UInt64).toNat=0:=rfl
  rw [hz,Nat.add_zero,N32.list_len] at hv
  have hlen:(BF (Ap (Ap t)).list 0).1.length=32:=by rw [GY]; rfl
  generalize hr:BF (Ap (Ap t)).list 0=r at *
  obtain ⟨r1,c⟩:=r
  simp only at o hv hc hlen
  have hvv:AQ (Ap (Ap t)).list=(Ap (Ap t)).lo.val:=w2
  have hc0:c.toNat=0:=by
   rw [hvv,Lm] at hv
   omega
  rw [hc0,Nat.mul_zero,Nat.add_zero,hvv] at hv
  have hsplit:AQ r1=AQ (r1.take 16)+65536 ^ 16 * AQ (r1.drop 16):=by
   have e:=Dz (r1.take 16) (r1.drop 16)
   rw [List.take_append_drop] at e
   rw [e,List.length_take,hlen]
   rfl
  have l1:(r1.take 16).length=16:=by rw [List.length_take,hlen]; rfl
  have l2:(r1.drop 16).length=16:=by rw [List.length_drop,hlen]
  have ot:=I6 16 o
  have od:=I4 16 o
  have bt:=DG ot
  rw [l1] at bt
  have hp:Ap (Ap (Ap t))=⟨N16.ofL (Fe (CH (r1.take 16) (r1.drop 16)) fun x=>x+1444 * c),BG⟩:=by
   rw [Wy,hr]
  have hcz:c=0:=UInt64.toNat_inj.1 hc0
  rw [hp]
  have ht:=Yr (r1.take 16) (r1.drop 16) l1 l2 ot (by rw [GI] at hsplit; omega)
  rw [hcz]
  unfold N16.ok
  have hfl:=(IF (r1.take 16) (r1.drop 16) (by rw [l1,l2]) ot od).2.1
  have hll:(N16.ofL (Fe (CH (r1.take 16) (r1.drop 16)) fun x=>x+1444 * 0)).list=Fe (CH (r1.take 16) (r1.drop 16)) fun x=>x+1444 * 0:=Dg (by rw [UU,hfl,l1])
  rw [hll]
  exact ht
 have p3:∀ u:N32,u.lo.ok→(CP u).lo=u.lo:=fun u hu=>by
  show Sz u.lo=u.lo
  exact QC _ hu
 have f1:=p3 _ o3
 have f2:=p3 (CP (Ap (Ap (Ap t)))) (by rw [f1]; exact o3)
 have f3:=p3 (CP (CP (Ap (Ap (Ap t))))) (by rw [f2,f1]; exact o3)
 have ff:(DP t).lo=(Ap (Ap (Ap t))).lo:=by
  show (CP (CP (CP (Ap (Ap (Ap t)))))).lo=_
  rw [f3,f2,f1]
 rw [ff]
 exact ⟨o3,mm⟩
theorem MM (n:N16) (h:n.ok):(Cy n).ok∧(Cy n).val % Pq=n.val % Pq∧(Cy n).val=if n.val < Pq then n.val else n.val - Pq:=by
 unfold Cy
 rw [Pz _ _ h Ei,Dc]
 by_cases hl:n.val < Pq
 ·rw [decide_eq_true hl,cond_true,if_pos hl]
  exact ⟨h,rfl,rfl⟩
 ·rw [decide_eq_false hl,cond_false,if_neg hl]
  obtain ⟨o,e⟩:=Ls n Bd h Ei (by rw [Dc]; omega)
  rw [Dc] at e
  refine ⟨o,?_,e⟩
  rw [e]
  exact (Nat.mod_eq_sub_mod (by omega)).symm
theorem F0 (t:N32) (h:Fv t.list=true):(Kw t).ok∧(Kw t).val=t.val % Pq:=by
 obtain ⟨o,m⟩:=Qs t (K0.1 h)
 have hlt:=N16.val_lt o
 rw [GI] at hlt
 obtain ⟨o1,m1,e1⟩:=MM _ o
 obtain ⟨o2,m2,e2⟩:=MM _ o1
 refine ⟨o2,?_⟩
 have hl:(Kw t).val < Pq:=by
  unfold Kw
  rw [e2]
  by_cases q2:(Cy (DP t).lo).val < Pq
  ·rw [if_pos q2]; exact q2
  ·rw [if_neg q2]
   by_cases q1:(DP t).lo.val < Pq
   ·rw [e1,if_pos q1] at q2; exact absurd q1 q2
   ·rw [e1,if_neg q1]
    unfold Pq
    omega
 rw [← m,← m1,← m2]
 exact (Nat.mod_eq_of_lt hl).symm
theorem abJ (t:N32) (h:Fv t.list=true):(Kw t).val < Pq:=by rw [(F0 t h).2]; exact Nat.mod_lt _ GS
theorem Vs (t:N32) (h:Fv t.list=true):A8 (Cy (Cy (DP t).lo)) Bd=true:=by
 have:=abJ t h
 show A8 (Kw t) Bd=true
 rw [Pz _ _ (F0 t h).1 Ei,Dc,decide_eq_true_iff]
 exact this
end Go.Num
namespace Go.Num
open Go Go.Eng
theorem XP {n:N16}{B:Nat}(h:∀ x ∈ n.list,x.toNat < B) (hB:B≤281474976710656) (h0:0 < B):Fv (N32.list ⟨n,BG⟩)=true:=
 K0.2 (N32.mem_lo (fun x hx=>Nat.lt_of_lt_of_le (h x hx) hB) (by omega))
theorem Y1 (a:N16) (h:a.ok):Fv (Jj a).list=true:=XP (B:=65536) (BY.1 h) (by omega) (by omega)
theorem SS {s:List UInt8}(h:s.length=32):Fv (Jj (EQ s)).list=true:=Y1 _ (Ky s h).1
theorem abC {s:List UInt8}(h:s.length=32):(ofP s).ok∧(ofP s).val=leNat s % Pq:=by
 obtain ⟨o,e⟩:=F0 _ (SS h)
 refine ⟨o,?_⟩
 unfold ofP
 rw [e,Jj,N32.val_lo,(Ky s h).2]
theorem OM (a b:N16) (ha:a.ok) (hb:b.ok):Fv (N32.list ⟨N16.ofL (Gv a.list b.list),BG⟩)=true∧(N16.ofL (Gv a.list b.list)).val=a.val+b.val:=by
 obtain ⟨e,el,bd⟩:=OK a.list b.list rfl ha hb
 have hl:(N16.ofL (Gv a.list b.list)).list=Gv a.list b.list:=Dg (by rw [el]; rfl)
 refine ⟨XP (B:=281474976710656) (by rw [hl]; exact bd) (by omega) (by omega),?_⟩
 unfold N16.val
 rw [hl,e]
theorem KS (a b:N16) (ha:a.ok) (hb:b.ok):(JQ a b).ok∧(JQ a b).val=(a.val+b.val) % Pq:=by
 obtain ⟨h1,h2⟩:=OM a b ha hb
 obtain ⟨o,e⟩:=F0 _ h1
 refine ⟨o,?_⟩
 unfold JQ
 rw [e,N32.val_lo,h2]
theorem Po (a b:N16) (ha:a.ok) (hb:b.ok):Fv (Kq a b).list=true∧(Kq a b).val=a.val * b.val:=by
 obtain ⟨e,el,bd⟩:=MW a.list b.list (List.replicate 32 0) 0 ha hb (by show 0 < 16; decide) (by show 16+16≤32; decide) (fun y hy=>by rw [List.mem_replicate] at hy; rw [hy.2]; decide) (by show 0+16 * 4294836225 < 4611686018427387904; decide)
 rw [Jy,Nat.zero_add] at e
 have hlen:(Du a.list b.list (List.replicate 32 0)).length=32:=by rw [el]; rfl
 have hp:Kq a b=⟨N16.ofL ((Du a.list b.list (List.replicate 32 0)).take 16),N16.ofL ((Du a.list b.list (List.replicate 32 0)).drop 16)⟩:=rfl
 have hl:(Kq a b).list=Du a.list b.list (List.replicate 32 0):=by
  rw [hp]
  unfold N32.list
  simp only
  rw [Dg (by rw [List.length_take,hlen]; rfl),Dg (by rw [List.length_drop,hlen]),List.take_append_drop]
 refine ⟨?_,?_⟩
 ·rw [hl,K0]
  intro x hx
  have:=bd x hx
  have hal:a.list.length=16:=rfl
  rw [hal] at this
  omega
 ·unfold N32.val
  rw [hl,e]; rfl
theorem Dh (a b:N16) (ha:a.ok) (hb:b.ok):(B7 a b).ok∧(B7 a b).val=a.val * b.val % Pq:=by
 obtain ⟨h1,h2⟩:=Po a b ha hb
 obtain ⟨o,e⟩:=F0 _ h1
 refine ⟨o,?_⟩
 unfold B7
 rw [e,h2]
theorem UY (a b:N16) (ha:a.ok) (hb:b.ok):(Bv a b).ok:=by
 obtain ⟨o,_⟩:=Hj a.list b.list 0 rfl ha hb (by decide)
 have e:(Bv a b).list=DM a.list b.list 0:=Dg (by rw [EW a.list b.list 0 rfl]; rfl)
 unfold N16.ok; rw [e]; exact o
theorem Np (a:N16) (h:a.ok):(Hi a).ok:=by
 unfold Hi
 cases isZ16 a
 ·exact UY _ _ Ei h
 ·exact h
theorem YQ (a:N16) (h:a.ok) (hv:a.val < Pq):(Hi a).ok∧(Hi a).val=(Pq - a.val) % Pq:=by
 refine ⟨Np a h,?_⟩
 unfold Hi
 rw [Y7]
 by_cases hz:a=BG
 ·rw [decide_eq_true hz,cond_true,hz,IR,Nat.sub_zero,Nat.mod_self]
 ·rw [decide_eq_false hz,cond_false]
  have hne:a.val ≠ 0:=fun e=>hz (N16.ext_val h ON (by rw [e,IR]))
  obtain ⟨_,e⟩:=Ls Bd a Ei h (by rw [Dc]; omega)
  rw [e,Dc,Nat.mod_eq_of_lt (by omega)]
theorem Yx (a b:N16) (ha:a.ok) (hb:b.ok) (hv:b.val < Pq):(KK a b).ok∧(KK a b).val=(a.val+(Pq - b.val)) % Pq:=by
 obtain ⟨o,e⟩:=YQ b hb hv
 obtain ⟨o2,e2⟩:=KS a (Hi b) ha o
 refine ⟨o2,?_⟩
 unfold KK
 rw [e2,e,Nat.add_mod_mod]
theorem C3 (n:UInt32):(smallN n).ok∧(smallN n).val=n.toNat:=by
 have h:=n.toNat_lt
 have e1:(n &&& 65535).toUInt64.toNat=n.toNat % 65536:=by
  rw [UInt32.toNat_toUInt64,UInt32.toNat_and]
  exact Nat.and_two_pow_sub_one_eq_mod n.toNat 16
 have e2:(Ay n 16).toUInt64.toNat=n.toNat / 65536:=by
  rw [UInt32.toNat_toUInt64]
  unfold Ay
  rw [Nat.ble_eq_true_of_le (by omega),cond_true,UInt32.toNat_shiftRight]
  have e:(UInt32.ofNat 16).toNat % 32=16:=rfl
  rw [e,Nat.shiftRight_eq_div_pow]
 have hz:(0:UInt64).toNat=0:=rfl
 simp only [Nat.reducePow] at h
 refine ⟨?_,?_⟩
 ·rw [N16.ok]
  refine ⟨?_,?_,?_⟩
  ·show (n &&& 65535).toUInt64.toNat < 65536
   omega
  ·show (Ay n 16).toUInt64.toNat < 65536
   omega
  ·show Cg [0,0,0,0,0,0,0,0,0,0,0,0,0,0]
   rw [BY]
   decide
 ·have es:(smallN n).val=(n &&& 65535).toUInt64.toNat+65536 * (Ay n 16).toUInt64.toNat:=by
   simp only [N16.val,smallN,N16.list,AQ,hz,Nat.mul_zero,Nat.add_zero]
  rw [es,e1,e2]
  omega
theorem SW (a:N16) (ha:a.ok):∀ (l:List Bool) (x:N16),x.ok→(RS a x l).ok
 | [],x,hx=>hx
 | b::l,x,hx=>by
  have h1:=(Dh x x hx hx).1
  refine SW a ha l _ ?_
  cases b
  ·exact h1
  ·exact (Dh _ a h1 ha).1
theorem S0 (a:N16) (ha:a.ok) (l:List Bool):(Og a l).ok:=SW a ha l _ (C3 1).1
def EV (n:Nat):List Bool→Nat
 | []=>n
 | b::l=>EV (2 * n+bn b) l
theorem WA (a:N16) (ha:a.ok) (l:List Bool):∀ (x:N16) (n:Nat),x.ok→x.val=a.val ^ n % Pq→(RS a x l).val=a.val ^ (EV n l) % Pq:=by
 have key:∀ x y:N16,x.ok→y.ok→(B7 x y).ok∧(B7 x y).val=x.val * y.val % Pq:=Dh
 generalize Pq=p at *
 induction l with
 | nil=>exact fun x n hx hv=>hv
 | cons b l ih =>
  intro x n hx hv
  obtain ⟨h1,e1⟩:=key x x hx hx
  have e1':(B7 x x).val=a.val ^ (2 * n) % p:=by
   rw [e1,hv,← Nat.mul_mod,← Nat.pow_add,Nat.two_mul]
  have e2:EV n (b::l)=EV (2 * n+bn b) l:=rfl
  have e3:RS a x (b::l)=RS a (cond b (B7 (B7 x x) a) (B7 x x)) l:=rfl
  rw [e2,e3]
  cases b
  ·exact ih _ _ h1 e1'
  ·obtain ⟨h2,f2⟩:=key _ a h1 ha
   refine ih _ _ h2 ?_
   show (B7 (B7 x x) a).val=a.val ^ (2 * n+1) % p
   rw [f2,e1',Nat.mod_mul_mod,Nat.pow_succ]
theorem WE (a:N16) (ha:a.ok) (l:List Bool):(Og a l).val=a.val ^ (EV 0 l) % Pq:=by
 refine WA a ha l _ 0 (C3 1).1 ?_
 rw [(C3 1).2,Nat.pow_zero]
 rfl
def NX:List AVal→Option (List Bool)
 | []=>some []
 | .bool b::l=>match NX l with
  | some bs=>some (b::bs)
  | none=>none
 | _=>none
theorem MT:∀ {c:List AVal}{l:List Bool},NX c=some l→c=l.map .bool
 | [],l,h=>by cases h; rfl
 | v::c,l,h=>by
  cases v <;> simp only [NX] at h <;> try (cases h; done)
  split at h
  ·rename_i bs hb
   cases h
   rw [MT hb]; rfl
  ·cases h
theorem F8 (m:Nat):∀ (x:List Bool),ltL m (x.map .bool)=true
 | []=>rfl
 | _::l=>F8 m l
end Go.Num
namespace Go.Proofs.YtcplgmgpagekfaaGreatDoor
open Go Go.Eng Go.Num
theorem aiW (a b:N16):(Au Tryz.prog cs0 (mask 79) 100 79 [a.av,b.av] [] Tryz.prog.globals.size).map (·.1)=some (.bool (A8 a b)):=by
 cases h15:(a.x15 != b.x15)
 rotate_left
 ·have e:A8 a b=decide (a.x15 < b.x15):=by simp [A8,N16.list,Ci,h15]
  rw [e]
  exact Aj (Ao _) (P:=Tryz.prog) (cs:=cs0) (sy:=[16]) (os:=[true]) (vs:=[]) (nn:=mask 79) (F:=100) (f:=79) (ob:=[(a.x15 != b.x15)]) (show AL (An Tryz.prog AP cs0 [16] [true] [] (mask 79) 100 79 [a.av,b.av] [] Tryz.prog.globals.size)=some (.bool (decide (a.x15 < b.x15)),[(a.x15 != b.x15)]) from by kernel_rfl) (by simp [Am,h15])
 cases h14:(a.x14 != b.x14)
 rotate_left
 ·have e:A8 a b=decide (a.x14 < b.x14):=by simp [A8,N16.list,Ci,h15,h14]
  rw [e]
  exact Aj (Ao _) (P:=Tryz.prog) (cs:=cs0) (sy:=[16]) (os:=[false,true]) (vs:=[]) (nn:=mask 79) (F:=100) (f:=79) (ob:=[(a.x14 != b.x14),!(a.x15 != b.x15)]) (show AL (An Tryz.prog AP cs0 [16] [false,true] [] (mask 79) 100 79 [a.av,b.av] [] Tryz.prog.globals.size)=some (.bool (decide (a.x14 < b.x14)),[(a.x14 != b.x14),!(a.x15 != b.x15)]) from by kernel_rfl) (by simp [Am,h15,h14])
 cases h13:(a.x13 != b.x13)
 rotate_left
 ·have e:A8 a b=decide (a.x13 < b.x13):=by simp [A8,N16.list,Ci,h15,h14,h13]
  rw [e]
  exact Aj (Ao _) (P:=Tryz.prog) (cs:=cs0) (sy:=[16]) (os:=[false,false,true]) (vs:=[]) (nn:=mask 79) (F:=100) (f:=79) (ob:=[(a.x13 != b.x13),!(a.x14 != b.x14),!(a.x15 != b.x15)]) (show AL (An Tryz.prog AP cs0 [16] [false,false,true] [] (mask 79) 100 79 [a.av,b.av] [] Tryz.prog.globals.size)=some (.bool (decide (a.x13 < b.x13)),[(a.x13 != b.x13),!(a.x14 != b.x14),!(a.x15 != b.x15)]) from by kernel_rfl) (by simp [Am,h15,h14,h13])
 cases h12:(a.x12 != b.x12)
 rotate_left
 ·have e:A8 a b=decide (a.x12 < b.x12):=by simp [A8,N16.list,Ci,h15,h14,h13,h12]
  rw [e]
  exact Aj (Ao _) (P:=Tryz.prog) (cs:=cs0) (sy:=[16]) (os:=[false,false,false,true]) (vs:=[]) (nn:=mask 79) (F:=100) (f:=79) (ob:=[(a.x12 != b.x12),!(a.x13 != b.x13),!(a.x14 != b.x14),!(a.x15 != b.x15)]) (show AL (An Tryz.prog AP cs0 [16] [false,false,false,true] [] (mask 79) 100 79 [a.av,b.av] [] Tryz.prog.globals.size)=some (.bool (decide (a.x12 < b.x12)),[(a.x12 != b.x12),!(a.x13 != b.x13),!(a.x14 != b.x14),!(a.x15 != b.x15)]) from by kernel_rfl) (by simp [Am,h15,h14,h13,h12])
 cases h11:(a.x11 != b.x11)
 rotate_left
 ·have e:A8 a b=decide (a.x11 < b.x11):=by simp [A8,N16.list,Ci,h15,h14,h13,h12,h11]
  rw [e]
  exact Aj (Ao _) (P:=Tryz.prog) (cs:=cs0) (sy:=[16]) (os:=[false,false,false,false,true]) (vs:=[]) (nn:=mask 79) (F:=100) (f:=79) (ob:=[(a.x11 != b.x11),!(a.x12 != b.x12),!(a.x13 != b.x13),!(a.x14 != b.x14),!(a.x15 != b.x15)]) (show AL (An Tryz.prog AP cs0 [16] [false,false,false,false,true] [] (mask 79) 100 79 [a.av,b.av] [] Tryz.prog.globals.size)=some (.bool (decide (a.x11 < b.x11)),[(a.x11 != b.x11),!(a.x12 != b.x12),!(a.x13 != b.x13),!(a.x14 != b.x14),!(a.x15 != b.x15)]) from by kernel_rfl) (by simp [Am,h15,h14,h13,h12,h11])
 cases h10:(a.x10 != b.x10)
 rotate_left
 ·have e:A8 a b=decide (a.x10 < b.x10):=by simp [A8,N16.list,Ci,h15,h14,h13,h12,h11,h10]
  rw [e]
  exact Aj (Ao _) (P:=Tryz.prog) (cs:=cs0) (sy:=[16]) (os:=[false,false,false,false,false,true]) (vs:=[]) (nn:=mask 79) (F:=100) (f:=79) (ob:=[(a.x10 != b.x10),!(a.x11 != b.x11),!(a.x12 != b.x12),!(a.x13 != b.x13),!(a.x14 != b.x14),!(a.x15 != b.x15)]) (show AL (An Tryz.prog AP cs0 [16] [false,false,false,false,false,true] [] (mask 79) 100 79 [a.av,b.av] [] Tryz.prog.globals.size)=some (.bool (decide (a.x10 < b.x10)),[(a.x10 != b.x10),!(a.x11 != b.x11),!(a.x12 != b.x12),!(a.x13 != b.x13),!(a.x14 != b.x14),!(a.x15 != b.x15)]) from by kernel_rfl) (by simp [Am,h15,h14,h13,h12,h11,h10])
 cases h9:(a.x9 != b.x9)
 rotate_left
 ·have e:A8 a b=decide (a.x9 < b.x9):=by simp [A8,N16.list,Ci,h15,h14,h13,h12,h11,h10,h9]
  rw [e]
  exact Aj (Ao _) (P:=Tryz.prog) (cs:=cs0) (sy:=[16]) (os:=[false,false,false,false,false,false,true]) (vs:=[]) (nn:=mask 79) (F:=100) (f:=79) (ob:=[(a.x9 != b.x9),!(a.x10 != b.x10),!(a.x11 != b.x11),!(a.x12 != b.x12),!(a.x13 != b.x13),!(a.x14 != b.x14),!(a.x15 != b.x15)]) (show AL (An Tryz.prog AP cs0 [16] [false,false,false,false,false,false,true] [] (mask 79) 100 79 [a.av,b.av] [] Tryz.prog.globals.size)=some (.bool (decide (a.x9 < b.x9)),[(a.x9 != b.x9),!(a.x10 != b.x10),!(a.x11 != b.x11),!(a.x12 != b.x12),!(a.x13 != b.x13),!(a.x14 != b.x14),!(a.x15 != b.x15)]) from by kernel_rfl) (by simp [Am,h15,h14,h13,h12,h11,h10,h9])
 cases h8:(a.x8 != b.x8)
 rotate_left
 ·have e:A8 a b=decide (a.x8 < b.x8):=by simp [A8,N16.list,Ci,h15,h14,h13,h12,h11,h10,h9,h8]
  rw [e]
  exact Aj (Ao _) (P:=Tryz.prog) (cs:=cs0) (sy:=[16]) (os:=[false,false,false,false,false,false,false,true]) (vs:=[]) (nn:=mask 79) (F:=100) (f:=79) (ob:=[(a.x8 != b.x8),!(a.x9 != b.x9),!(a.x10 != b.x10),!(a.x11 != b.x11),!(a.x12 != b.x12),!(a.x13 != b.x13),!(a.x14 != b.x14),!(a.x15 != b.x15)]) (show AL (An Tryz.prog AP cs0 [16] [false,false,false,false,false,false,false,true] [] (mask 79) 100 79 [a.av,b.av] [] Tryz.prog.globals.size)=some (.bool (decide (a.x8 < b.x8)),[(a.x8 != b.x8),!(a.x9 != b.x9),!(a.x10 != b.x10),!(a.x11 != b.x11),!(a.x12 != b.x12),!(a.x13 != b.x13),!(a.x14 != b.x14),!(a.x15 != b.x15)]) from by kernel_rfl) (by simp [Am,h15,h14,h13,h12,h11,h10,h9,h8])
 cases h7:(a.x7 != b.x7)
 rotate_left
 ·have e:A8 a b=decide (a.x7 < b.x7):=by simp [A8,N16.list,Ci,h15,h14,h13,h12,h11,h10,h9,h8,h7]
  rw [e]
  exact Aj (Ao _) (P:=Tryz.prog) (cs:=cs0) (sy:=[16]) (os:=[false,false,false,false,false,false,false,false,true]) (vs:=[]) (nn:=mask 79) (F:=100) (f:=79) (ob:=[(a.x7 != b.x7),!(a.x8 != b.x8),!(a.x9 != b.x9),!(a.x10 != b.x10),!(a.x11 != b.x11),!(a.x12 != b.x12),!(a.x13 != b.x13),!(a.x14 != b.x14),!(a.x15 != b.x15)]) (show AL (An Tryz.prog AP cs0 [16] [false,false,false,false,false,false,false,false,true] [] (mask 79) 100 79 [a.av,b.av] [] Tryz.prog.globals.size)=some (.bool (decide (a.x7 < b.x7)),[(a.x7 != b.x7),!(a.x8 != b.x8),!(a.x9 != b.x9),!(a.x10 != b.x10),!(a.x11 != b.x11),!(a.x12 != b.x12),!(a.x13 != b.x13),!(a.x14 != b.x14),!(a.x15 != b.x15)]) from by kernel_rfl) (by simp [Am,h15,h14,h13,h12,h11,h10,h9,h8,h7])
 cases h6:(a.x6 != b.x6)
 rotate_left
 ·have e:A8 a b=decide (a.x6 < b.x6):=by simp [A8,N16.list,Ci,h15,h14,h13,h12,h11,h10,h9,h8,h7,h6]
  rw [e]
  exact Aj (Ao _) (P:=Tryz.prog) (cs:=cs0) (sy:=[16]) (os:=[false,false,false,false,false,false,false,false,false,true]) (vs:=[]) (nn:=mask 79) (F:=100) (f:=79) (ob:=[(a.x6 != b.x6),!(a.x7 != b.x7),!(a.x8 != b.x8),!(a.x9 != b.x9),!(a.x10 != b.x10),!(a.x11 != b.x11),!(a.x12 != b.x12),!(a.x13 != b.x13),!(a.x14 != b.x14),!(a.x15 != b.x15)]) (show AL (An Tryz.prog AP cs0 [16] [false,false,false,false,false,false,false,false,false,true] [] (mask 79) 100 79 [a.av,b.av] [] Tryz.prog.globals.size)=some (.bool (decide (a.x6 < b.x6)),[(a.x6 != b.x6),!(a.x7 != b.x7),!(a.x8 != b.x8),!(a.x9 != b.x9),!(a.x10 != b.x10),!(a.x11 != b.x11),!(a.x12 != b.x12),!(a.x13 != b.x13),!(a.x14 != b.x14),!(a.x15 != b.x15)]) from by kernel_rfl) (by simp [Am,h15,h14,h13,h12,h11,h10,h9,h8,h7,h6])
 cases h5:(a.x5 != b.x5)
 rotate_left
 ·have e:A8 a b=decide (a.x5 < b.x5):=by simp [A8,N16.list,Ci,h15,h14,h13,h12,h11,h10,h9,h8,h7,h6,h5]
  rw [e]
  exact Aj (Ao _) (P:=Tryz.prog) (cs:=cs0) (sy:=[16]) (os:=[false,false,false,false,false,false,false,false,false,false,true]) (vs:=[]) (nn:=mask 79) (F:=100) (f:=79) (ob:=[(a.x5 != b.x5),!(a.x6 != b.x6),!(a.x7 != b.x7),!(a.x8 != b.x8),!(a.x9 != b.x9),!(a.x10 != b.x10),!(a.x11 != b.x11),!(a.x12 != b.x12),!(a.x13 != b.x13),!(a.x14 != b.x14),!(a.x15 != b.x15)]) (show AL (An Tryz.prog AP cs0 [16] [false,false,false,false,false,false,false,false,false,false,true] [] (mask 79) 100 79 [a.av,b.av] [] Tryz.prog.globals.size)=some (.bool (decide (a.x5 < b.x5)),[(a.x5 != b.x5),!(a.x6 != b.x6),!(a.x7 != b.x7),!(a.x8 != b.x8),!(a.x9 != b.x9),!(a.x10 != b.x10),!(a.x11 != b.x11),!(a.x12 != b.x12),!(a.x13 != b.x13),!(a.x14 != b.x14),!(a.x15 != b.x15)]) from by kernel_rfl) (by simp [Am,h15,h14,h13,h12,h11,h10,h9,h8,h7,h6,h5])
 cases h4:(a.x4 != b.x4)
 rotate_left
 ·have e:A8 a b=decide (a.x4 < b.x4):=by simp [A8,N16.list,Ci,h15,h14,h13,h12,h11,h10,h9,h8,h7,h6,h5,h4]
  rw [e]
  exact Aj (Ao _) (P:=Tryz.prog) (cs:=cs0) (sy:=[16]) (os:=[false,false,false,false,false,false,false,false,false,false,false,true]) (vs:=[]) (nn:=mask 79) (F:=100) (f:=79) (ob:=[(a.x4 != b.x4),!(a.x5 != b.x5),!(a.x6 != b.x6),!(a.x7 != b.x7),!(a.x8 != b.x8),!(a.x9 != b.x9),!(a.x10 != b.x10),!(a.x11 != b.x11),!(a.x12 != b.x12),!(a.x13 != b.x13),!(a.x14 != b.x14),!(a.x15 != b.x15)]) (show AL (An Tryz.prog AP cs0 [16] [false,false,false,false,false,false,false,false,false,false,false,true] [] (mask 79) 100 79 [a.av,b.av] [] Tryz.prog.globals.size)=some (.bool (decide (a.x4 < b.x4)),[(a.x4 != b.x4),!(a.x5 != b.x5),!(a.x6 != b.x6),!(a.x7 != b.x7),!(a.x8 != b.x8),!(a.x9 != b.x9),!(a.x10 != b.x10),!(a.x11 != b.x11),!(a.x12 != b.x12),!(a.x13 != b.x13),!(a.x14 != b.x14),!(a.x15 != b.x15)]) from by kernel_rfl) (by simp [Am,h15,h14,h13,h12,h11,h10,h9,h8,h7,h6,h5,h4])
 cases h3:(a.x3 != b.x3)
 rotate_left
 ·have e:A8 a b=decide (a.x3 < b.x3):=by simp [A8,N16.list,Ci,h15,h14,h13,h12,h11,h10,h9,h8,h7,h6,h5,h4,h3]
  rw [e]
  exact Aj (Ao _) (P:=Tryz.prog) (cs:=cs0) (sy:=[16]) (os:=[false,false,false,false,false,false,false,false,false,false,false,false,true]) (vs:=[]) (nn:=mask 79) (F:=100) (f:=79) (ob:=[(a.x3 != b.x3),!(a.x4 != b.x4),!(a.x5 != b.x5),!(a.x6 != b.x6),!(a.x7 != b.x7),!(a.x8 != b.x8),!(a.x9 != b.x9),!(a.x10 != b.x10),!(a.x11 != b.x11),!(a.x12 != b.x12),!(a.x13 != b.x13),!(a.x14 != b.x14),!(a.x15 != b.x15)]) (show AL (An Tryz.prog AP cs0 [16] [false,false,false,false,false,false,false,false,false,false,false,false,true] [] (mask 79) 100 79 [a.av,b.av] [] Tryz.prog.globals.size)=some (.bool (decide (a.x3 < b.x3)),[(a.x3 != b.x3),!(a.x4 != b.x4),!(a.x5 != b.x5),!(a.x6 != b.x6),!(a.x7 != b.x7),!(a.x8 != b.x8),!(a.x9 != b.x9),!(a.x10 != b.x10),!(a.x11 != b.x11),!(a.x12 != b.x12),!(a.x13 != b.x13),!(a.x14 != b.x14),!(a.x15 != b.x15)]) from by kernel_rfl) (by simp [Am,h15,h14,h13,h12,h11,h10,h9,h8,h7,h6,h5,h4,h3])
 cases h2:(a.x2 != b.x2)
 rotate_left
 ·have e:A8 a b=decide (a.x2 < b.x2):=by simp [A8,N16.list,Ci,h15,h14,h13,h12,h11,h10,h9,h8,h7,h6,h5,h4,h3,h2]
  rw [e]
  exact Aj (Ao _) (P:=Tryz.prog) (cs:=cs0) (sy:=[16]) (os:=[false,false,false,false,false,false,false,false,false,false,false,false,false,true]) (vs:=[]) (nn:=mask 79) (F:=100) (f:=79) (ob:=[(a.x2 != b.x2),!(a.x3 != b.x3),!(a.x4 != b.x4),!(a.x5 != b.x5),!(a.x6 != b.x6),!(a.x7 != b.x7),!(a.x8 != b.x8),!(a.x9 != b.x9),!(a.x10 != b.x10),!(a.x11 != b.x11),!(a.x12 != b.x12),!(a.x13 != b.x13),!(a.x14 != b.x14),!(a.x15 != b.x15)]) (show AL (An Tryz.prog AP cs0 [16] [false,false,false,false,false,false,false,false,false,false,false,false,false,true] [] (mask 79) 100 79 [a.av,b.av] [] Tryz.prog.globals.size)=some (.bool (decide (a.x2 < b.x2)),[(a.x2 != b.x2),!(a.x3 != b.x3),!(a.x4 != b.x4),!(a.x5 != b.x5),!(a.x6 != b.x6),!(a.x7 != b.x7),!(a.x8 != b.x8),!(a.x9 != b.x9),!(a.x10 != b.x10),!(a.x11 != b.x11),!(a.x12 != b.x12),!(a.x13 != b.x13),!(a.x14 != b.x14),!(a.x15 != b.x15)]) from by kernel_rfl) (by simp [Am,h15,h14,h13,h12,h11,h10,h9,h8,h7,h6,h5,h4,h3,h2])
 cases h1:(a.x1 != b.x1)
 rotate_left
 ·have e:A8 a b=decide (a.x1 < b.x1):=by simp [A8,N16.list,Ci,h15,h14,h13,h12,h11,h10,h9,h8,h7,h6,h5,h4,h3,h2,h1]
  rw [e]
  exact Aj (Ao _) (P:=Tryz.prog) (cs:=cs0) (sy:=[16]) (os:=[false,false,false,false,false,false,false,false,false,false,false,false,false,false,true]) (vs:=[]) (nn:=mask 79) (F:=100) (f:=79) (ob:=[(a.x1 != b.x1),!(a.x2 != b.x2),!(a.x3 != b.x3),!(a.x4 != b.x4),!(a.x5 != b.x5),!(a.x6 != b.x6),!(a.x7 != b.x7),!(a.x8 != b.x8),!(a.x9 != b.x9),!(a.x10 != b.x10),!(a.x11 != b.x11),!(a.x12 != b.x12),!(a.x13 != b.x13),!(a.x14 != b.x14),!(a.x15 != b.x15)]) (show AL (An Tryz.prog AP cs0 [16] [false,false,false,false,false,false,false,false,false,false,false,false,false,false,true] [] (mask 79) 100 79 [a.av,b.av] [] Tryz.prog.globals.size)=some (.bool (decide (a.x1 < b.x1)),[(a.x1 != b.x1),!(a.x2 != b.x2),!(a.x3 != b.x3),!(a.x4 != b.x4),!(a.x5 != b.x5),!(a.x6 != b.x6),!(a.x7 != b.x7),!(a.x8 != b.x8),!(a.x9 != b.x9),!(a.x10 != b.x10),!(a.x11 != b.x11),!(a.x12 != b.x12),!(a.x13 != b.x13),!(a.x14 != b.x14),!(a.x15 != b.x15)]) from by kernel_rfl) (by simp [Am,h15,h14,h13,h12,h11,h10,h9,h8,h7,h6,h5,h4,h3,h2,h1])
 cases h0:(a.x0 != b.x0)
 rotate_left
 ·have e:A8 a b=decide (a.x0 < b.x0):=by simp [A8,N16.list,Ci,h15,h14,h13,h12,h11,h10,h9,h8,h7,h6,h5,h4,h3,h2,h1,h0]
  rw [e]
  exact Aj (Ao _) (P:=Tryz.prog) (cs:=cs0) (sy:=[16]) (os:=[false,false,false,false,false,false,false,false,false,false,false,false,false,false,false,true]) (vs:=[]) (nn:=mask 79) (F:=100) (f:=79) (ob:=[(a.x0 != b.x0),!(a.x1 != b.x1),!(a.x2 != b.x2),!(a.x3 != b.x3),!(a.x4 != b.x4),!(a.x5 != b.x5),!(a.x6 != b.x6),!(a.x7 != b.x7),!(a.x8 != b.x8),!(a.x9 != b.x9),!(a.x10 != b.x10),!(a.x11 != b.x11),!(a.x12 != b.x12),!(a.x13 != b.x13),!(a.x14 != b.x14),!(a.x15 != b.x15)]) (show AL (An Tryz.prog AP cs0 [16] [false,false,false,false,false,false,false,false,false,false,false,false,false,false,false,true] [] (mask 79) 100 79 [a.av,b.av] [] Tryz.prog.globals.size)=some (.bool (decide (a.x0 < b.x0)),[(a.x0 != b.x0),!(a.x1 != b.x1),!(a.x2 != b.x2),!(a.x3 != b.x3),!(a.x4 != b.x4),!(a.x5 != b.x5),!(a.x6 != b.x6),!(a.x7 != b.x7),!(a.x8 != b.x8),!(a.x9 != b.x9),!(a.x10 != b.x10),!(a.x11 != b.x11),!(a.x12 != b.x12),!(a.x13 != b.x13),!(a.x14 != b.x14),!(a.x15 != b.x15)]) from by kernel_rfl) (by simp [Am,h15,h14,h13,h12,h11,h10,h9,h8,h7,h6,h5,h4,h3,h2,h1,h0])
 have e:A8 a b=false:=by simp [A8,N16.list,Ci,h15,h14,h13,h12,h11,h10,h9,h8,h7,h6,h5,h4,h3,h2,h1,h0]
 rw [e]
 exact Aj (Ao _) (P:=Tryz.prog) (cs:=cs0) (sy:=[16]) (os:=[false,false,false,false,false,false,false,false,false,false,false,false,false,false,false,false]) (vs:=[]) (nn:=mask 79) (F:=100) (f:=79) (ob:=[!(a.x0 != b.x0),!(a.x1 != b.x1),!(a.x2 != b.x2),!(a.x3 != b.x3),!(a.x4 != b.x4),!(a.x5 != b.x5),!(a.x6 != b.x6),!(a.x7 != b.x7),!(a.x8 != b.x8),!(a.x9 != b.x9),!(a.x10 != b.x10),!(a.x11 != b.x11),!(a.x12 != b.x12),!(a.x13 != b.x13),!(a.x14 != b.x14),!(a.x15 != b.x15)]) (show AL (An Tryz.prog AP cs0 [16] [false,false,false,false,false,false,false,false,false,false,false,false,false,false,false,false] [] (mask 79) 100 79 [a.av,b.av] [] Tryz.prog.globals.size)=some (.bool false,[!(a.x0 != b.x0),!(a.x1 != b.x1),!(a.x2 != b.x2),!(a.x3 != b.x3),!(a.x4 != b.x4),!(a.x5 != b.x5),!(a.x6 != b.x6),!(a.x7 != b.x7),!(a.x8 != b.x8),!(a.x9 != b.x9),!(a.x10 != b.x10),!(a.x11 != b.x11),!(a.x12 != b.x12),!(a.x13 != b.x13),!(a.x14 != b.x14),!(a.x15 != b.x15)]) from by kernel_rfl) (by simp [Am,h15,h14,h13,h12,h11,h10,h9,h8,h7,h6,h5,h4,h3,h2,h1,h0])
def g79:List AVal→Option EffA
 | [.agg [.u64 a0,.u64 a1,.u64 a2,.u64 a3,.u64 a4,.u64 a5,.u64 a6,.u64 a7,.u64 a8,.u64 a9,.u64 a10,.u64 a11,.u64 a12,.u64 a13,.u64 a14,.u64 a15],.agg [.u64 b0,.u64 b1,.u64 b2,.u64 b3,.u64 b4,.u64 b5,.u64 b6,.u64 b7,.u64 b8,.u64 b9,.u64 b10,.u64 b11,.u64 b12,.u64 b13,.u64 b14,.u64 b15]]=>some (.pure (.bool (A8 (N16.mk a0 a1 a2 a3 a4 a5 a6 a7 a8 a9 a10 a11 a12 a13 a14 a15) (N16.mk b0 b1 b2 b3 b4 b5 b6 b7 b8 b9 b10 b11 b12 b13 b14 b15))))
 | _=>none
theorem afA:Ai Tryz.prog (Ag 79 g79):=Ak fun args e he=>by
 unfold g79 at he
 split at he
 ·rename_i a0 a1 a2 a3 a4 a5 a6 a7 a8 a9 a10 a11 a12 a13 a14 a15 b0 b1 b2 b3 b4 b5 b6 b7 b8 b9 b10 b11 b12 b13 b14 b15
  cases he
  exact Ac Cm AB (aiW (N16.mk a0 a1 a2 a3 a4 a5 a6 a7 a8 a9 a10 a11 a12 a13 a14 a15) (N16.mk b0 b1 b2 b3 b4 b5 b6 b7 b8 b9 b10 b11 b12 b13 b14 b15)) rfl rfl
 ·cases he
theorem ahD (a0 a1 a2 a3 a4 a5 a6 a7 a8 a9 a10 a11 a12 a13 a14 a15 a16 a17 a18 a19 a20 a21 a22 a23 a24 a25 a26 a27 a28 a29 a30 a31:UInt8):(Au Tryz.prog cs0 (mask 56) 100 56 [.str [a0,a1,a2,a3,a4,a5,a6,a7,a8,a9,a10,a11,a12,a13,a14,a15,a16,a17,a18,a19,a20,a21,a22,a23,a24,a25,a26,a27,a28,a29,a30,a31]] [] Tryz.prog.globals.size).map (·.1)=some (EQ [a0,a1,a2,a3,a4,a5,a6,a7,a8,a9,a10,a11,a12,a13,a14,a15,a16,a17,a18,a19,a20,a21,a22,a23,a24,a25,a26,a27,a28,a29,a30,a31]).av:=by kernel_rfl
def g56:List AVal→Option EffA
 | [.str [a0,a1,a2,a3,a4,a5,a6,a7,a8,a9,a10,a11,a12,a13,a14,a15,a16,a17,a18,a19,a20,a21,a22,a23,a24,a25,a26,a27,a28,a29,a30,a31]]=>some (.pure (EQ [a0,a1,a2,a3,a4,a5,a6,a7,a8,a9,a10,a11,a12,a13,a14,a15,a16,a17,a18,a19,a20,a21,a22,a23,a24,a25,a26,a27,a28,a29,a30,a31]).av)
 | _=>none
theorem ad0:Ai Tryz.prog (Ag 56 g56):=Ak fun args e he=>by
 unfold g56 at he
 split at he
 ·rename_i a0 a1 a2 a3 a4 a5 a6 a7 a8 a9 a10 a11 a12 a13 a14 a15 a16 a17 a18 a19 a20 a21 a22 a23 a24 a25 a26 a27 a28 a29 a30 a31
  cases he
  exact Ac Cm AB (ahD a0 a1 a2 a3 a4 a5 a6 a7 a8 a9 a10 a11 a12 a13 a14 a15 a16 a17 a18 a19 a20 a21 a22 a23 a24 a25 a26 a27 a28 a29 a30 a31) rfl rfl
 ·cases he
theorem aiu (a:N16):(Au Tryz.prog cs0 (mask 39) 100 39 [(N16.av a)] [] Tryz.prog.globals.size).map (·.1)=some (.str (bytesN a)):=by kernel_rfl
def g39:List AVal→Option EffA
 | [.agg [.u64 a0,.u64 a1,.u64 a2,.u64 a3,.u64 a4,.u64 a5,.u64 a6,.u64 a7,.u64 a8,.u64 a9,.u64 a10,.u64 a11,.u64 a12,.u64 a13,.u64 a14,.u64 a15]]=>some (.pure (.str (bytesN (N16.mk a0 a1 a2 a3 a4 a5 a6 a7 a8 a9 a10 a11 a12 a13 a14 a15))))
 | _=>none
theorem QQ:Ai Tryz.prog (Ag 39 g39):=Ak fun args e he=>by
 unfold g39 at he
 split at he
 ·rename_i a0 a1 a2 a3 a4 a5 a6 a7 a8 a9 a10 a11 a12 a13 a14 a15
  cases he
  exact Ac Cm AB (aiu (N16.mk a0 a1 a2 a3 a4 a5 a6 a7 a8 a9 a10 a11 a12 a13 a14 a15)) rfl rfl
 ·cases he
theorem ahR (a:N16) (b:N16):(Au Tryz.prog cs0 (mask 81) 100 81 [(N16.av a),(N16.av b)] [] Tryz.prog.globals.size).map (·.1)=some (N16.av (Bv a b)):=by kernel_rfl
def g81:List AVal→Option EffA
 | [.agg [.u64 a0,.u64 a1,.u64 a2,.u64 a3,.u64 a4,.u64 a5,.u64 a6,.u64 a7,.u64 a8,.u64 a9,.u64 a10,.u64 a11,.u64 a12,.u64 a13,.u64 a14,.u64 a15],.agg [.u64 b0,.u64 b1,.u64 b2,.u64 b3,.u64 b4,.u64 b5,.u64 b6,.u64 b7,.u64 b8,.u64 b9,.u64 b10,.u64 b11,.u64 b12,.u64 b13,.u64 b14,.u64 b15]]=>some (.pure (N16.av (Bv (N16.mk a0 a1 a2 a3 a4 a5 a6 a7 a8 a9 a10 a11 a12 a13 a14 a15) (N16.mk b0 b1 b2 b3 b4 b5 b6 b7 b8 b9 b10 b11 b12 b13 b14 b15))))
 | _=>none
theorem af2:Ai Tryz.prog (Ag 81 g81):=Ak fun args e he=>by
 unfold g81 at he
 split at he
 ·rename_i a0 a1 a2 a3 a4 a5 a6 a7 a8 a9 a10 a11 a12 a13 a14 a15 b0 b1 b2 b3 b4 b5 b6 b7 b8 b9 b10 b11 b12 b13 b14 b15
  cases he
  exact Ac Cm AB (ahR (N16.mk a0 a1 a2 a3 a4 a5 a6 a7 a8 a9 a10 a11 a12 a13 a14 a15) (N16.mk b0 b1 b2 b3 b4 b5 b6 b7 b8 b9 b10 b11 b12 b13 b14 b15)) rfl rfl
 ·cases he
theorem ajv  : (Au Tryz.prog cs0 (mask 80) 100 80 [] [] Tryz.prog.globals.size).map (·.1)=some (Bd.av):=by kernel_rfl
def g80:List AVal→Option EffA
 | []=>some (.pure (Bd.av))
 | _=>none
theorem adc:Ai Tryz.prog (Ag 80 g80):=Ak fun args e he=>by
 unfold g80 at he
 split at he
 ·skip
  cases he
  exact Ac Cm AB (ajv ) rfl rfl
 ·cases he
theorem aiP (a:N16):(Au Tryz.prog cs0 (mask 55) 100 55 [(N16.av a)] [] Tryz.prog.globals.size).map (·.1)=some (N32.av (Jj a)):=by kernel_rfl
def g55:List AVal→Option EffA
 | [.agg [.u64 a0,.u64 a1,.u64 a2,.u64 a3,.u64 a4,.u64 a5,.u64 a6,.u64 a7,.u64 a8,.u64 a9,.u64 a10,.u64 a11,.u64 a12,.u64 a13,.u64 a14,.u64 a15]]=>some (.pure (N32.av (Jj (N16.mk a0 a1 a2 a3 a4 a5 a6 a7 a8 a9 a10 a11 a12 a13 a14 a15))))
 | _=>none
theorem adz:Ai Tryz.prog (Ag 55 g55):=Ak fun args e he=>by
 unfold g55 at he
 split at he
 ·rename_i a0 a1 a2 a3 a4 a5 a6 a7 a8 a9 a10 a11 a12 a13 a14 a15
  cases he
  exact Ac Cm AB (aiP (N16.mk a0 a1 a2 a3 a4 a5 a6 a7 a8 a9 a10 a11 a12 a13 a14 a15)) rfl rfl
 ·cases he
def nr1:CS:=(At (Ag 79 g79) (At (Ag 56 g56) (At (Ag 39 g39) (At (Ag 81 g81) (At (Ag 80 g80) (Ag 55 g55))))))
theorem II:Ai Tryz.prog nr1:=(Af afA (Af ad0 (Af QQ (Af af2 (Af adc adz)))))
def Sd1 (t0 t:N32) (k:Int):SA:=⟨[(0,t0.av),(1,.ptr 1 0),(2,.ptr 9 0),(3,.int .i64 k)],[(1,.cells false t.cells),(9,.cells false BG.cells)],25⟩
def ZU (t0 t:N32):SA:=⟨[(0,t0.av),(1,.ptr 1 0),(2,.ptr 9 0),(3,.int .i64 3),(15,.bool false)],[(1,.cells false t.cells),(9,.cells false BG.cells)],41⟩
def Sd2 (t0 t:N32) (k:Int):SA:=⟨[(0,t0.av),(1,.ptr 1 0),(2,.ptr 9 0),(3,.int .i64 3),(15,.bool false),(8,.int .i64 k)],[(1,.cells false t.cells),(9,.cells false BG.cells)],49⟩
def Qu (t0 t:N32):SA:=⟨[(0,t0.av),(1,.ptr 1 0),(2,.ptr 9 0),(3,.int .i64 3),(15,.bool false),(8,.int .i64 3),(58,.bool false)],[(1,.cells false t.cells),(9,.cells false BG.cells)],65⟩
noncomputable def prd:List Code:=Aw (AH Tryz.f54)
noncomputable def bd1:Code:=A6 (prd.getD 2 .skip)
noncomputable def bd2:Code:=A6 (prd.getD 4 .skip)
theorem ale (t:N32):CF (Bl Tryz.prog AP nr1 [] 99 (mask 54) 100 Tryz.prog.globals.size ((prd.drop 0).take 2) ⟨AY [t.av] 0,[],Tryz.prog.globals.size⟩ ⟨[],[],[]⟩)=some (Sd1 t t 0,[]):=by kernel_rfl
theorem agL (t0 s t:N32):ET Tryz.prog AP nr1 [] [] [] 99 (mask 54) 100 Tryz.prog.globals.size bd1 (Sd1 t0 s 0) (Sd1 t0 t 0)=some (Sd1 t0 (Ap t) 1,[]):=by kernel_rfl
theorem adJ (t0 s t:N32):ET Tryz.prog AP nr1 [] [] [] 99 (mask 54) 100 Tryz.prog.globals.size bd1 (Sd1 t0 s 0) (Sd1 t0 t 1)=some (Sd1 t0 (Ap t) 2,[]):=by kernel_rfl
theorem agf (t0 s t:N32):ET Tryz.prog AP nr1 [] [] [] 99 (mask 54) 100 Tryz.prog.globals.size bd1 (Sd1 t0 s 0) (Sd1 t0 t 2)=some (Sd1 t0 (Ap t) 3,[]):=by kernel_rfl
theorem akj (t0 t:N32):evC Tryz.prog nr1 99 (mask 54) 100 Tryz.prog.globals.size bd1 (Sd1 t0 t 3)=some (.exit 0,ZU t0 t):=by kernel_rfl
theorem ah7 (t0 t:N32):CF (Bl Tryz.prog AP nr1 [] 99 (mask 54) 100 Tryz.prog.globals.size ((prd.drop 3).take 1) (ZU t0 t) ⟨[],[],[]⟩)=some (Sd2 t0 t 0,[]):=by kernel_rfl
theorem ae7 (t0 s t:N32):ET Tryz.prog AP nr1 [] [] [] 99 (mask 54) 100 Tryz.prog.globals.size bd2 (Sd2 t0 s 0) (Sd2 t0 t 0)=some (Sd2 t0 (CP t) 1,[]):=by kernel_rfl
theorem ae5 (t0 s t:N32):ET Tryz.prog AP nr1 [] [] [] 99 (mask 54) 100 Tryz.prog.globals.size bd2 (Sd2 t0 s 0) (Sd2 t0 t 1)=some (Sd2 t0 (CP t) 2,[]):=by kernel_rfl
theorem ac2 (t0 s t:N32):ET Tryz.prog AP nr1 [] [] [] 99 (mask 54) 100 Tryz.prog.globals.size bd2 (Sd2 t0 s 0) (Sd2 t0 t 2)=some (Sd2 t0 (CP t) 3,[]):=by kernel_rfl
theorem ahK (t0 t:N32):evC Tryz.prog nr1 99 (mask 54) 100 Tryz.prog.globals.size bd2 (Sd2 t0 t 3)=some (.exit 6,Qu t0 t):=by kernel_rfl
theorem ah8 (t0 t:N32):Jg Tryz.prog Tryz.f54 (Bl Tryz.prog AP nr1 [94] 99 (mask 54) 100 Tryz.prog.globals.size (prd.drop 5) (Qu t0 t) ⟨[false],[],[]⟩)=some (t.lo.av,[!(!(A8 t.lo Bd))]):=by kernel_rfl
theorem ajx (t0 t:N32):Jg Tryz.prog Tryz.f54 (Bl Tryz.prog AP nr1 [94] 99 (mask 54) 100 Tryz.prog.globals.size (prd.drop 5) (Qu t0 t) ⟨[true,false],[],[]⟩)=some ((Bv t.lo Bd).av,[!(!(A8 (Bv t.lo Bd) Bd)),!(A8 t.lo Bd)]):=by kernel_rfl
theorem akv (t0 t:N32):Jg Tryz.prog Tryz.f54 (Bl Tryz.prog AP nr1 [94] 99 (mask 54) 100 Tryz.prog.globals.size (prd.drop 5) (Qu t0 t) ⟨[true,true,false],[],[]⟩)=some ((Bv (Bv t.lo Bd) Bd).av,[!(!(A8 (Bv (Bv t.lo Bd) Bd) Bd)),!(A8 (Bv t.lo Bd) Bd),!(A8 t.lo Bd)]):=by kernel_rfl
theorem ak9 (t0 t:N32) (h:A8 (Cy (Cy t.lo)) Bd=true):CM Tryz.prog Tryz.f54 (evS Tryz.prog nr1 99 (mask 54) 100 Tryz.prog.globals.size (prd.drop 5) (Qu t0 t))=some (Cy (Cy t.lo)).av:=by
 cases h1:A8 t.lo Bd
 ·have e1:Cy t.lo=(Bv t.lo Bd):=by simp only [Cy,h1,cond_false]
  rw [e1] at h ⊢
  cases h2:A8 (Bv t.lo Bd) Bd
  ·have e2:Cy (Bv t.lo Bd)=(Bv (Bv t.lo Bd) Bd):=by simp only [Cy,h2,cond_false]
   rw [e2] at h ⊢
   exact M1 (Ao _) (akv t0 t) (by simp [Am,h1,h2,h])
  ·have e2:Cy (Bv t.lo Bd)=(Bv t.lo Bd):=by simp only [Cy,h2,cond_true]
   rw [e2]
   exact M1 (Ao _) (ajx t0 t) (by simp [Am,h1,h2])
 ·have e1:Cy t.lo=t.lo:=by simp only [Cy,h1,cond_true]
  rw [e1,e1]
  exact M1 (Ao _) (ah8 t0 t) (by simp [Am,h1])
theorem ah3 (t:N32) (hb:Fv t.list=true):(Au Tryz.prog nr1 (mask 54) 100 54 [t.av] [] Tryz.prog.globals.size).map (·.1)=some (Kw t).av:=by
 rw [Gc (fn:=Tryz.f54) (c:=AH Tryz.f54) (by kernel_rfl) (by kernel_rfl) (by kernel_rfl)]
 have hA:=DB (Ao _) (ale t) rfl
 rw [List.drop_zero] at hA
 show CM Tryz.prog Tryz.f54 (evS Tryz.prog nr1 99 (mask 54) 100 Tryz.prog.globals.size prd ⟨AY [t.av] 0,[],Tryz.prog.globals.size⟩)=_
 rw [hA]
 have hB:=BZ (P:=Tryz.prog) (cs:=nr1) (nt:=99) (nn:=mask 54) (F:=100) (bs:=Tryz.prog.globals.size) (l:=prd) (k:=2) (id:=0) (b:=bd1) (by kernel_rfl) (fun j=>match j with | 0=>Sd1 t t 0 | 1=>Sd1 t (Ap t) 1 | 2=>Sd1 t (Ap (Ap t)) 2 | _=>Sd1 t (Ap (Ap (Ap t))) 3) 3 (s1:=ZU t (Ap (Ap (Ap t))))
  (fun j hj=>match j,hj with
   | 0,_=>C4 (Ao _) (agL t t t) rfl
   | 1,_=>C4 (Ao _) (adJ t t (Ap t)) rfl
   | 2,_=>C4 (Ao _) (agf t t (Ap (Ap t))) rfl) (akj t _) (by omega)
 have hC:=DB (Ao _) (ah7 t (Ap (Ap (Ap t)))) rfl
 have hD:=BZ (P:=Tryz.prog) (cs:=nr1) (nt:=99) (nn:=mask 54) (F:=100) (bs:=Tryz.prog.globals.size) (l:=prd) (k:=4) (id:=6) (b:=bd2) (by kernel_rfl) (fun j=>match j with | 0=>Sd2 t (Ap (Ap (Ap t))) 0 | 1=>Sd2 t (CP (Ap (Ap (Ap t)))) 1 | 2=>Sd2 t (CP (CP (Ap (Ap (Ap t))))) 2 | _=>Sd2 t (DP t) 3) 3 (s1:=Qu t (DP t))
  (fun j hj=>match j,hj with
   | 0,_=>C4 (Ao _) (ae7 t (Ap (Ap (Ap t))) (Ap (Ap (Ap t)))) rfl
   | 1,_=>C4 (Ao _) (ae5 t (Ap (Ap (Ap t))) (CP (Ap (Ap (Ap t))))) rfl
   | 2,_=>C4 (Ao _) (ac2 t (Ap (Ap (Ap t))) (CP (CP (Ap (Ap (Ap t)))))) rfl) (ahK t _) (by omega)
 have hB':evS Tryz.prog nr1 99 (mask 54) 100 Tryz.prog.globals.size (prd.drop 2) (Sd1 t t 0)=evS Tryz.prog nr1 99 (mask 54) 100 Tryz.prog.globals.size (prd.drop 3) (ZU t (Ap (Ap (Ap t)))):=hB
 have hD':evS Tryz.prog nr1 99 (mask 54) 100 Tryz.prog.globals.size (prd.drop 4) (Sd2 t (Ap (Ap (Ap t))) 0)=evS Tryz.prog nr1 99 (mask 54) 100 Tryz.prog.globals.size (prd.drop 5) (Qu t (DP t)):=hD
 rw [hB',hC,hD']
 exact ak9 t (DP t) (Vs t hb)
def p54:List AVal→Option (EffA × Bool)
 | [.agg [.u64 a0,.u64 a1,.u64 a2,.u64 a3,.u64 a4,.u64 a5,.u64 a6,.u64 a7,.u64 a8,.u64 a9,.u64 a10,.u64 a11,.u64 a12,.u64 a13,.u64 a14,.u64 a15,.u64 a16,.u64 a17,.u64 a18,.u64 a19,.u64 a20,.u64 a21,.u64 a22,.u64 a23,.u64 a24,.u64 a25,.u64 a26,.u64 a27,.u64 a28,.u64 a29,.u64 a30,.u64 a31]]=>some (.pure (Kw (N32.mk (N16.mk a0 a1 a2 a3 a4 a5 a6 a7 a8 a9 a10 a11 a12 a13 a14 a15) (N16.mk a16 a17 a18 a19 a20 a21 a22 a23 a24 a25 a26 a27 a28 a29 a30 a31))).av,Fv (N32.mk (N16.mk a0 a1 a2 a3 a4 a5 a6 a7 a8 a9 a10 a11 a12 a13 a14 a15) (N16.mk a16 a17 a18 a19 a20 a21 a22 a23 a24 a25 a26 a27 a28 a29 a30 a31)).list)
 | _=>none
theorem agz:Ai Tryz.prog (csP (Al 54 p54)):=AT fun args v he=>by
 unfold p54 at he
 split at he
 ·rename_i a0 a1 a2 a3 a4 a5 a6 a7 a8 a9 a10 a11 a12 a13 a14 a15 a16 a17 a18 a19 a20 a21 a22 a23 a24 a25 a26 a27 a28 a29 a30 a31
  simp only [Option.some.injEq,Prod.mk.injEq] at he
  obtain ⟨rfl,h⟩:=he
  exact Ac II AB (ah3 (N32.mk (N16.mk a0 a1 a2 a3 a4 a5 a6 a7 a8 a9 a10 a11 a12 a13 a14 a15) (N16.mk a16 a17 a18 a19 a20 a21 a22 a23 a24 a25 a26 a27 a28 a29 a30 a31)) h) rfl rfl
 ·cases he
def nr2:CS:=At (csP (Al 54 p54)) nr1
theorem Ki:Ai Tryz.prog nr2:=Af agz II
theorem QD:Bt (Al 54 p54) nr2:=A4
end Go.Proofs.YtcplgmgpagekfaaGreatDoor
namespace Go.Proofs.YtcplgmgpagekfaaGreatDoor
open Go Go.Eng Go.Num
theorem aim (a:UInt32):(Au Tryz.prog nr1 (mask 34) 100 34 [(.u32 a)] [] Tryz.prog.globals.size).map (·.1)=some (N16.av (smallN a)):=by kernel_rfl
def g34:List AVal→Option EffA
 | [.u32 a]=>some (.pure (N16.av (smallN a)))
 | _=>none
theorem R1:Ai Tryz.prog (Ag 34 g34):=Ak fun args e he=>by
 unfold g34 at he
 split at he
 ·rename_i a
  cases he
  exact Ac II AB (aim a) rfl rfl
 ·cases he
theorem ad7 (a0 a1 a2 a3 a4 a5 a6 a7 a8 a9 a10 a11 a12 a13 a14 a15 a16 a17 a18 a19 a20 a21 a22 a23 a24 a25 a26 a27 a28 a29 a30 a31:UInt8):(Au Tryz.prog nr2 (mask 33) 100 33 [.str [a0,a1,a2,a3,a4,a5,a6,a7,a8,a9,a10,a11,a12,a13,a14,a15,a16,a17,a18,a19,a20,a21,a22,a23,a24,a25,a26,a27,a28,a29,a30,a31]] [] Tryz.prog.globals.size).map (·.1)=some (ofP [a0,a1,a2,a3,a4,a5,a6,a7,a8,a9,a10,a11,a12,a13,a14,a15,a16,a17,a18,a19,a20,a21,a22,a23,a24,a25,a26,a27,a28,a29,a30,a31]).av:=
 Aj QD (P:=Tryz.prog) (cs:=nr2) (sy:=[6]) (os:=[]) (vs:=[]) (nn:=mask 33) (F:=100) (f:=33) (ob:=[Fv (Jj (EQ [a0,a1,a2,a3,a4,a5,a6,a7,a8,a9,a10,a11,a12,a13,a14,a15,a16,a17,a18,a19,a20,a21,a22,a23,a24,a25,a26,a27,a28,a29,a30,a31])).list]) (show AL (An Tryz.prog (Al 54 p54) nr2 [6] [] [] (mask 33) 100 33 [.str [a0,a1,a2,a3,a4,a5,a6,a7,a8,a9,a10,a11,a12,a13,a14,a15,a16,a17,a18,a19,a20,a21,a22,a23,a24,a25,a26,a27,a28,a29,a30,a31]] [] Tryz.prog.globals.size)=some ((ofP [a0,a1,a2,a3,a4,a5,a6,a7,a8,a9,a10,a11,a12,a13,a14,a15,a16,a17,a18,a19,a20,a21,a22,a23,a24,a25,a26,a27,a28,a29,a30,a31]).av,[Fv (Jj (EQ [a0,a1,a2,a3,a4,a5,a6,a7,a8,a9,a10,a11,a12,a13,a14,a15,a16,a17,a18,a19,a20,a21,a22,a23,a24,a25,a26,a27,a28,a29,a30,a31])).list]) from by kernel_rfl) (by rw [SS (s:=[a0,a1,a2,a3,a4,a5,a6,a7,a8,a9,a10,a11,a12,a13,a14,a15,a16,a17,a18,a19,a20,a21,a22,a23,a24,a25,a26,a27,a28,a29,a30,a31]) rfl]; rfl)
theorem ah5 (s:List UInt8) (h:isLen s 32=true):(Au Tryz.prog nr2 (mask 33) 100 33 [.str s] [] Tryz.prog.globals.size).map (·.1)=some (ofP s).av:=by
 obtain ⟨a0,a1,a2,a3,a4,a5,a6,a7,a8,a9,a10,a11,a12,a13,a14,a15,a16,a17,a18,a19,a20,a21,a22,a23,a24,a25,a26,a27,a28,a29,a30,a31,rfl⟩:=L2 (BK.1 h)
 exact ad7 a0 a1 a2 a3 a4 a5 a6 a7 a8 a9 a10 a11 a12 a13 a14 a15 a16 a17 a18 a19 a20 a21 a22 a23 a24 a25 a26 a27 a28 a29 a30 a31
def p33:List AVal→Option (EffA × Bool)
 | [.str a]=>some (.pure ((ofP a).av),isLen a 32)
 | _=>none
theorem Ni:Ai Tryz.prog (csP (Al 33 p33)):=AT fun args v he=>by
 unfold p33 at he
 split at he
 ·rename_i a
  simp only [Option.some.injEq,Prod.mk.injEq] at he
  obtain ⟨rfl,h⟩:=he
  exact Ac Ki AB (ah5 a h) rfl rfl
 ·cases he
theorem akD (a b:N16) (h:(Num.okB a && Num.okB b)=true):(Au Tryz.prog nr2 (mask 35) 200 35 [a.av,b.av] [] Tryz.prog.globals.size).map (·.1)=some (JQ a b).av:=by
 rw [Bool.and_eq_true,Be,Be] at h
 exact Aj QD (P:=Tryz.prog) (cs:=nr2) (sy:=[23]) (os:=[]) (vs:=[]) (nn:=mask 35) (F:=200) (f:=35) (ob:=[Fv (N32.list ⟨N16.ofL (Gv a.list b.list),BG⟩)]) (show AL (An Tryz.prog (Al 54 p54) nr2 [23] [] [] (mask 35) 200 35 [a.av,b.av] [] Tryz.prog.globals.size)=some ((JQ a b).av,[Fv (N32.list ⟨N16.ofL (Gv a.list b.list),BG⟩)]) from by kernel_rfl) (by rw [(OM a b h.1 h.2).1]; rfl)
def p35:List AVal→Option (EffA × Bool)
 | [.agg [.u64 a0,.u64 a1,.u64 a2,.u64 a3,.u64 a4,.u64 a5,.u64 a6,.u64 a7,.u64 a8,.u64 a9,.u64 a10,.u64 a11,.u64 a12,.u64 a13,.u64 a14,.u64 a15],.agg [.u64 b0,.u64 b1,.u64 b2,.u64 b3,.u64 b4,.u64 b5,.u64 b6,.u64 b7,.u64 b8,.u64 b9,.u64 b10,.u64 b11,.u64 b12,.u64 b13,.u64 b14,.u64 b15]]=>some (.pure ((JQ (N16.mk a0 a1 a2 a3 a4 a5 a6 a7 a8 a9 a10 a11 a12 a13 a14 a15) (N16.mk b0 b1 b2 b3 b4 b5 b6 b7 b8 b9 b10 b11 b12 b13 b14 b15)).av),Num.okB (N16.mk a0 a1 a2 a3 a4 a5 a6 a7 a8 a9 a10 a11 a12 a13 a14 a15) && Num.okB (N16.mk b0 b1 b2 b3 b4 b5 b6 b7 b8 b9 b10 b11 b12 b13 b14 b15))
 | _=>none
theorem Nm:Ai Tryz.prog (csP (Al 35 p35)):=AT fun args v he=>by
 unfold p35 at he
 split at he
 ·rename_i a0 a1 a2 a3 a4 a5 a6 a7 a8 a9 a10 a11 a12 a13 a14 a15 b0 b1 b2 b3 b4 b5 b6 b7 b8 b9 b10 b11 b12 b13 b14 b15
  simp only [Option.some.injEq,Prod.mk.injEq] at he
  obtain ⟨rfl,h⟩:=he
  exact Ac Ki AB (akD (N16.mk a0 a1 a2 a3 a4 a5 a6 a7 a8 a9 a10 a11 a12 a13 a14 a15) (N16.mk b0 b1 b2 b3 b4 b5 b6 b7 b8 b9 b10 b11 b12 b13 b14 b15) h) rfl rfl
 ·cases he
theorem aj5 (a b:N16) (h:(Num.okB a && Num.okB b)=true):(Au Tryz.prog nr2 (mask 36) 200 36 [a.av,b.av] [] Tryz.prog.globals.size).map (·.1)=some (B7 a b).av:=by
 rw [Bool.and_eq_true,Be,Be] at h
 exact Aj QD (P:=Tryz.prog) (cs:=nr2) (sy:=[34]) (os:=[]) (vs:=[]) (nn:=mask 36) (F:=200) (f:=36) (ob:=[Fv (Kq a b).list]) (show AL (An Tryz.prog (Al 54 p54) nr2 [34] [] [] (mask 36) 200 36 [a.av,b.av] [] Tryz.prog.globals.size)=some ((B7 a b).av,[Fv (Kq a b).list]) from by kernel_rfl) (by rw [(Po a b h.1 h.2).1]; rfl)
def p36:List AVal→Option (EffA × Bool)
 | [.agg [.u64 a0,.u64 a1,.u64 a2,.u64 a3,.u64 a4,.u64 a5,.u64 a6,.u64 a7,.u64 a8,.u64 a9,.u64 a10,.u64 a11,.u64 a12,.u64 a13,.u64 a14,.u64 a15],.agg [.u64 b0,.u64 b1,.u64 b2,.u64 b3,.u64 b4,.u64 b5,.u64 b6,.u64 b7,.u64 b8,.u64 b9,.u64 b10,.u64 b11,.u64 b12,.u64 b13,.u64 b14,.u64 b15]]=>some (.pure ((B7 (N16.mk a0 a1 a2 a3 a4 a5 a6 a7 a8 a9 a10 a11 a12 a13 a14 a15) (N16.mk b0 b1 b2 b3 b4 b5 b6 b7 b8 b9 b10 b11 b12 b13 b14 b15)).av),Num.okB (N16.mk a0 a1 a2 a3 a4 a5 a6 a7 a8 a9 a10 a11 a12 a13 a14 a15) && Num.okB (N16.mk b0 b1 b2 b3 b4 b5 b6 b7 b8 b9 b10 b11 b12 b13 b14 b15))
 | _=>none
theorem NH:Ai Tryz.prog (csP (Al 36 p36)):=AT fun args v he=>by
 unfold p36 at he
 split at he
 ·rename_i a0 a1 a2 a3 a4 a5 a6 a7 a8 a9 a10 a11 a12 a13 a14 a15 b0 b1 b2 b3 b4 b5 b6 b7 b8 b9 b10 b11 b12 b13 b14 b15
  simp only [Option.some.injEq,Prod.mk.injEq] at he
  obtain ⟨rfl,h⟩:=he
  exact Ac Ki AB (aj5 (N16.mk a0 a1 a2 a3 a4 a5 a6 a7 a8 a9 a10 a11 a12 a13 a14 a15) (N16.mk b0 b1 b2 b3 b4 b5 b6 b7 b8 b9 b10 b11 b12 b13 b14 b15) h) rfl rfl
 ·cases he
theorem ail (a:N16):(Au Tryz.prog nr2 (mask 57) 100 57 [a.av] [] Tryz.prog.globals.size).map (·.1)=some (Hi a).av:=by
 cases h:isZ16 a
 ·have e:Hi a=Bv Bd a:=by simp only [Hi,h,cond_false]
  rw [e]
  exact Aj (Ao _) (P:=Tryz.prog) (cs:=nr2) (sy:=[5]) (os:=[false]) (vs:=[]) (nn:=mask 57) (F:=100) (f:=57) (ob:=[!isZ16 a]) (show AL (An Tryz.prog AP nr2 [5] [false] [] (mask 57) 100 57 [a.av] [] Tryz.prog.globals.size)=some ((Bv Bd a).av,[!isZ16 a]) from by kernel_rfl) (by simp [Am,h])
 ·have e:Hi a=a:=by simp only [Hi,h,cond_true]
  rw [e]
  exact Aj (Ao _) (P:=Tryz.prog) (cs:=nr2) (sy:=[5]) (os:=[true]) (vs:=[]) (nn:=mask 57) (F:=100) (f:=57) (ob:=[isZ16 a]) (show AL (An Tryz.prog AP nr2 [5] [true] [] (mask 57) 100 57 [a.av] [] Tryz.prog.globals.size)=some (a.av,[isZ16 a]) from by kernel_rfl) (by simp [Am,h])
def g57:List AVal→Option EffA
 | [.agg [.u64 a0,.u64 a1,.u64 a2,.u64 a3,.u64 a4,.u64 a5,.u64 a6,.u64 a7,.u64 a8,.u64 a9,.u64 a10,.u64 a11,.u64 a12,.u64 a13,.u64 a14,.u64 a15]]=>some (.pure (N16.av (Hi (N16.mk a0 a1 a2 a3 a4 a5 a6 a7 a8 a9 a10 a11 a12 a13 a14 a15))))
 | _=>none
theorem adD:Ai Tryz.prog (Ag 57 g57):=Ak fun args e he=>by
 unfold g57 at he
 split at he
 ·rename_i a0 a1 a2 a3 a4 a5 a6 a7 a8 a9 a10 a11 a12 a13 a14 a15
  cases he
  exact Ac Ki AB (ail (N16.mk a0 a1 a2 a3 a4 a5 a6 a7 a8 a9 a10 a11 a12 a13 a14 a15)) rfl rfl
 ·cases he
def np1:PS:=Bi (Al 35 p35) (Bi (Al 36 p36) (Al 33 p33))
theorem ade:Ai Tryz.prog (csP np1):=AN Nm (AN NH (Ni))
def aeh:CS:=(At (Ag 34 g34) (At (Ag 57 g57) nr2))
theorem Ue:Ai Tryz.prog aeh:=(Af R1 (Af adD Ki))
def nr3:CS:=At (csP np1) aeh
theorem Yw:Ai Tryz.prog nr3:=Af ade Ue
theorem La:Bt np1 nr3:=A4
theorem aih (a b:N16) (h:(Num.okB a && Num.okB b)=true):(Au Tryz.prog nr3 (mask 37) 200 37 [a.av,b.av] [] Tryz.prog.globals.size).map (·.1)=some (KK a b).av:=by
 rw [Bool.and_eq_true,Be,Be] at h
 exact Aj La (P:=Tryz.prog) (cs:=nr3) (sy:=[8]) (os:=[]) (vs:=[]) (nn:=mask 37) (F:=200) (f:=37) (ob:=[Num.okB a && Num.okB (Hi b)]) (show AL (An Tryz.prog np1 nr3 [8] [] [] (mask 37) 200 37 [a.av,b.av] [] Tryz.prog.globals.size)=some ((KK a b).av,[Num.okB a && Num.okB (Hi b)]) from by kernel_rfl) (by rw [Be.2 h.1,Be.2 (Np b h.2)]; rfl)
def p37:List AVal→Option (EffA × Bool)
 | [.agg [.u64 a0,.u64 a1,.u64 a2,.u64 a3,.u64 a4,.u64 a5,.u64 a6,.u64 a7,.u64 a8,.u64 a9,.u64 a10,.u64 a11,.u64 a12,.u64 a13,.u64 a14,.u64 a15],.agg [.u64 b0,.u64 b1,.u64 b2,.u64 b3,.u64 b4,.u64 b5,.u64 b6,.u64 b7,.u64 b8,.u64 b9,.u64 b10,.u64 b11,.u64 b12,.u64 b13,.u64 b14,.u64 b15]]=>some (.pure ((KK (N16.mk a0 a1 a2 a3 a4 a5 a6 a7 a8 a9 a10 a11 a12 a13 a14 a15) (N16.mk b0 b1 b2 b3 b4 b5 b6 b7 b8 b9 b10 b11 b12 b13 b14 b15)).av),Num.okB (N16.mk a0 a1 a2 a3 a4 a5 a6 a7 a8 a9 a10 a11 a12 a13 a14 a15) && Num.okB (N16.mk b0 b1 b2 b3 b4 b5 b6 b7 b8 b9 b10 b11 b12 b13 b14 b15))
 | _=>none
theorem Si:Ai Tryz.prog (csP (Al 37 p37)):=AT fun args v he=>by
 unfold p37 at he
 split at he
 ·rename_i a0 a1 a2 a3 a4 a5 a6 a7 a8 a9 a10 a11 a12 a13 a14 a15 b0 b1 b2 b3 b4 b5 b6 b7 b8 b9 b10 b11 b12 b13 b14 b15
  simp only [Option.some.injEq,Prod.mk.injEq] at he
  obtain ⟨rfl,h⟩:=he
  exact Ac Yw AB (aih (N16.mk a0 a1 a2 a3 a4 a5 a6 a7 a8 a9 a10 a11 a12 a13 a14 a15) (N16.mk b0 b1 b2 b3 b4 b5 b6 b7 b8 b9 b10 b11 b12 b13 b14 b15) h) rfl rfl
 ·cases he
def Spw (a x:N16) (bits:List Bool) (ro:Bool) (i:Int):SA:=⟨[(0,a.av),(1,.slice 1 0 bits.length 1),(2,.ptr 2 0),(4,.ptr 10 0),(5,.ptr 26 0),(6,.int .i64 i)],[(1,.cells ro (bits.map .bool)),(2,.cells false a.cells),(10,.cells false BG.cells),(26,.cells false x.cells)],50⟩
noncomputable def ppw:List Code:=Aw (AH Tryz.f58)
noncomputable def bpw:Code:=A6 (ppw.getD 3 .skip)
theorem anJ (F:Nat) (a:N16) (bits:List Bool) (ro:Bool):CF (Bl Tryz.prog np1 nr3 [] 25 (mask 58) F 2 ((ppw.drop 0).take 3) ⟨AY [a.av,.slice 1 0 bits.length 1] 0,[(1,.cells ro (bits.map .bool))],2⟩ ⟨[],[],[]⟩)=some (Spw a (smallN 1) bits ro 0,[]):=by kernel_rfl
theorem alR (F:Nat) (a x0 x:N16) (bits:List Bool) (ro:Bool) (j i:Int):AV Tryz.prog np1 nr3 [11,16,19,20,23] [true,true] [.bool true] 25 (mask 58) F 2 bpw (Spw a x0 bits ro j) (Spw a x bits ro i)=some (Spw a (B7 (B7 x x) a) bits ro (IntKind.wrap .i64 (i+1)),[Num.okB (B7 x x) && Num.okB a,true,isAt (bits.map .bool) (0+i.toNat * 1) (.bool true),(decide ((0:Int)≤i) && decide (i < (bits.length:Int))),Num.okB x && Num.okB x,decide (i < (bits.length:Int))]):=by kernel_rfl
theorem Xg (a x:N16) (bits:List Bool) (ro:Bool) (i:Int):okS Tryz.prog (Spw a x bits ro i)=true:=by
 have hg:Tryz.prog.globals.size=1:=by kernel_rfl
 simp [okS,hg,Spw,ltT,ltH,ltV,ltS,ltL,F8,N16.av,N16.cells,afI]
theorem amG (F:Nat) (a x0 x:N16) (bits:List Bool) (ro:Bool) (j i:Int):AV Tryz.prog np1 nr3 [11,16,19,20,23] [true,false] [.bool false] 25 (mask 58) F 2 bpw (Spw a x0 bits ro j) (Spw a x bits ro i)=some (Spw a (B7 x x) bits ro (IntKind.wrap .i64 (i+1)),[true,isAt (bits.map .bool) (0+i.toNat * 1) (.bool false),(decide ((0:Int)≤i) && decide (i < (bits.length:Int))),Num.okB x && Num.okB x,decide (i < (bits.length:Int))]):=by kernel_rfl
theorem ak5 (F:Nat) (a x0 x:N16) (bits:List Bool) (ro:Bool) (j:Int) (i:Nat) (b:Bool) (hx:x.ok) (ha:a.ok) (hb:bits[i]? = some b) (hl:bits.length < 100000):AU (evC Tryz.prog nr3 25 (mask 58) F 2 bpw) (AW Tryz.prog 2 (Spw a x0 bits ro j)) (Spw a x bits ro i)=some (Spw a (cond b (B7 (B7 x x) a) (B7 x x)) bits ro ((i+1:Nat):Int)):=by
 have hi:i < bits.length:=(List.getElem?_eq_some_iff.1 hb).1
 have hw:IntKind.wrap .i64 ((i:Int)+1)=((i+1:Nat):Int):=CK _ (by omega) (by omega)
 have h1:=Be.2 hx
 have h2:=Be.2 ha
 have h3:=Be.2 (Dh x x hx hx).1
 have hat:∀ c,b=c→isAt (bits.map AVal.bool) (0+(i:Int).toNat * 1) (.bool c)=true:=fun c hc=>by
  subst hc
  have e:0+(i:Int).toNat * 1=i:=by omega
  unfold isAt
  rw [e,List.getElem?_map,hb]
  simp [eqS]
 have d1:decide ((0:Int)≤(i:Int))=true:=by rw [decide_eq_true_iff]; omega
 have d2:decide ((i:Int) < (bits.length:Int))=true:=by rw [decide_eq_true_iff]; omega
 cases b
 ·have:=Bg La (amG F a x0 x bits ro j i) (by rw [hat false rfl,d1,d2,h1]; rfl) (Xg _ _ _ _ _)
  rw [hw] at this
  exact this
 ·have:=Bg La (alR F a x0 x bits ro j i) (by rw [hat true rfl,d1,d2,h1,h2,h3]; rfl) (Xg _ _ _ _ _)
  rw [hw] at this
  exact this
theorem am9 (F:Nat) (a x:N16) (bits:List Bool) (ro:Bool) (i:Int):(match evT Tryz.prog np1 nr3 [11] 25 (mask 58) F 2 bpw (Spw a x bits ro i) ⟨[false],[],[]⟩ with | some (.exit 0,s1,q)=>(match evS Tryz.prog nr3 25 (mask 58) F 2 (ppw.drop 4) s1 with | some (XA.ret,s2)=>(match resA Tryz.prog s2.T s2.H Tryz.f58.results.toList with | some [v]=>some (v,Aa s2.H 1,q.ob) | _=>none) | _=>none) | _=>none)=some (x.av,some (.cells ro (bits.map .bool)),[!decide (i < (bits.length:Int))]):=by kernel_rfl
def Ee (a:N16) (bits:List Bool):Nat→N16
 | 0=>smallN 1
 | j+1=>cond (bits.getD j false) (B7 (B7 (Ee a bits j) (Ee a bits j)) a) (B7 (Ee a bits j) (Ee a bits j))
theorem Ph (a:N16) (bits:List Bool):∀ j,j≤bits.length→RS a (Ee a bits j) (bits.drop j)=Og a bits
 | 0,_=>rfl
 | j+1,h=>by
  have:=Ph a bits j (by omega)
  have hj:j < bits.length:=by omega
  rw [← this,List.drop_eq_getElem_cons hj]
  have e:bits[j]=bits.getD j false:=by rw [List.getD_eq_getElem?_getD,List.getElem?_eq_getElem hj]; rfl
  rw [e]; rfl
theorem K3 (a:N16) (ha:a.ok) (bits:List Bool):∀ j,(Ee a bits j).ok
 | 0=>(C3 1).1
 | j+1=>by
  have h1:=(Dh _ _ (K3 a ha bits j) (K3 a ha bits j)).1
  show (cond (bits.getD j false) (B7 (B7 (Ee a bits j) (Ee a bits j)) a) (B7 (Ee a bits j) (Ee a bits j))).ok
  cases bits.getD j false
  ·exact h1
  ·exact (Dh _ _ h1 ha).1
theorem ahQ (a:N16) (ha:a.ok) (bits:List Bool) (hl:bits.length < 1000) (ro:Bool):∃ r,Au Tryz.prog nr3 (mask 58) 1000 58 [a.av,.slice 1 0 bits.length 1] [(1,.cells ro (bits.map .bool))] 2=some r∧r.1=(Og a bits).av∧Aa r.2.1 1=some (.cells ro (bits.map .bool)):=by
 have hx:Ee a bits bits.length=Og a bits:=by
  have:=Ph a bits bits.length (Nat.le_refl _)
  rw [List.drop_length] at this
  exact this
 have he:=am9 1000 a (Og a bits) bits ro bits.length
 split at he
 ·rename_i s1 q h1
  split at he
  ·rename_i s2 h2
   split at he
   ·rename_i v h3
    simp only [Option.some.injEq,Prod.mk.injEq] at he
    obtain ⟨rfl,e2,e3⟩:=he
    have hA:=DB La (anJ 1000 a bits ro) rfl
    rw [List.drop_zero] at hA
    have hB:=BZ (P:=Tryz.prog) (cs:=nr3) (nt:=25) (nn:=mask 58) (F:=1000) (bs:=2) (l:=ppw) (k:=3) (id:=0) (b:=bpw) (by kernel_rfl) (fun j=>Spw a (Ee a bits j) bits ro j) bits.length (s1:=s1)
     (fun j hj=>ak5 1000 a _ _ bits ro _ j (bits.getD j false) (K3 a ha bits j) ha (by rw [List.getD_eq_getElem?_getD,List.getElem?_eq_getElem hj]; rfl) (by omega))
     (by
      show evC Tryz.prog nr3 25 (mask 58) 1000 2 bpw (Spw a (Ee a bits bits.length) bits ro bits.length)=_
      rw [hx]
      exact (BC La _ _ _ _ _ _ h1 (by rw [e3]; simp [Am])).1) hl
    have hev:evS Tryz.prog nr3 Tryz.f58.ntmps (mask 58) 1000 2 (Aw (AH Tryz.f58)) ⟨AY [a.av,.slice 1 0 bits.length 1] 0,[(1,.cells ro (bits.map .bool))],2⟩=some (XA.ret,s2):=by
     refine Eq.trans hA (Eq.trans hB ?_)
     exact h2
    refine ⟨_,aah (fn:=Tryz.f58) (c:=AH Tryz.f58) (by kernel_rfl) (by kernel_rfl) (by kernel_rfl) hev rfl |>.trans (by rw [h3]),rfl,e2⟩
   ·cases he
  ·cases he
 ·cases he
def acX (a:N16) (len:Nat) (c:List AVal):Option AVal:=
 match NX c with
 | some l=>cond (Nat.beq l.length len && Nat.ble l.length 999) (some (Og a l).av) none
 | none=>none
def p58:List AVal→Option (EffA × Bool)
 | [.agg [.u64 a0,.u64 a1,.u64 a2,.u64 a3,.u64 a4,.u64 a5,.u64 a6,.u64 a7,.u64 a8,.u64 a9,.u64 a10,.u64 a11,.u64 a12,.u64 a13,.u64 a14,.u64 a15],.slice n 0 len 1]=>some (.read n fun ob=>match ob with | .cells _ c=>cond (ltL 0 c) (match acX (N16.mk a0 a1 a2 a3 a4 a5 a6 a7 a8 a9 a10 a11 a12 a13 a14 a15) len c with | some v=>cond (ltV 0 v) (some v) none | none=>none) none,Num.okB (N16.mk a0 a1 a2 a3 a4 a5 a6 a7 a8 a9 a10 a11 a12 a13 a14 a15))
 | _=>none
theorem ac8:Ai Tryz.prog (csP (Al 58 p58)):=AT fun args v he=>by
 unfold p58 at he
 split at he
 ·rename_i a0 a1 a2 a3 a4 a5 a6 a7 a8 a9 a10 a11 a12 a13 a14 a15 n len
  simp only [Option.some.injEq,Prod.mk.injEq] at he
  obtain ⟨rfl,h⟩:=he
  refine NR (nn:=mask 58) (F:=1000) Yw AB rfl (fun s=>rfl) fun ro c v hg hv hc => ?_
  unfold acX at hg
  split at hg
  ·rename_i l hl
   cases hb:(Nat.beq l.length len && Nat.ble l.length 999) with
   | false=>rw [hb] at hg; cases hg
   | true =>
    rw [hb] at hg
    cases hg
    simp only [Bool.and_eq_true] at hb
    obtain rfl:=Nat.eq_of_beq_eq_true hb.1
    have:=Nat.le_of_ble_eq_true hb.2
    rw [MT hl]
    exact ahQ (N16.mk a0 a1 a2 a3 a4 a5 a6 a7 a8 a9 a10 a11 a12 a13 a14 a15) (Be.1 h) l (by omega) ro
  ·cases hg
 ·cases he
def np2:PS:=Bi (Al 37 p37) (Bi (Al 58 p58) (Bi (Al 35 p35) (Bi (Al 36 p36) (Al 33 p33))))
theorem adk:Ai Tryz.prog (csP np2):=AN Si (AN ac8 (AN Nm (AN NH (Ni))))
theorem Uu:Zt (Au Tryz.prog nr1 (mask 59) 300 59 [.int .i64 255,.int .i64 21] [] Tryz.prog.globals.size)=some (17,255,1,(Jv 255 21).map .bool):=by kernel_rfl
theorem Vw:Zt (Au Tryz.prog nr1 (mask 59) 300 59 [.int .i64 252,.int .i64 2] [] Tryz.prog.globals.size)=some (17,252,1,(Jv 252 2).map .bool):=by kernel_rfl
theorem Ut:Zt (Au Tryz.prog nr1 (mask 59) 300 59 [.int .i64 253,.int .i64 5] [] Tryz.prog.globals.size)=some (17,253,1,(Jv 253 5).map .bool):=by kernel_rfl
def g59:List AVal→Option EffA
 | [.int .i64 (.ofNat n),.int .i64 (.ofNat k)]=>cond (Nat.beq n 255 && Nat.beq k 21) (some (.alloc (.cells false ((Jv 255 21).map .bool)) fun b=>.slice b 0 255 1)) (cond (Nat.beq n 252 && Nat.beq k 2) (some (.alloc (.cells false ((Jv 252 2).map .bool)) fun b=>.slice b 0 252 1)) (cond (Nat.beq n 253 && Nat.beq k 5) (some (.alloc (.cells false ((Jv 253 5).map .bool)) fun b=>.slice b 0 253 1)) none))
 | _=>none
theorem aed:Ai Tryz.prog (Ag 59 g59):=Ak fun args e he=>by
 unfold g59 at he
 split at he
 ·rename_i n k
  cases h1:(Nat.beq n 255 && Nat.beq k 21) with
  | true =>
   rw [h1] at he
   cases he
   simp only [Bool.and_eq_true] at h1
   rw [Nat.eq_of_beq_eq_true h1.1,Nat.eq_of_beq_eq_true h1.2]
   exact F2 II AB rfl Uu (F8 0 _) (by kernel_rfl)
  | false =>
   rw [h1] at he
   cases h2:(Nat.beq n 252 && Nat.beq k 2) with
   | true =>
    rw [h2] at he
    cases he
    simp only [Bool.and_eq_true] at h2
    rw [Nat.eq_of_beq_eq_true h2.1,Nat.eq_of_beq_eq_true h2.2]
    exact F2 II AB rfl Vw (F8 0 _) (by kernel_rfl)
   | false =>
    rw [h2] at he
    cases h3:(Nat.beq n 253 && Nat.beq k 5) with
    | true =>
     rw [h3] at he
     cases he
     simp only [Bool.and_eq_true] at h3
     rw [Nat.eq_of_beq_eq_true h3.1,Nat.eq_of_beq_eq_true h3.2]
     exact F2 II AB rfl Ut (F8 0 _) (by kernel_rfl)
    | false=>rw [h3] at he; cases he
 ·cases he
def aiM:CS:=(At (Ag 59 g59) aeh)
theorem ZP:Ai Tryz.prog aiM:=(Af aed Ue)
def nr4:CS:=At (csP np2) aiM
theorem ag8:Ai Tryz.prog nr4:=Af adk ZP
theorem adm:Bt np2 nr4:=A4
end Go.Proofs.YtcplgmgpagekfaaGreatDoor
namespace Go.Proofs.YtcplgmgpagekfaaGreatDoor
open Go Go.Eng Go.Num
theorem aiD (a:N16) (h:Num.okB a=true):(Au Tryz.prog nr4 (mask 38) 300 38 [a.av] [] Tryz.prog.globals.size).map (·.1)=some (O9 a).av:=
 Aj adm (P:=Tryz.prog) (cs:=nr4) (sy:=[5]) (os:=[]) (vs:=[]) (nn:=mask 38) (F:=300) (f:=38) (ob:=[Num.okB a]) (show AL (An Tryz.prog np2 nr4 [5] [] [] (mask 38) 300 38 [a.av] [] Tryz.prog.globals.size)=some ((O9 a).av,[Num.okB a]) from by kernel_rfl) (by rw [h]; rfl)
def p38:List AVal→Option (EffA × Bool)
 | [.agg [.u64 a0,.u64 a1,.u64 a2,.u64 a3,.u64 a4,.u64 a5,.u64 a6,.u64 a7,.u64 a8,.u64 a9,.u64 a10,.u64 a11,.u64 a12,.u64 a13,.u64 a14,.u64 a15]]=>some (.pure ((O9 (N16.mk a0 a1 a2 a3 a4 a5 a6 a7 a8 a9 a10 a11 a12 a13 a14 a15)).av),Num.okB (N16.mk a0 a1 a2 a3 a4 a5 a6 a7 a8 a9 a10 a11 a12 a13 a14 a15))
 | _=>none
theorem YE:Ai Tryz.prog (csP (Al 38 p38)):=AT fun args v he=>by
 unfold p38 at he
 split at he
 ·rename_i a0 a1 a2 a3 a4 a5 a6 a7 a8 a9 a10 a11 a12 a13 a14 a15
  simp only [Option.some.injEq,Prod.mk.injEq] at he
  obtain ⟨rfl,h⟩:=he
  exact Ac ag8 AB (aiD (N16.mk a0 a1 a2 a3 a4 a5 a6 a7 a8 a9 a10 a11 a12 a13 a14 a15) h) rfl rfl
 ·cases he
end Go.Proofs.YtcplgmgpagekfaaGreatDoor
namespace Go.Num
open Go Go.Eng
def E5.val (a:E5):Nat:=a.x0.toNat+2251799813685248 * a.x1.toNat+5070602400912917605986812821504 * a.x2.toNat+11417981541647679048466287755595961091061972992 * a.x3.toNat+25711008708143844408671393477458601640355247900524685364822016 * a.x4.toNat
def E5.ok (a:E5):Prop:=a.x0.toNat < 2251799813947392∧a.x1.toNat < 2251799813947392∧a.x2.toNat < 2251799813947392∧a.x3.toNat < 2251799813947392∧a.x4.toNat < 2251799813947392
theorem HZ (x:UInt64):(x &&& m51).toNat=x.toNat % 2251799813685248:=NC x 51 _ rfl
theorem Jz (x:UInt64):(Ad x 51).toNat=x.toNat / 2251799813685248:=Bw x 51 (by omega)
theorem Dj (x y:UInt64):((x &&& m51)+Ad y 51).toNat=x.toNat % 2251799813685248+y.toNat / 2251799813685248:=by
 have hy:=y.toNat_lt
 rw [UInt64.toNat_add,HZ,Jz]
 simp only [Nat.reducePow] at *
 omega
theorem n19:(19:UInt64).toNat=19:=rfl
theorem KN (x y:UInt64):((x &&& m51)+19 * Ad y 51).toNat=x.toNat % 2251799813685248+19 * (y.toNat / 2251799813685248):=by
 have hy:=y.toNat_lt
 rw [UInt64.toNat_add,UInt64.toNat_mul,HZ,Jz,n19]
 simp only [Nat.reducePow] at *
 omega
theorem Ga (a:E5):(carriedE a).ok∧(carriedE a).val+Pq * (a.x4.toNat / 2251799813685248)=a.val:=by
 have h0:=a.x0.toNat_lt; have h1:=a.x1.toNat_lt; have h2:=a.x2.toNat_lt; have h3:=a.x3.toNat_lt; have h4:=a.x4.toNat_lt
 simp only [Nat.reducePow] at h0 h1 h2 h3 h4
 have e0:=KN a.x0 a.x4
 have e1:=Dj a.x1 a.x0
 have e2:=Dj a.x2 a.x1
 have e3:=Dj a.x3 a.x2
 have e4:=Dj a.x4 a.x3
 unfold E5.ok E5.val carriedE Pq
 simp only [e0,e1,e2,e3,e4]
 omega
theorem DO (a:E5):(carriedE a).ok:=(Ga a).1
theorem CJ (a:E5):(carriedE a).val % Pq=a.val % Pq:=by
 rw [← (Ga a).2,Nat.add_mul_mod_self_left]
theorem CQ (x y:UInt64) (h:x.toNat+y.toNat < 18446744073709551616):(x+y).toNat=x.toNat+y.toNat:=by
 rw [UInt64.toNat_add]
 exact Nat.mod_eq_of_lt h
theorem Kj (a b:E5) (ha:a.ok) (hb:b.ok):(LS a b).ok∧(LS a b).val % Pq=(a.val+b.val) % Pq:=by
 refine ⟨DO _,?_⟩
 unfold LS
 rw [CJ]
 unfold E5.ok at ha hb
 have e:E5.val ⟨a.x0+b.x0,a.x1+b.x1,a.x2+b.x2,a.x3+b.x3,a.x4+b.x4⟩=a.val+b.val:=by
  unfold E5.val
  rw [CQ a.x0 b.x0 (by omega),CQ a.x1 b.x1 (by omega),CQ a.x2 b.x2 (by omega),CQ a.x3 b.x3 (by omega),CQ a.x4 b.x4 (by omega)]
  omega
 rw [e]
theorem HN (x k y:UInt64) (h1:x.toNat+k.toNat < 18446744073709551616) (h2:y.toNat≤k.toNat):(x+k - y).toNat=x.toNat+k.toNat - y.toNat:=by
 rw [UInt64.toNat_sub,UInt64.toNat_add]
 simp only [Nat.reducePow]
 omega
theorem QW:(4503599627370458:UInt64).toNat=4503599627370458:=rfl
theorem EX:(4503599627370494:UInt64).toNat=4503599627370494:=rfl
theorem HC (a b:E5) (ha:a.ok) (hb:b.ok):(K8 a b).ok∧(K8 a b).val % Pq=(a.val+(2 * Pq - b.val)) % Pq∧b.val≤2 * Pq:=by
 unfold E5.ok at ha hb
 have hle:b.val≤2 * Pq:=by unfold E5.val Pq; omega
 refine ⟨DO _,?_,hle⟩
 unfold K8
 rw [CJ]
 have e:E5.val ⟨a.x0+4503599627370458 - b.x0,a.x1+4503599627370494 - b.x1,a.x2+4503599627370494 - b.x2,a.x3+4503599627370494 - b.x3,a.x4+4503599627370494 - b.x4⟩=a.val+(2 * Pq - b.val):=by
  have hl:=hle
  unfold E5.val Pq at *
  rw [HN a.x0 _ b.x0 (by rw [QW]; omega) (by rw [QW]; omega),HN a.x1 _ b.x1 (by rw [EX]; omega) (by rw [EX]; omega),HN a.x2 _ b.x2 (by rw [EX]; omega) (by rw [EX]; omega),HN a.x3 _ b.x3 (by rw [EX]; omega) (by rw [EX]; omega),HN a.x4 _ b.x4 (by rw [EX]; omega) (by rw [EX]; omega),QW,EX]
  omega
 rw [e]
def Wd.val (w:Wd):Nat:=18446744073709551616 * w.hi.toNat+w.lo.toNat
theorem FI (w:Wd) (a b:UInt64) (h:w.val+a.toNat * b.toNat < 340282366920938463463374607431768211456):(AS w a b).val=w.val+a.toNat * b.toNat:=by
 have hm:=Vg a b
 have hs:=aax w.lo (a * b) false
 have hz:bn false=0:=rfl
 have hc:=acg (cyO w.lo (a * b) false)
 have hl:=w.lo.toNat_lt
 have hh:=w.hi.toNat_lt
 have hl2:=(w.lo+a * b+Qa false).toNat_lt
 unfold Wd.val AS at *
 simp only
 rw [UInt64.toNat_add,UInt64.toNat_add,MH]
 generalize a.toNat * b.toNat=p at *
 simp only [Nat.reducePow] at *
 omega
theorem EA (w:Wd) (h:w.val < 41538374868278621028243970633760768):(BX w).toNat=w.val / 2251799813685248:=by
 have hl:=w.lo.toNat_lt
 have hh:=w.hi.toNat_lt
 unfold BX
 rw [UInt64.toNat_or,Dm _ 13 (by omega),Jz]
 unfold Wd.val at *
 simp only [Nat.reducePow] at *
 have h1:w.hi.toNat * 8192 % 18446744073709551616=w.hi.toNat * 8192:=Nat.mod_eq_of_lt (by omega)
 rw [h1]
 have h2:w.lo.toNat / 2251799813685248 < 2 ^ 13:=by simp only [Nat.reducePow]; omega
 have:=Nat.shiftLeft_add_eq_or_of_lt h2 w.hi.toNat
 rw [Nat.shiftLeft_eq] at this
 simp only [Nat.reducePow] at this
 rw [← this]
 omega
theorem KU (w:Wd):(w.lo &&& m51).toNat=w.val % 2251799813685248:=by
 rw [HZ]
 unfold Wd.val
 have:18446744073709551616 * w.hi.toNat=2251799813685248 * (8192 * w.hi.toNat):=by omega
 omega
theorem akC (y:UInt64) (h:y.toNat < 2251799813947392):(19 * y).toNat=19 * y.toNat:=by
 rw [UInt64.toNat_mul,n19]
 simp only [Nat.reducePow]
 omega
theorem NU {x y B C:Nat}(hx:x≤B) (hy:y≤C):x * y≤B * C:=Nat.mul_le_mul hx hy
theorem FZ (w:Wd) (a0 a1 a2 a3 a4 b0 b1 b2 b3 b4:UInt64) (hw:w.val=0) (h0:a0.toNat * b0.toNat≤96342400000000000000000000000000) (h1:a1.toNat * b1.toNat≤96342400000000000000000000000000) (h2:a2.toNat * b2.toNat≤96342400000000000000000000000000) (h3:a3.toNat * b3.toNat≤96342400000000000000000000000000) (h4:a4.toNat * b4.toNat≤96342400000000000000000000000000) :
  (AS (AS (AS (AS (AS w a0 b0) a1 b1) a2 b2) a3 b3) a4 b4).val=a0.toNat * b0.toNat+a1.toNat * b1.toNat+a2.toNat * b2.toNat+a3.toNat * b3.toNat+a4.toNat * b4.toNat:=by
 have e0:=FI w a0 b0 (by omega)
 have e1:=FI (AS w a0 b0) a1 b1 (by omega)
 have e2:=FI (AS (AS w a0 b0) a1 b1) a2 b2 (by omega)
 have e3:=FI (AS (AS (AS w a0 b0) a1 b1) a2 b2) a3 b3 (by omega)
 have e4:=FI (AS (AS (AS (AS w a0 b0) a1 b1) a2 b2) a3 b3) a4 b4 (by omega)
 omega
theorem ID (a b:E5) (ha:a.ok) (hb:b.ok):(Di a b).ok∧(Di a b).val % Pq=a.val * b.val % Pq:=by
 refine ⟨DO _,?_⟩
 unfold E5.ok at ha hb
 obtain ⟨a0,a1,a2,a3,a4⟩:=a
 obtain ⟨b0,b1,b2,b3,b4⟩:=b
 simp only at ha hb
 obtain ⟨ha0,ha1,ha2,ha3,ha4⟩:=ha
 obtain ⟨hb0,hb1,hb2,hb3,hb4⟩:=hb
 have hp:∀ x y:UInt64,x.toNat < 2251799813947392→y.toNat < 2251799813947392→x.toNat * y.toNat≤96342400000000000000000000000000:=fun x y hx hy=>Nat.le_trans (NU (Nat.le_of_lt hx) (Nat.le_of_lt hy)) (by omega)
 have hq:∀ x y:UInt64,x.toNat < 2251799813947392→y.toNat < 2251799813947392→x.toNat * (19 * y).toNat≤96342400000000000000000000000000∧x.toNat * (19 * y).toNat=19 * (x.toNat * y.toNat):=fun x y hx hy=>by
  rw [akC y hy]
  refine ⟨Nat.le_trans (NU (Nat.le_of_lt hx) (Nat.mul_le_mul_left 19 (Nat.le_of_lt hy))) (by omega),?_⟩
  rw [Nat.mul_left_comm]
 have hz:Cn.val=0:=rfl
 have w0:=FZ Cn a0 a1 a2 a3 a4 b0 (19 * b4) (19 * b3) (19 * b2) (19 * b1) hz (hp _ _ ha0 hb0) (hq _ _ ha1 hb4).1 (hq _ _ ha2 hb3).1 (hq _ _ ha3 hb2).1 (hq _ _ ha4 hb1).1
 have w1:=FZ Cn a0 a1 a2 a3 a4 b1 b0 (19 * b4) (19 * b3) (19 * b2) hz (hp _ _ ha0 hb1) (hp _ _ ha1 hb0) (hq _ _ ha2 hb4).1 (hq _ _ ha3 hb3).1 (hq _ _ ha4 hb2).1
 have w2:=FZ Cn a0 a1 a2 a3 a4 b2 b1 b0 (19 * b4) (19 * b3) hz (hp _ _ ha0 hb2) (hp _ _ ha1 hb1) (hp _ _ ha2 hb0) (hq _ _ ha3 hb4).1 (hq _ _ ha4 hb3).1
 have w3:=FZ Cn a0 a1 a2 a3 a4 b3 b2 b1 b0 (19 * b4) hz (hp _ _ ha0 hb3) (hp _ _ ha1 hb2) (hp _ _ ha2 hb1) (hp _ _ ha3 hb0) (hq _ _ ha4 hb4).1
 have w4:=FZ Cn a0 a1 a2 a3 a4 b4 b3 b2 b1 b0 hz (hp _ _ ha0 hb4) (hp _ _ ha1 hb3) (hp _ _ ha2 hb2) (hp _ _ ha3 hb1) (hp _ _ ha4 hb0)
 rw [(hq _ _ ha1 hb4).2,(hq _ _ ha2 hb3).2,(hq _ _ ha3 hb2).2,(hq _ _ ha4 hb1).2] at w0
 rw [(hq _ _ ha2 hb4).2,(hq _ _ ha3 hb3).2,(hq _ _ ha4 hb2).2] at w1
 rw [(hq _ _ ha3 hb4).2,(hq _ _ ha4 hb3).2] at w2
 rw [(hq _ _ ha4 hb4).2] at w3
 have b4':=hp _ _ ha0 hb4
 have p00:=hp _ _ ha0 hb0; have p01:=hp _ _ ha0 hb1; have p02:=hp _ _ ha0 hb2; have p03:=hp _ _ ha0 hb3
 have p10:=hp _ _ ha1 hb0; have p11:=hp _ _ ha1 hb1; have p12:=hp _ _ ha1 hb2; have p13:=hp _ _ ha1 hb3; have p14:=(hq _ _ ha1 hb4)
 have p20:=hp _ _ ha2 hb0; have p21:=hp _ _ ha2 hb1; have p22:=hp _ _ ha2 hb2; have p23:=(hq _ _ ha2 hb3); have p24:=(hq _ _ ha2 hb4)
 have p30:=hp _ _ ha3 hb0; have p31:=hp _ _ ha3 hb1; have p32:=(hq _ _ ha3 hb2); have p33:=(hq _ _ ha3 hb3); have p34:=(hq _ _ ha3 hb4)
 have p40:=hp _ _ ha4 hb0; have p41:=(hq _ _ ha4 hb1); have p42:=(hq _ _ ha4 hb2); have p43:=(hq _ _ ha4 hb3); have p44:=(hq _ _ ha4 hb4)
 have q14:=p14.1; have q23:=p23.1; have q24:=p24.1; have q32:=p32.1; have q33:=p33.1; have q34:=p34.1; have q41:=p41.1; have q42:=p42.1; have q43:=p43.1; have q44:=p44.1
 rw [p14.2] at q14; rw [p23.2] at q23; rw [p24.2] at q24; rw [p32.2] at q32; rw [p33.2] at q33; rw [p34.2] at q34; rw [p41.2] at q41; rw [p42.2] at q42; rw [p43.2] at q43; rw [p44.2] at q44
 have ex:E5.val ⟨a0,a1,a2,a3,a4⟩ * E5.val ⟨b0,b1,b2,b3,b4⟩ =
   (a0.toNat * b0.toNat+19 * (a1.toNat * b4.toNat)+19 * (a2.toNat * b3.toNat)+19 * (a3.toNat * b2.toNat)+19 * (a4.toNat * b1.toNat))
   + 2251799813685248 * (a0.toNat * b1.toNat+a1.toNat * b0.toNat+19 * (a2.toNat * b4.toNat)+19 * (a3.toNat * b3.toNat)+19 * (a4.toNat * b2.toNat))
   + 5070602400912917605986812821504 * (a0.toNat * b2.toNat+a1.toNat * b1.toNat+a2.toNat * b0.toNat+19 * (a3.toNat * b4.toNat)+19 * (a4.toNat * b3.toNat))
   + 11417981541647679048466287755595961091061972992 * (a0.toNat * b3.toNat+a1.toNat * b2.toNat+a2.toNat * b1.toNat+a3.toNat * b0.toNat+19 * (a4.toNat * b4.toNat))
   + 25711008708143844408671393477458601640355247900524685364822016 * (a0.toNat * b4.toNat+a1.toNat * b3.toNat+a2.toNat * b2.toNat+a3.toNat * b1.toNat+a4.toNat * b0.toNat)
   + Pq * (a1.toNat * b4.toNat+a2.toNat * b3.toNat+a3.toNat * b2.toNat+a4.toNat * b1.toNat+2251799813685248 * (a2.toNat * b4.toNat+a3.toNat * b3.toNat+a4.toNat * b2.toNat)+5070602400912917605986812821504 * (a3.toNat * b4.toNat+a4.toNat * b3.toNat)+11417981541647679048466287755595961091061972992 * (a4.toNat * b4.toNat)):=by
  unfold E5.val Pq
  simp only
  generalize a0.toNat=u0; generalize a1.toNat=u1; generalize a2.toNat=u2; generalize a3.toNat=u3; generalize a4.toNat=u4
  generalize b0.toNat=v0; generalize b1.toNat=v1; generalize b2.toNat=v2; generalize b3.toNat=v3; generalize b4.toNat=v4
  grind
 rw [ex,Nat.add_mul_mod_self_left]
 unfold Di
 rw [CJ]
 unfold ajk
 simp only
 generalize hW0:AS (AS (AS (AS (AS Cn a0 b0) a1 (19 * b4)) a2 (19 * b3)) a3 (19 * b2)) a4 (19 * b1)=W0 at *
 generalize hW1:AS (AS (AS (AS (AS Cn a0 b1) a1 b0) a2 (19 * b4)) a3 (19 * b3)) a4 (19 * b2)=W1 at *
 generalize hW2:AS (AS (AS (AS (AS Cn a0 b2) a1 b1) a2 b0) a3 (19 * b4)) a4 (19 * b3)=W2 at *
 generalize hW3:AS (AS (AS (AS (AS Cn a0 b3) a1 b2) a2 b1) a3 b0) a4 (19 * b4)=W3 at *
 generalize hW4:AS (AS (AS (AS (AS Cn a0 b4) a1 b3) a2 b2) a3 b1) a4 b0=W4' at *
 rw [← w0,← w1,← w2,← w3,← w4]
 have l0:W0.val≤481712000000000000000000000000000:=by omega
 have l1:W1.val≤481712000000000000000000000000000:=by omega
 have l2:W2.val≤481712000000000000000000000000000:=by omega
 have l3:W3.val≤481712000000000000000000000000000:=by omega
 have l4:W4'.val≤25353013000000000000000000000000:=by
  have r:∀ x y:UInt64,x.toNat < 2251799813947392→y.toNat < 2251799813947392→x.toNat * y.toNat≤5070602600000000000000000000000:=fun x y hx hy=>Nat.le_trans (NU (Nat.le_of_lt hx) (Nat.le_of_lt hy)) (by omega)
  have r1:=r _ _ ha0 hb4; have r2:=r _ _ ha1 hb3; have r3:=r _ _ ha2 hb2; have r4:=r _ _ ha3 hb1; have r5:=r _ _ ha4 hb0
  omega
 clear w0 w1 w2 w3 w4 ex p00 p01 p02 p03 p10 p11 p12 p13 p14 p20 p21 p22 p23 p24 p30 p31 p32 p33 p34 p40 p41 p42 p43 p44 q14 q23 q24 q32 q33 q34 q41 q42 q43 q44 hp hq b4'
 have s0:=EA W0 (by omega)
 have s1:=EA W1 (by omega)
 have s2:=EA W2 (by omega)
 have s3:=EA W3 (by omega)
 have s4:=EA W4' (by omega)
 have t0:=KU W0
 have t1:=KU W1
 have t2:=KU W2
 have t3:=KU W3
 have t4:=KU W4'
 have c0:((W0.lo &&& m51)+19 * BX W4').toNat=W0.val % 2251799813685248+19 * (W4'.val / 2251799813685248):=by
  rw [UInt64.toNat_add,UInt64.toNat_mul,n19,t0,s4]
  simp only [Nat.reducePow]
  omega
 have c1:=CQ (W1.lo &&& m51) (BX W0) (by omega)
 have c2:=CQ (W2.lo &&& m51) (BX W1) (by omega)
 have c3:=CQ (W3.lo &&& m51) (BX W2) (by omega)
 have c4:=CQ (W4'.lo &&& m51) (BX W3) (by omega)
 have fin:E5.val ⟨(W0.lo &&& m51)+19 * BX W4',(W1.lo &&& m51)+BX W0,(W2.lo &&& m51)+BX W1,(W3.lo &&& m51)+BX W2,(W4'.lo &&& m51)+BX W3⟩+Pq * (W4'.val / 2251799813685248)=W0.val+2251799813685248 * W1.val+5070602400912917605986812821504 * W2.val+11417981541647679048466287755595961091061972992 * W3.val+25711008708143844408671393477458601640355247900524685364822016 * W4'.val:=by
  unfold E5.val Pq
  simp only
  rw [c0,c1,c2,c3,c4,s0,s1,s2,s3,t1,t2,t3,t4]
  omega
 rw [← fin,Nat.add_mul_mod_self_left]
end Go.Num
