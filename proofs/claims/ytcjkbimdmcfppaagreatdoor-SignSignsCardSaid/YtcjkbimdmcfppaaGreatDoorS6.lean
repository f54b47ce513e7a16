/- Texts Num8, Gn3, Gn4, Gn5, Gn6, Go1, Go2, Go3, Go7, Go4, Go5, Go6: what they show that this claim uses. -/
import Derived.Test.YtcjkbimdmcfppaaGreatDoorS5
import Derived.Test.YtcjkbimdmcfppaaGreatDoorChecked
set_option maxRecDepth 100000
set_option maxHeartbeats 1000000
set_option linter.unusedVariables false
set_option linter.unusedSimpArgs false
namespace Go.Num
open Go Go.Eng
def Pq:Nat:=57896044618658097711785492504343953926634992332820282019728792003956564819949
theorem Pq_pos:0 < Pq:=by decide
theorem primeN_ok:primeN.ok:=by
 rw [N16.ok,ok16_iff]
 decide
theorem primeN_val:primeN.val=Pq:=by kernel_rfl
theorem bndL_iff {l:List UInt64}:bndL l=true ↔ ∀ x ∈ l,x.toNat < 281474976710656:=by
 unfold bndL
 rw [List.all_eq_true]
 constructor
 ·intro h x hx
  have:=h x hx
  rw [decide_eq_true_iff,UInt64.lt_iff_toNat_lt] at this
  exact this
 ·intro h x hx
  rw [decide_eq_true_iff,UInt64.lt_iff_toNat_lt]
  exact h x hx
theorem okB_iff {a:N16}:okB a=true ↔ a.ok:=by
 unfold okB N16.ok
 rw [List.all_eq_true,ok16_iff]
 constructor
 ·intro h x hx
  have:=h x hx
  rw [decide_eq_true_iff,UInt64.lt_iff_toNat_lt] at this
  exact this
 ·intro h x hx
  rw [decide_eq_true_iff,UInt64.lt_iff_toNat_lt]
  exact h x hx
theorem carryL_len:∀ (l:List UInt64) (c:UInt64),(carryL l c).1.length=l.length
 | [],_=>rfl
 | x::l,c=>by simp only [carryL,List.length_cons,carryL_len l]
theorem carryL_val:∀ (l:List UInt64) (c:UInt64),(∀ x ∈ l,x.toNat < 281474976710656)→c.toNat < 281474976710656→ok16 (carryL l c).1∧val16 (carryL l c).1+65536 ^ l.length * (carryL l c).2.toNat=val16 l+c.toNat∧(carryL l c).2.toNat < 281474976710656
 | [],c,_,hc=>⟨trivial,by simp [carryL,val16],hc⟩
 | x::l,c,h,hc=>by
  have hx:=h x List.mem_cons_self
  have e:(x+c).toNat=x.toNat+c.toNat:=by
   rw [UInt64.toNat_add]
   simp only [Nat.reducePow]
   omega
  have hlo:=low16 (x+c)
  have hhi:=high16 (x+c)
  rw [e] at hlo hhi
  obtain ⟨o,hk,hb⟩:=carryL_val l (shr_u64 (x+c) 16) (fun y hy=>h y (List.mem_cons_of_mem _ hy)) (by omega)
  refine ⟨⟨by omega,o⟩,?_,hb⟩
  simp only [carryL,val16,List.length_cons,Nat.pow_succ]
  rw [hhi] at hk
  rw [hlo]
  have:65536 ^ l.length * 65536 * (carryL l (shr_u64 (x+c) 16)).2.toNat=65536 * (65536 ^ l.length * (carryL l (shr_u64 (x+c) 16)).2.toNat):=by rw [Nat.mul_right_comm,Nat.mul_comm]
  rw [this]
  generalize 65536 ^ l.length * (carryL l (shr_u64 (x+c) 16)).2.toNat=q at *
  omega
theorem carryL_same:∀ (l:List UInt64),ok16 l→carryL l 0=(l,0)
 | [],_=>rfl
 | x::l,h=>by
  have hx:=h.1
  have e0:x+0=x:=by simp
  have e1:x &&& 65535=x:=UInt64.toNat_inj.1 (by rw [low16]; omega)
  have e2:shr_u64 x 16=0:=UInt64.toNat_inj.1 (by rw [high16]; show _=0; omega)
  simp only [carryL,e0,e1,e2,carryL_same l h.2]
theorem foldL_val:∀ (l m:List UInt64),l.length=m.length→ok16 l→ok16 m→val16 (foldL l m)=val16 l+38 * val16 m∧(foldL l m).length=l.length∧∀ x ∈ foldL l m,x.toNat < 2621440
 | [],[],_,_,_=>⟨rfl,rfl,by simp [foldL]⟩
 | [],_::_,h,_,_=>by cases h
 | _::_,[],h,_,_=>by cases h
 | x::l,y::m,h,h1,h2=>by
  obtain ⟨e,el,b⟩:=foldL_val l m (by simpa using h) h1.2 h2.2
  have hx:=h1.1
  have hy:=h2.1
  have es:(x+38 * y).toNat=x.toNat+38 * y.toNat:=by
   rw [UInt64.toNat_add,UInt64.toNat_mul]
   have e38:(38:UInt64).toNat=38:=rfl
   rw [e38]
   simp only [Nat.reducePow]
   omega
  refine ⟨by simp only [foldL,val16,es,e]; omega,by simp only [foldL,List.length_cons,el],fun z hz => ?_⟩
  simp only [foldL,List.mem_cons] at hz
  rcases hz with rfl | hz
  ·omega
  ·exact b z hz
theorem ok16_take:∀ {l:List UInt64}(n:Nat),ok16 l→ok16 (l.take n):=fun {l} n h=>ok16_iff.2 fun x hx=>ok16_iff.1 h x (List.mem_of_mem_take hx)
theorem ok16_drop:∀ {l:List UInt64}(n:Nat),ok16 l→ok16 (l.drop n):=fun {l} n h=>ok16_iff.2 fun x hx=>ok16_iff.1 h x (List.mem_of_mem_drop hx)
theorem N32.list_len (t:N32):t.list.length=32:=rfl
def N32.val (t:N32):Nat:=val16 t.list
theorem pow32:(65536:Nat) ^ 32=13407807929942597099574024998205846127479365820592393377723561443721764030073546976801874298166903427690031858186486050853753882811946569946433649006084096:=by decide
theorem pass1_val (t:N32) (h:∀ x ∈ t.list,x.toNat < 281474976710656) :
  (pass1 t).lo.val=t.val % 65536 ^ 16+38 * (t.val / 65536 ^ 16 % 65536 ^ 16)+1444 * (t.val / 65536 ^ 32)∧(pass1 t).hi=zeroN∧t.val / 65536 ^ 32 < 281474976710656 ∧
  (∀ x ∈ (pass1 t).lo.list,x.toNat < 2621440+1444 * (t.val / 65536 ^ 32)):=by
 obtain ⟨o,hv,hc⟩:=carryL_val t.list 0 h (by decide)
 have hz:(0:UInt64).toNat=0:=rfl
 rw [hz,Nat.add_zero,t.list_len] at hv
 have hlen:(carryL t.list 0).1.length=32:=by rw [carryL_len]; rfl
 generalize hr:carryL t.list 0=r at *
 obtain ⟨r1,c⟩:=r
 simp only at o hv hc hlen
 have hlt:=val16_lt o
 rw [hlen] at hlt
 have hsplit:val16 r1=val16 (r1.take 16)+65536 ^ 16 * val16 (r1.drop 16):=by
  have e:=val16_append (r1.take 16) (r1.drop 16)
  rw [List.take_append_drop] at e
  rw [e,List.length_take,hlen]
  rfl
 have l1:(r1.take 16).length=16:=by rw [List.length_take,hlen]; rfl
 have l2:(r1.drop 16).length=16:=by rw [List.length_drop,hlen]
 have b1:=val16_lt (ok16_take 16 o)
 have b2:=val16_lt (ok16_drop 16 o)
 rw [l1] at b1
 rw [l2] at b2
 obtain ⟨fv,fl,fb⟩:=foldL_val (r1.take 16) (r1.drop 16) (by rw [l1,l2]) (ok16_take 16 o) (ok16_drop 16 o)
 have hval:t.val=val16 r1+65536 ^ 32 * c.toNat:=hv.symm
 have d32:t.val / 65536 ^ 32=c.toNat:=by
  rw [hval,pow32] at *
  omega
 have d16:t.val % 65536 ^ 16=val16 (r1.take 16)∧t.val / 65536 ^ 16 % 65536 ^ 16=val16 (r1.drop 16):=by
  rw [hval,hsplit]
  rw [pow16] at *
  rw [pow32] at *
  omega
 rw [d32,d16.1,d16.2]
 have e1444:(1444:UInt64).toNat=1444:=rfl
 have hm:(1444 * c).toNat=1444 * c.toNat:=by
  rw [UInt64.toNat_mul,e1444]
  simp only [Nat.reducePow]
  omega
 have hp:pass1 t=⟨N16.ofL (headL (foldL (r1.take 16) (r1.drop 16)) fun x=>x+1444 * c),zeroN⟩:=by
  unfold pass1
  rw [hr]
 rw [hp]
 generalize hf:foldL (r1.take 16) (r1.drop 16)=f at *
 rw [l1] at fl
 cases f with
 | nil=>cases fl
 | cons x f =>
  have hx:=fb x List.mem_cons_self
  have es:(x+1444 * c).toNat=x.toNat+1444 * c.toNat:=by
   rw [UInt64.toNat_add,hm]
   simp only [Nat.reducePow]
   omega
  have hl:(N16.ofL (headL (x::f) fun x=>x+1444 * c)).list=(x+1444 * c)::f:=list_ofL (by simp only [headL,List.length_cons] at fl ⊢; exact fl)
  refine ⟨?_,rfl,hc,fun y hy => ?_⟩
  ·unfold N16.val
   simp only
   rw [hl]
   simp only [val16] at fv ⊢
   rw [es]
   omega
  ·simp only at hy
   rw [hl] at hy
   rcases List.mem_cons.1 hy with rfl | hy
   ·omega
   ·have:=fb y (List.mem_cons_of_mem _ hy)
    omega
theorem mod38 (a b c:Nat):(a+38 * b+1444 * c) % Pq=(a+65536 ^ 16 * b+65536 ^ 32 * c) % Pq:=by
 have e1:(65536:Nat) ^ 16=2 * Pq+38:=by decide
 have e2:(65536:Nat) ^ 32=(2 * (2 * Pq)+152) * Pq+1444:=by decide
 rw [e1,e2]
 have:a+(2 * Pq+38) * b+((2 * (2 * Pq)+152) * Pq+1444) * c=(a+38 * b+1444 * c)+Pq * (2 * b+(2 * (2 * Pq)+152) * c):=by
  rw [Nat.mul_add,Nat.add_mul,Nat.add_mul]
  have h1:Pq * (2 * b)=2 * Pq * b:=by rw [Nat.mul_left_comm,Nat.mul_assoc]
  have h2:Pq * ((2 * (2 * Pq)+152) * c)=(2 * (2 * Pq)+152) * Pq * c:=by rw [← Nat.mul_assoc,Nat.mul_comm Pq]
  rw [h1,h2]
  omega
 rw [this,Nat.add_mul_mod_self_left]
theorem split3 (V B:Nat):V % B+B * (V / B % B)+B * B * (V / (B * B))=V:=by
 have h1:=Nat.div_add_mod V B
 have h2:=Nat.div_add_mod (V / B) B
 rw [Nat.div_div_eq_div_mul] at h2
 have h3:B * (B * (V / (B * B))+V / B % B)=B * (V / B):=by rw [h2]
 rw [Nat.mul_add,← Nat.mul_assoc] at h3
 omega
theorem pow32s:(65536:Nat) ^ 32=65536 ^ 16 * 65536 ^ 16:=by decide
theorem pass1_mod (t:N32) (h:∀ x ∈ t.list,x.toNat < 281474976710656):(pass1 t).lo.val % Pq=t.val % Pq:=by
 rw [(pass1_val t h).1,mod38,pow32s,split3]
theorem N32.val_lo (n:N16):N32.val ⟨n,zeroN⟩=n.val:=by
 unfold N32.val N32.list
 have e:val16 zeroN.list=0:=by kernel_rfl
 rw [val16_append,e,Nat.mul_zero,Nat.add_zero]; rfl
theorem N32.mem_lo {n:N16}{B:Nat}(h:∀ x ∈ n.list,x.toNat < B) (hB:0 < B):∀ x ∈ N32.list ⟨n,zeroN⟩,x.toNat < B:=fun x hx=>by
 rcases List.mem_append.1 hx with hx | hx
 ·exact h x hx
 ·have:x=0:=by
   simp only [zeroN,N16.list,List.mem_cons,List.not_mem_nil,or_false] at hx
   rcases hx with h | h | h | h | h | h | h | h | h | h | h | h | h | h | h | h <;> exact h
  rw [this]; exact hB
theorem pass2_same (n:N16) (h:n.ok):pass2 n=n:=by
 unfold pass2
 rw [carryL_same _ h]
 obtain ⟨a0,a1,a2,a3,a4,a5,a6,a7,a8,a9,a10,a11,a12,a13,a14,a15⟩:=n
 simp [headL,N16.list,N16.ofL]
theorem val16_bound:∀ (l:List UInt64) (B:Nat),(∀ x ∈ l,x.toNat≤B)→65535 * val16 l+B≤B * 65536 ^ l.length
 | [],B,_=>by simp [val16]
 | x::l,B,h=>by
  have ih:=val16_bound l B fun y hy=>h y (List.mem_cons_of_mem _ hy)
  have hx:=h x List.mem_cons_self
  simp only [val16,List.length_cons,Nat.pow_succ]
  have:B * (65536 ^ l.length * 65536)=65536 * (B * 65536 ^ l.length):=by rw [← Nat.mul_assoc,Nat.mul_comm]
  rw [this]
  generalize B * 65536 ^ l.length=q at *
  omega
theorem headL_len (l:List UInt64) (f:UInt64→UInt64):(headL l f).length=l.length:=by
 cases l <;> rfl
theorem foldL_zero:∀ (l m:List UInt64),l.length=m.length→val16 m=0→foldL l m=l
 | [],[],_,_=>rfl
 | [],_::_,h,_=>by cases h
 | _::_,[],h,_=>by cases h
 | x::l,y::m,h,hv=>by
  simp only [val16] at hv
  have hy:y=0:=UInt64.toNat_inj.1 (show y.toNat=0 by omega)
  have hs:x+38 * 0=x:=by simp
  simp only [foldL,hy,hs,foldL_zero l m (by simpa using h) (by omega)]
theorem third_ok (A B:List UInt64) (l1:A.length=16) (l2:B.length=16) (ot:ok16 A) (hv:val16 A+115792089237316195423570985008687907853269984665640564039457584007913129639936 * val16 B < 115792089237316195423570985008687907853269984665640564039457584007913129639936+38 * 40):ok16 (headL (foldL A B) fun x=>x+1444 * 0):=by
 cases A with
 | nil=>cases l1
 | cons a0 A =>
  cases B with
  | nil=>cases l2
  | cons b0 B =>
   have ha:=ot.1
   simp only [val16] at hv
   have hB:val16 B=0:=by omega
   have hf:foldL (a0::A) (b0::B)=(a0+38 * b0)::A:=by
    simp only [foldL]
    rw [foldL_zero A B (by simp only [List.length_cons] at l1 l2; omega) hB]
   rw [hf]
   refine ⟨?_,ot.2⟩
   have hz:(a0+38 * b0+1444 * 0)=a0+38 * b0:=by simp
   show (a0+38 * b0+1444 * 0).toNat < 65536
   rw [hz,UInt64.toNat_add,UInt64.toNat_mul]
   have e38:(38:UInt64).toNat=38:=rfl
   rw [e38]
   simp only [Nat.reducePow]
   have hb0:b0.toNat=0 ∨ b0.toNat=1:=by omega
   rcases hb0 with hb | hb
   ·rw [hb]; omega
   ·rw [hb] at hv ⊢
    omega
theorem pass1_eq (u:N32):pass1 u=⟨N16.ofL (headL (foldL ((carryL u.list 0).1.take 16) ((carryL u.list 0).1.drop 16)) fun x=>x+1444 * (carryL u.list 0).2),zeroN⟩:=rfl
set_option maxHeartbeats 4000000 in
theorem passes_val (t:N32) (h:∀ x ∈ t.list,x.toNat < 281474976710656):(passes t).lo.ok∧(passes t).lo.val % Pq=t.val % Pq:=by
 obtain ⟨v1,z1,c1,b1⟩:=pass1_val t h
 have m1:=pass1_mod t h
 have hb:=val16_bound t.list 281474976710655 (fun x hx=>by have:=h x hx; omega)
 rw [t.list_len,pow32] at hb
 have hd:t.val / 65536 ^ 32 < 8589934593:=by
  have hv:t.val=val16 t.list:=rfl
  rw [pow32,hv]
  omega
 have e1:pass1 t=⟨(pass1 t).lo,zeroN⟩:=by rw [← z1]
 have h1:∀ x ∈ (pass1 t).list,x.toNat < 281474976710656:=by
  rw [e1]
  refine N32.mem_lo (fun x hx => ?_) (by omega)
  have:=b1 x hx
  omega
 have w1:(pass1 t).val=(pass1 t).lo.val:=by
  conv=>lhs; rw [e1]
  exact N32.val_lo _
 obtain ⟨v2,z2,c2,b2⟩:=pass1_val (pass1 t) h1
 have m2:=pass1_mod (pass1 t) h1
 have hv1:(pass1 t).lo.val < 40 * 115792089237316195423570985008687907853269984665640564039457584007913129639936:=by
  have r1:=Nat.mod_lt t.val (show 0 < 65536 ^ 16 by decide)
  have r2:=Nat.mod_lt (t.val / 65536 ^ 16) (show 0 < 65536 ^ 16 by decide)
  rw [v1]
  generalize t.val % 65536 ^ 16=A at *
  generalize t.val / 65536 ^ 16 % 65536 ^ 16=B at *
  generalize t.val / 65536 ^ 32=C at *
  rw [pow16] at r1 r2
  omega
 have q2:(pass1 t).val / 65536 ^ 32=0:=by
  rw [w1]
  exact Nat.div_eq_of_lt (by rw [pow32]; omega)
 rw [q2,Nat.mul_zero,Nat.add_zero] at v2 b2
 have hv2:(pass1 (pass1 t)).lo.val < 115792089237316195423570985008687907853269984665640564039457584007913129639936+38 * 40:=by
  have r1:=Nat.mod_lt (pass1 t).lo.val (show 0 < 65536 ^ 16 by decide)
  have r2:(pass1 t).lo.val / 65536 ^ 16 < 40:=Nat.div_lt_of_lt_mul (by rw [pow16]; omega)
  rw [v2,w1,Nat.mod_eq_of_lt (Nat.lt_trans r2 (by rw [pow16]; omega))]
  generalize (pass1 t).lo.val % 65536 ^ 16=A at *
  generalize (pass1 t).lo.val / 65536 ^ 16=B at *
  rw [pow16] at r1
  omega
 have e2:pass1 (pass1 t)=⟨(pass1 (pass1 t)).lo,zeroN⟩:=by rw [← z2]
 have h2:∀ x ∈ (pass1 (pass1 t)).list,x.toNat < 281474976710656:=by
  rw [e2]
  refine N32.mem_lo (fun x hx => ?_) (by omega)
  have:=b2 x hx
  omega
 have w2:(pass1 (pass1 t)).val=(pass1 (pass1 t)).lo.val:=by
  conv=>lhs; rw [e2]
  exact N32.val_lo _
 obtain ⟨v3,z3,c3,b3⟩:=pass1_val (pass1 (pass1 t)) h2
 have m3:=pass1_mod (pass1 (pass1 t)) h2
 have q3:(pass1 (pass1 t)).val / 65536 ^ 32=0:=by
  rw [w2]
  exact Nat.div_eq_of_lt (by rw [pow32]; omega)
 rw [q3,Nat.mul_zero,Nat.add_zero] at v3 b3
 have hv3:(pass1 (pass1 (pass1 t))).lo.val < 115792089237316195423570985008687907853269984665640564039457584007913129639936:=by
  have r1:=Nat.mod_lt (pass1 (pass1 t)).lo.val (show 0 < 65536 ^ 16 by decide)
  have r2:(pass1 (pass1 t)).lo.val / 65536 ^ 16 < 2:=Nat.div_lt_of_lt_mul (by rw [pow16]; omega)
  have r3:=Nat.div_add_mod (pass1 (pass1 t)).lo.val (65536 ^ 16)
  rw [v3,w2,Nat.mod_eq_of_lt (Nat.lt_trans r2 (by rw [pow16]; omega))]
  generalize (pass1 (pass1 t)).lo.val % 65536 ^ 16=A at *
  generalize (pass1 (pass1 t)).lo.val / 65536 ^ 16=B at *
  rw [pow16] at r1 r3
  have hB:B=0 ∨ B=1:=by omega
  rcases hB with rfl | rfl <;> omega
 have mm:(pass1 (pass1 (pass1 t))).lo.val % Pq=t.val % Pq:=by rw [m3,w2,m2,w1,m1]
 have o3:(pass1 (pass1 (pass1 t))).lo.ok:=by
  -- the parts by themselves
  obtain ⟨o,hv,hc⟩:=carryL_val (pass1 (pass1 t)).list 0 h2 (by decide)
  have hz:(0:UInt64).toNat=0:=rfl
  rw [hz,Nat.add_zero,N32.list_len] at hv
  have hlen:(carryL (pass1 (pass1 t)).list 0).1.length=32:=by rw [carryL_len]; rfl
  generalize hr:carryL (pass1 (pass1 t)).list 0=r at *
  obtain ⟨r1,c⟩:=r
  simp only at o hv hc hlen
  have hvv:val16 (pass1 (pass1 t)).list=(pass1 (pass1 t)).lo.val:=w2
  have hc0:c.toNat=0:=by
   rw [hvv,pow32] at hv
   omega
  rw [hc0,Nat.mul_zero,Nat.add_zero,hvv] at hv
  have hsplit:val16 r1=val16 (r1.take 16)+65536 ^ 16 * val16 (r1.drop 16):=by
   have e:=val16_append (r1.take 16) (r1.drop 16)
   rw [List.take_append_drop] at e
   rw [e,List.length_take,hlen]
   rfl
  have l1:(r1.take 16).length=16:=by rw [List.length_take,hlen]; rfl
  have l2:(r1.drop 16).length=16:=by rw [List.length_drop,hlen]
  have ot:=ok16_take 16 o
  have od:=ok16_drop 16 o
  have bt:=val16_lt ot
  rw [l1] at bt
  have hp:pass1 (pass1 (pass1 t))=⟨N16.ofL (headL (foldL (r1.take 16) (r1.drop 16)) fun x=>x+1444 * c),zeroN⟩:=by
   rw [pass1_eq,hr]
  have hcz:c=0:=UInt64.toNat_inj.1 hc0
  rw [hp]
  have ht:=third_ok (r1.take 16) (r1.drop 16) l1 l2 ot (by rw [pow16] at hsplit; omega)
  rw [hcz]
  unfold N16.ok
  have hfl:=(foldL_val (r1.take 16) (r1.drop 16) (by rw [l1,l2]) ot od).2.1
  have hll:(N16.ofL (headL (foldL (r1.take 16) (r1.drop 16)) fun x=>x+1444 * 0)).list=headL (foldL (r1.take 16) (r1.drop 16)) fun x=>x+1444 * 0:=list_ofL (by rw [headL_len,hfl,l1])
  rw [hll]
  exact ht
 have p3:∀ u:N32,u.lo.ok→(pass3 u).lo=u.lo:=fun u hu=>by
  show pass2 u.lo=u.lo
  exact pass2_same _ hu
 have f1:=p3 _ o3
 have f2:=p3 (pass3 (pass1 (pass1 (pass1 t)))) (by rw [f1]; exact o3)
 have f3:=p3 (pass3 (pass3 (pass1 (pass1 (pass1 t))))) (by rw [f2,f1]; exact o3)
 have ff:(passes t).lo=(pass1 (pass1 (pass1 t))).lo:=by
  show (pass3 (pass3 (pass3 (pass1 (pass1 (pass1 t)))))).lo=_
  rw [f3,f2,f1]
 rw [ff]
 exact ⟨o3,mm⟩
theorem downN_val (n:N16) (h:n.ok):(downN n).ok∧(downN n).val % Pq=n.val % Pq∧(downN n).val=if n.val < Pq then n.val else n.val - Pq:=by
 unfold downN
 rw [lessN_eq _ _ h primeN_ok,primeN_val]
 by_cases hl:n.val < Pq
 ·rw [decide_eq_true hl,cond_true,if_pos hl]
  exact ⟨h,rfl,rfl⟩
 ·rw [decide_eq_false hl,cond_false,if_neg hl]
  obtain ⟨o,e⟩:=minusN_val n primeN h primeN_ok (by rw [primeN_val]; omega)
  rw [primeN_val] at e
  refine ⟨o,?_,e⟩
  rw [e]
  exact (Nat.mod_eq_sub_mod (by omega)).symm
theorem redN_val (t:N32) (h:bndL t.list=true):(redN t).ok∧(redN t).val=t.val % Pq:=by
 obtain ⟨o,m⟩:=passes_val t (bndL_iff.1 h)
 have hlt:=N16.val_lt o
 rw [pow16] at hlt
 obtain ⟨o1,m1,e1⟩:=downN_val _ o
 obtain ⟨o2,m2,e2⟩:=downN_val _ o1
 refine ⟨o2,?_⟩
 have hl:(redN t).val < Pq:=by
  unfold redN
  rw [e2]
  by_cases q2:(downN (passes t).lo).val < Pq
  ·rw [if_pos q2]; exact q2
  ·rw [if_neg q2]
   by_cases q1:(passes t).lo.val < Pq
   ·rw [e1,if_pos q1] at q2; exact absurd q1 q2
   ·rw [e1,if_neg q1]
    unfold Pq
    omega
 rw [← m,← m1,← m2]
 exact (Nat.mod_eq_of_lt hl).symm
theorem redN_lt (t:N32) (h:bndL t.list=true):(redN t).val < Pq:=by rw [(redN_val t h).2]; exact Nat.mod_lt _ Pq_pos
theorem redN_less (t:N32) (h:bndL t.list=true):lessN (downN (downN (passes t).lo)) primeN=true:=by
 have:=redN_lt t h
 show lessN (redN t) primeN=true
 rw [lessN_eq _ _ (redN_val t h).1 primeN_ok,primeN_val,decide_eq_true_iff]
 exact this
end Go.Num
namespace Go.Num
open Go Go.Eng
theorem bnd_of {n:N16}{B:Nat}(h:∀ x ∈ n.list,x.toNat < B) (hB:B≤281474976710656) (h0:0 < B):bndL (N32.list ⟨n,zeroN⟩)=true:=
 bndL_iff.2 (N32.mem_lo (fun x hx=>Nat.lt_of_lt_of_le (h x hx) hB) (by omega))
theorem wide_bnd (a:N16) (h:a.ok):bndL (wideN a).list=true:=bnd_of (B:=65536) (ok16_iff.1 h) (by omega) (by omega)
theorem ofP_bnd {s:List UInt8}(h:s.length=32):bndL (wideN (partsN s)).list=true:=wide_bnd _ (partsN_val s h).1
theorem ofP_val {s:List UInt8}(h:s.length=32):(ofP s).ok∧(ofP s).val=leNat s % Pq:=by
 obtain ⟨o,e⟩:=redN_val _ (ofP_bnd h)
 refine ⟨o,?_⟩
 unfold ofP
 rw [e,wideN,N32.val_lo,(partsN_val s h).2]
theorem addP_bnd (a b:N16) (ha:a.ok) (hb:b.ok):bndL (N32.list ⟨N16.ofL (sumL a.list b.list),zeroN⟩)=true∧(N16.ofL (sumL a.list b.list)).val=a.val+b.val:=by
 obtain ⟨e,el,bd⟩:=sumL_val a.list b.list rfl ha hb
 have hl:(N16.ofL (sumL a.list b.list)).list=sumL a.list b.list:=list_ofL (by rw [el]; rfl)
 refine ⟨bnd_of (B:=281474976710656) (by rw [hl]; exact bd) (by omega) (by omega),?_⟩
 unfold N16.val
 rw [hl,e]
theorem addP_val (a b:N16) (ha:a.ok) (hb:b.ok):(addP a b).ok∧(addP a b).val=(a.val+b.val) % Pq:=by
 obtain ⟨h1,h2⟩:=addP_bnd a b ha hb
 obtain ⟨o,e⟩:=redN_val _ h1
 refine ⟨o,?_⟩
 unfold addP
 rw [e,N32.val_lo,h2]
theorem mulP_bnd (a b:N16) (ha:a.ok) (hb:b.ok):bndL (prodT a b).list=true∧(prodT a b).val=a.val * b.val:=by
 obtain ⟨e,el,bd⟩:=prodL_val a.list b.list (List.replicate 32 0) 0 ha hb (by show 0 < 16; decide) (by show 16+16≤32; decide) (fun y hy=>by rw [List.mem_replicate] at hy; rw [hy.2]; decide) (by show 0+16 * 4294836225 < 4611686018427387904; decide)
 rw [val16_zeros,Nat.zero_add] at e
 have hlen:(prodL a.list b.list (List.replicate 32 0)).length=32:=by rw [el]; rfl
 have hp:prodT a b=⟨N16.ofL ((prodL a.list b.list (List.replicate 32 0)).take 16),N16.ofL ((prodL a.list b.list (List.replicate 32 0)).drop 16)⟩:=rfl
 have hl:(prodT a b).list=prodL a.list b.list (List.replicate 32 0):=by
  rw [hp]
  unfold N32.list
  simp only
  rw [list_ofL (by rw [List.length_take,hlen]; rfl),list_ofL (by rw [List.length_drop,hlen]),List.take_append_drop]
 refine ⟨?_,?_⟩
 ·rw [hl,bndL_iff]
  intro x hx
  have:=bd x hx
  have hal:a.list.length=16:=rfl
  rw [hal] at this
  omega
 ·unfold N32.val
  rw [hl,e]; rfl
theorem mulP_val (a b:N16) (ha:a.ok) (hb:b.ok):(mulP a b).ok∧(mulP a b).val=a.val * b.val % Pq:=by
 obtain ⟨h1,h2⟩:=mulP_bnd a b ha hb
 obtain ⟨o,e⟩:=redN_val _ h1
 refine ⟨o,?_⟩
 unfold mulP
 rw [e,h2]
theorem minusN_ok (a b:N16) (ha:a.ok) (hb:b.ok):(minusN a b).ok:=by
 obtain ⟨o,_⟩:=minusL_val a.list b.list 0 rfl ha hb (by decide)
 have e:(minusN a b).list=minusL a.list b.list 0:=list_ofL (by rw [minusL_len a.list b.list 0 rfl]; rfl)
 unfold N16.ok; rw [e]; exact o
theorem negP_ok (a:N16) (h:a.ok):(negP a).ok:=by
 unfold negP
 cases isZ16 a
 ·exact minusN_ok _ _ primeN_ok h
 ·exact h
theorem negP_val (a:N16) (h:a.ok) (hv:a.val < Pq):(negP a).ok∧(negP a).val=(Pq - a.val) % Pq:=by
 refine ⟨negP_ok a h,?_⟩
 unfold negP
 rw [isZ16_eq]
 by_cases hz:a=zeroN
 ·rw [decide_eq_true hz,cond_true,hz,zeroN_val,Nat.sub_zero,Nat.mod_self]
 ·rw [decide_eq_false hz,cond_false]
  have hne:a.val ≠ 0:=fun e=>hz (N16.ext_val h zeroN_ok (by rw [e,zeroN_val]))
  obtain ⟨_,e⟩:=minusN_val primeN a primeN_ok h (by rw [primeN_val]; omega)
  rw [e,primeN_val,Nat.mod_eq_of_lt (by omega)]
theorem subP_val (a b:N16) (ha:a.ok) (hb:b.ok) (hv:b.val < Pq):(subP a b).ok∧(subP a b).val=(a.val+(Pq - b.val)) % Pq:=by
 obtain ⟨o,e⟩:=negP_val b hb hv
 obtain ⟨o2,e2⟩:=addP_val a (negP b) ha o
 refine ⟨o2,?_⟩
 unfold subP
 rw [e2,e,Nat.add_mod_mod]
theorem smallN_val (n:UInt32):(smallN n).ok∧(smallN n).val=n.toNat:=by
 have h:=n.toNat_lt
 have e1:(n &&& 65535).toUInt64.toNat=n.toNat % 65536:=by
  rw [UInt32.toNat_toUInt64,UInt32.toNat_and]
  exact Nat.and_two_pow_sub_one_eq_mod n.toNat 16
 have e2:(shr_u32 n 16).toUInt64.toNat=n.toNat / 65536:=by
  rw [UInt32.toNat_toUInt64]
  unfold shr_u32
  rw [Nat.ble_eq_true_of_le (by omega),cond_true,UInt32.toNat_shiftRight]
  have e:(UInt32.ofNat 16).toNat % 32=16:=rfl
  rw [e,Nat.shiftRight_eq_div_pow]
 have hz:(0:UInt64).toNat=0:=rfl
 simp only [Nat.reducePow] at h
 refine ⟨?_,?_⟩
 ·rw [N16.ok]
  refine ⟨?_,?_,?_⟩
  ·show (n &&& 65535).toUInt64.toNat < 65536
   omega
  ·show (shr_u32 n 16).toUInt64.toNat < 65536
   omega
  ·show ok16 [0,0,0,0,0,0,0,0,0,0,0,0,0,0]
   rw [ok16_iff]
   decide
 ·have es:(smallN n).val=(n &&& 65535).toUInt64.toNat+65536 * (shr_u32 n 16).toUInt64.toNat:=by
   simp only [N16.val,smallN,N16.list,val16,hz,Nat.mul_zero,Nat.add_zero]
  rw [es,e1,e2]
  omega
theorem powF_ok (a:N16) (ha:a.ok):∀ (l:List Bool) (x:N16),x.ok→(powF a x l).ok
 | [],x,hx=>hx
 | b::l,x,hx=>by
  have h1:=(mulP_val x x hx hx).1
  refine powF_ok a ha l _ ?_
  cases b
  ·exact h1
  ·exact (mulP_val _ a h1 ha).1
theorem powP_ok (a:N16) (ha:a.ok) (l:List Bool):(powP a l).ok:=powF_ok a ha l _ (smallN_val 1).1
def bitsNat (n:Nat):List Bool→Nat
 | []=>n
 | b::l=>bitsNat (2 * n+bn b) l
theorem powF_val (a:N16) (ha:a.ok) (l:List Bool):∀ (x:N16) (n:Nat),x.ok→x.val=a.val ^ n % Pq→(powF a x l).val=a.val ^ (bitsNat n l) % Pq:=by
 have key:∀ x y:N16,x.ok→y.ok→(mulP x y).ok∧(mulP x y).val=x.val * y.val % Pq:=mulP_val
 generalize Pq=p at *
 induction l with
 | nil=>exact fun x n hx hv=>hv
 | cons b l ih =>
  intro x n hx hv
  obtain ⟨h1,e1⟩:=key x x hx hx
  have e1':(mulP x x).val=a.val ^ (2 * n) % p:=by
   rw [e1,hv,← Nat.mul_mod,← Nat.pow_add,Nat.two_mul]
  have e2:bitsNat n (b::l)=bitsNat (2 * n+bn b) l:=rfl
  have e3:powF a x (b::l)=powF a (cond b (mulP (mulP x x) a) (mulP x x)) l:=rfl
  rw [e2,e3]
  cases b
  ·exact ih _ _ h1 e1'
  ·obtain ⟨h2,f2⟩:=key _ a h1 ha
   refine ih _ _ h2 ?_
   show (mulP (mulP x x) a).val=a.val ^ (2 * n+1) % p
   rw [f2,e1',Nat.mod_mul_mod,Nat.pow_succ]
theorem powP_val (a:N16) (ha:a.ok) (l:List Bool):(powP a l).val=a.val ^ (bitsNat 0 l) % Pq:=by
 refine powF_val a ha l _ 0 (smallN_val 1).1 ?_
 rw [(smallN_val 1).2,Nat.pow_zero]
 rfl
def boolsA:List AVal→Option (List Bool)
 | []=>some []
 | .bool b::l=>match boolsA l with
  | some bs=>some (b::bs)
  | none=>none
 | _=>none
theorem boolsA_eq:∀ {c:List AVal}{l:List Bool},boolsA c=some l→c=l.map .bool
 | [],l,h=>by cases h; rfl
 | v::c,l,h=>by
  cases v <;> simp only [boolsA] at h <;> try (cases h; done)
  split at h
  ·rename_i bs hb
   cases h
   rw [boolsA_eq hb]; rfl
  ·cases h
theorem ltL_bool (m:Nat):∀ (x:List Bool),ltL m (x.map .bool)=true
 | []=>rfl
 | _::l=>ltL_bool m l
end Go.Num
namespace Go.Proofs.YtcjkbimdmcfppaaGreatDoor
open Go Go.Eng Go.Num
theorem run46 (a b:N16):(run1 Tryz.prog cs0 (mask 46) 100 46 [a.av,b.av] [] Tryz.prog.globals.size).map (·.1)=some (.bool (lessN a b)):=by
 cases h15:(a.x15 != b.x15)
 rotate_left
 ·have e:lessN a b=decide (a.x15 < b.x15):=by simp [lessN,N16.list,lessL,h15]
  rw [e]
  exact ansO_run (noPS_ok _) (P:=Tryz.prog) (cs:=cs0) (sy:=[16]) (os:=[true]) (vs:=[]) (nn:=mask 46) (F:=100) (f:=46) (ob:=[(a.x15 != b.x15)]) (show ansO (run1O Tryz.prog noPS cs0 [16] [true] [] (mask 46) 100 46 [a.av,b.av] [] Tryz.prog.globals.size)=some (.bool (decide (a.x15 < b.x15)),[(a.x15 != b.x15)]) from by kernel_rfl) (by simp [allT,h15])
 cases h14:(a.x14 != b.x14)
 rotate_left
 ·have e:lessN a b=decide (a.x14 < b.x14):=by simp [lessN,N16.list,lessL,h15,h14]
  rw [e]
  exact ansO_run (noPS_ok _) (P:=Tryz.prog) (cs:=cs0) (sy:=[16]) (os:=[false,true]) (vs:=[]) (nn:=mask 46) (F:=100) (f:=46) (ob:=[(a.x14 != b.x14),!(a.x15 != b.x15)]) (show ansO (run1O Tryz.prog noPS cs0 [16] [false,true] [] (mask 46) 100 46 [a.av,b.av] [] Tryz.prog.globals.size)=some (.bool (decide (a.x14 < b.x14)),[(a.x14 != b.x14),!(a.x15 != b.x15)]) from by kernel_rfl) (by simp [allT,h15,h14])
 cases h13:(a.x13 != b.x13)
 rotate_left
 ·have e:lessN a b=decide (a.x13 < b.x13):=by simp [lessN,N16.list,lessL,h15,h14,h13]
  rw [e]
  exact ansO_run (noPS_ok _) (P:=Tryz.prog) (cs:=cs0) (sy:=[16]) (os:=[false,false,true]) (vs:=[]) (nn:=mask 46) (F:=100) (f:=46) (ob:=[(a.x13 != b.x13),!(a.x14 != b.x14),!(a.x15 != b.x15)]) (show ansO (run1O Tryz.prog noPS cs0 [16] [false,false,true] [] (mask 46) 100 46 [a.av,b.av] [] Tryz.prog.globals.size)=some (.bool (decide (a.x13 < b.x13)),[(a.x13 != b.x13),!(a.x14 != b.x14),!(a.x15 != b.x15)]) from by kernel_rfl) (by simp [allT,h15,h14,h13])
 cases h12:(a.x12 != b.x12)
 rotate_left
 ·have e:lessN a b=decide (a.x12 < b.x12):=by simp [lessN,N16.list,lessL,h15,h14,h13,h12]
  rw [e]
  exact ansO_run (noPS_ok _) (P:=Tryz.prog) (cs:=cs0) (sy:=[16]) (os:=[false,false,false,true]) (vs:=[]) (nn:=mask 46) (F:=100) (f:=46) (ob:=[(a.x12 != b.x12),!(a.x13 != b.x13),!(a.x14 != b.x14),!(a.x15 != b.x15)]) (show ansO (run1O Tryz.prog noPS cs0 [16] [false,false,false,true] [] (mask 46) 100 46 [a.av,b.av] [] Tryz.prog.globals.size)=some (.bool (decide (a.x12 < b.x12)),[(a.x12 != b.x12),!(a.x13 != b.x13),!(a.x14 != b.x14),!(a.x15 != b.x15)]) from by kernel_rfl) (by simp [allT,h15,h14,h13,h12])
 cases h11:(a.x11 != b.x11)
 rotate_left
 ·have e:lessN a b=decide (a.x11 < b.x11):=by simp [lessN,N16.list,lessL,h15,h14,h13,h12,h11]
  rw [e]
  exact ansO_run (noPS_ok _) (P:=Tryz.prog) (cs:=cs0) (sy:=[16]) (os:=[false,false,false,false,true]) (vs:=[]) (nn:=mask 46) (F:=100) (f:=46) (ob:=[(a.x11 != b.x11),!(a.x12 != b.x12),!(a.x13 != b.x13),!(a.x14 != b.x14),!(a.x15 != b.x15)]) (show ansO (run1O Tryz.prog noPS cs0 [16] [false,false,false,false,true] [] (mask 46) 100 46 [a.av,b.av] [] Tryz.prog.globals.size)=some (.bool (decide (a.x11 < b.x11)),[(a.x11 != b.x11),!(a.x12 != b.x12),!(a.x13 != b.x13),!(a.x14 != b.x14),!(a.x15 != b.x15)]) from by kernel_rfl) (by simp [allT,h15,h14,h13,h12,h11])
 cases h10:(a.x10 != b.x10)
 rotate_left
 ·have e:lessN a b=decide (a.x10 < b.x10):=by simp [lessN,N16.list,lessL,h15,h14,h13,h12,h11,h10]
  rw [e]
  exact ansO_run (noPS_ok _) (P:=Tryz.prog) (cs:=cs0) (sy:=[16]) (os:=[false,false,false,false,false,true]) (vs:=[]) (nn:=mask 46) (F:=100) (f:=46) (ob:=[(a.x10 != b.x10),!(a.x11 != b.x11),!(a.x12 != b.x12),!(a.x13 != b.x13),!(a.x14 != b.x14),!(a.x15 != b.x15)]) (show ansO (run1O Tryz.prog noPS cs0 [16] [false,false,false,false,false,true] [] (mask 46) 100 46 [a.av,b.av] [] Tryz.prog.globals.size)=some (.bool (decide (a.x10 < b.x10)),[(a.x10 != b.x10),!(a.x11 != b.x11),!(a.x12 != b.x12),!(a.x13 != b.x13),!(a.x14 != b.x14),!(a.x15 != b.x15)]) from by kernel_rfl) (by simp [allT,h15,h14,h13,h12,h11,h10])
 cases h9:(a.x9 != b.x9)
 rotate_left
 ·have e:lessN a b=decide (a.x9 < b.x9):=by simp [lessN,N16.list,lessL,h15,h14,h13,h12,h11,h10,h9]
  rw [e]
  exact ansO_run (noPS_ok _) (P:=Tryz.prog) (cs:=cs0) (sy:=[16]) (os:=[false,false,false,false,false,false,true]) (vs:=[]) (nn:=mask 46) (F:=100) (f:=46) (ob:=[(a.x9 != b.x9),!(a.x10 != b.x10),!(a.x11 != b.x11),!(a.x12 != b.x12),!(a.x13 != b.x13),!(a.x14 != b.x14),!(a.x15 != b.x15)]) (show ansO (run1O Tryz.prog noPS cs0 [16] [false,false,false,false,false,false,true] [] (mask 46) 100 46 [a.av,b.av] [] Tryz.prog.globals.size)=some (.bool (decide (a.x9 < b.x9)),[(a.x9 != b.x9),!(a.x10 != b.x10),!(a.x11 != b.x11),!(a.x12 != b.x12),!(a.x13 != b.x13),!(a.x14 != b.x14),!(a.x15 != b.x15)]) from by kernel_rfl) (by simp [allT,h15,h14,h13,h12,h11,h10,h9])
 cases h8:(a.x8 != b.x8)
 rotate_left
 ·have e:lessN a b=decide (a.x8 < b.x8):=by simp [lessN,N16.list,lessL,h15,h14,h13,h12,h11,h10,h9,h8]
  rw [e]
  exact ansO_run (noPS_ok _) (P:=Tryz.prog) (cs:=cs0) (sy:=[16]) (os:=[false,false,false,false,false,false,false,true]) (vs:=[]) (nn:=mask 46) (F:=100) (f:=46) (ob:=[(a.x8 != b.x8),!(a.x9 != b.x9),!(a.x10 != b.x10),!(a.x11 != b.x11),!(a.x12 != b.x12),!(a.x13 != b.x13),!(a.x14 != b.x14),!(a.x15 != b.x15)]) (show ansO (run1O Tryz.prog noPS cs0 [16] [false,false,false,false,false,false,false,true] [] (mask 46) 100 46 [a.av,b.av] [] Tryz.prog.globals.size)=some (.bool (decide (a.x8 < b.x8)),[(a.x8 != b.x8),!(a.x9 != b.x9),!(a.x10 != b.x10),!(a.x11 != b.x11),!(a.x12 != b.x12),!(a.x13 != b.x13),!(a.x14 != b.x14),!(a.x15 != b.x15)]) from by kernel_rfl) (by simp [allT,h15,h14,h13,h12,h11,h10,h9,h8])
 cases h7:(a.x7 != b.x7)
 rotate_left
 ·have e:lessN a b=decide (a.x7 < b.x7):=by simp [lessN,N16.list,lessL,h15,h14,h13,h12,h11,h10,h9,h8,h7]
  rw [e]
  exact ansO_run (noPS_ok _) (P:=Tryz.prog) (cs:=cs0) (sy:=[16]) (os:=[false,false,false,false,false,false,false,false,true]) (vs:=[]) (nn:=mask 46) (F:=100) (f:=46) (ob:=[(a.x7 != b.x7),!(a.x8 != b.x8),!(a.x9 != b.x9),!(a.x10 != b.x10),!(a.x11 != b.x11),!(a.x12 != b.x12),!(a.x13 != b.x13),!(a.x14 != b.x14),!(a.x15 != b.x15)]) (show ansO (run1O Tryz.prog noPS cs0 [16] [false,false,false,false,false,false,false,false,true] [] (mask 46) 100 46 [a.av,b.av] [] Tryz.prog.globals.size)=some (.bool (decide (a.x7 < b.x7)),[(a.x7 != b.x7),!(a.x8 != b.x8),!(a.x9 != b.x9),!(a.x10 != b.x10),!(a.x11 != b.x11),!(a.x12 != b.x12),!(a.x13 != b.x13),!(a.x14 != b.x14),!(a.x15 != b.x15)]) from by kernel_rfl) (by simp [allT,h15,h14,h13,h12,h11,h10,h9,h8,h7])
 cases h6:(a.x6 != b.x6)
 rotate_left
 ·have e:lessN a b=decide (a.x6 < b.x6):=by simp [lessN,N16.list,lessL,h15,h14,h13,h12,h11,h10,h9,h8,h7,h6]
  rw [e]
  exact ansO_run (noPS_ok _) (P:=Tryz.prog) (cs:=cs0) (sy:=[16]) (os:=[false,false,false,false,false,false,false,false,false,true]) (vs:=[]) (nn:=mask 46) (F:=100) (f:=46) (ob:=[(a.x6 != b.x6),!(a.x7 != b.x7),!(a.x8 != b.x8),!(a.x9 != b.x9),!(a.x10 != b.x10),!(a.x11 != b.x11),!(a.x12 != b.x12),!(a.x13 != b.x13),!(a.x14 != b.x14),!(a.x15 != b.x15)]) (show ansO (run1O Tryz.prog noPS cs0 [16] [false,false,false,false,false,false,false,false,false,true] [] (mask 46) 100 46 [a.av,b.av] [] Tryz.prog.globals.size)=some (.bool (decide (a.x6 < b.x6)),[(a.x6 != b.x6),!(a.x7 != b.x7),!(a.x8 != b.x8),!(a.x9 != b.x9),!(a.x10 != b.x10),!(a.x11 != b.x11),!(a.x12 != b.x12),!(a.x13 != b.x13),!(a.x14 != b.x14),!(a.x15 != b.x15)]) from by kernel_rfl) (by simp [allT,h15,h14,h13,h12,h11,h10,h9,h8,h7,h6])
 cases h5:(a.x5 != b.x5)
 rotate_left
 ·have e:lessN a b=decide (a.x5 < b.x5):=by simp [lessN,N16.list,lessL,h15,h14,h13,h12,h11,h10,h9,h8,h7,h6,h5]
  rw [e]
  exact ansO_run (noPS_ok _) (P:=Tryz.prog) (cs:=cs0) (sy:=[16]) (os:=[false,false,false,false,false,false,false,false,false,false,true]) (vs:=[]) (nn:=mask 46) (F:=100) (f:=46) (ob:=[(a.x5 != b.x5),!(a.x6 != b.x6),!(a.x7 != b.x7),!(a.x8 != b.x8),!(a.x9 != b.x9),!(a.x10 != b.x10),!(a.x11 != b.x11),!(a.x12 != b.x12),!(a.x13 != b.x13),!(a.x14 != b.x14),!(a.x15 != b.x15)]) (show ansO (run1O Tryz.prog noPS cs0 [16] [false,false,false,false,false,false,false,false,false,false,true] [] (mask 46) 100 46 [a.av,b.av] [] Tryz.prog.globals.size)=some (.bool (decide (a.x5 < b.x5)),[(a.x5 != b.x5),!(a.x6 != b.x6),!(a.x7 != b.x7),!(a.x8 != b.x8),!(a.x9 != b.x9),!(a.x10 != b.x10),!(a.x11 != b.x11),!(a.x12 != b.x12),!(a.x13 != b.x13),!(a.x14 != b.x14),!(a.x15 != b.x15)]) from by kernel_rfl) (by simp [allT,h15,h14,h13,h12,h11,h10,h9,h8,h7,h6,h5])
 cases h4:(a.x4 != b.x4)
 rotate_left
 ·have e:lessN a b=decide (a.x4 < b.x4):=by simp [lessN,N16.list,lessL,h15,h14,h13,h12,h11,h10,h9,h8,h7,h6,h5,h4]
  rw [e]
  exact ansO_run (noPS_ok _) (P:=Tryz.prog) (cs:=cs0) (sy:=[16]) (os:=[false,false,false,false,false,false,false,false,false,false,false,true]) (vs:=[]) (nn:=mask 46) (F:=100) (f:=46) (ob:=[(a.x4 != b.x4),!(a.x5 != b.x5),!(a.x6 != b.x6),!(a.x7 != b.x7),!(a.x8 != b.x8),!(a.x9 != b.x9),!(a.x10 != b.x10),!(a.x11 != b.x11),!(a.x12 != b.x12),!(a.x13 != b.x13),!(a.x14 != b.x14),!(a.x15 != b.x15)]) (show ansO (run1O Tryz.prog noPS cs0 [16] [false,false,false,false,false,false,false,false,false,false,false,true] [] (mask 46) 100 46 [a.av,b.av] [] Tryz.prog.globals.size)=some (.bool (decide (a.x4 < b.x4)),[(a.x4 != b.x4),!(a.x5 != b.x5),!(a.x6 != b.x6),!(a.x7 != b.x7),!(a.x8 != b.x8),!(a.x9 != b.x9),!(a.x10 != b.x10),!(a.x11 != b.x11),!(a.x12 != b.x12),!(a.x13 != b.x13),!(a.x14 != b.x14),!(a.x15 != b.x15)]) from by kernel_rfl) (by simp [allT,h15,h14,h13,h12,h11,h10,h9,h8,h7,h6,h5,h4])
 cases h3:(a.x3 != b.x3)
 rotate_left
 ·have e:lessN a b=decide (a.x3 < b.x3):=by simp [lessN,N16.list,lessL,h15,h14,h13,h12,h11,h10,h9,h8,h7,h6,h5,h4,h3]
  rw [e]
  exact ansO_run (noPS_ok _) (P:=Tryz.prog) (cs:=cs0) (sy:=[16]) (os:=[false,false,false,false,false,false,false,false,false,false,false,false,true]) (vs:=[]) (nn:=mask 46) (F:=100) (f:=46) (ob:=[(a.x3 != b.x3),!(a.x4 != b.x4),!(a.x5 != b.x5),!(a.x6 != b.x6),!(a.x7 != b.x7),!(a.x8 != b.x8),!(a.x9 != b.x9),!(a.x10 != b.x10),!(a.x11 != b.x11),!(a.x12 != b.x12),!(a.x13 != b.x13),!(a.x14 != b.x14),!(a.x15 != b.x15)]) (show ansO (run1O Tryz.prog noPS cs0 [16] [false,false,false,false,false,false,false,false,false,false,false,false,true] [] (mask 46) 100 46 [a.av,b.av] [] Tryz.prog.globals.size)=some (.bool (decide (a.x3 < b.x3)),[(a.x3 != b.x3),!(a.x4 != b.x4),!(a.x5 != b.x5),!(a.x6 != b.x6),!(a.x7 != b.x7),!(a.x8 != b.x8),!(a.x9 != b.x9),!(a.x10 != b.x10),!(a.x11 != b.x11),!(a.x12 != b.x12),!(a.x13 != b.x13),!(a.x14 != b.x14),!(a.x15 != b.x15)]) from by kernel_rfl) (by simp [allT,h15,h14,h13,h12,h11,h10,h9,h8,h7,h6,h5,h4,h3])
 cases h2:(a.x2 != b.x2)
 rotate_left
 ·have e:lessN a b=decide (a.x2 < b.x2):=by simp [lessN,N16.list,lessL,h15,h14,h13,h12,h11,h10,h9,h8,h7,h6,h5,h4,h3,h2]
  rw [e]
  exact ansO_run (noPS_ok _) (P:=Tryz.prog) (cs:=cs0) (sy:=[16]) (os:=[false,false,false,false,false,false,false,false,false,false,false,false,false,true]) (vs:=[]) (nn:=mask 46) (F:=100) (f:=46) (ob:=[(a.x2 != b.x2),!(a.x3 != b.x3),!(a.x4 != b.x4),!(a.x5 != b.x5),!(a.x6 != b.x6),!(a.x7 != b.x7),!(a.x8 != b.x8),!(a.x9 != b.x9),!(a.x10 != b.x10),!(a.x11 != b.x11),!(a.x12 != b.x12),!(a.x13 != b.x13),!(a.x14 != b.x14),!(a.x15 != b.x15)]) (show ansO (run1O Tryz.prog noPS cs0 [16] [false,false,false,false,false,false,false,false,false,false,false,false,false,true] [] (mask 46) 100 46 [a.av,b.av] [] Tryz.prog.globals.size)=some (.bool (decide (a.x2 < b.x2)),[(a.x2 != b.x2),!(a.x3 != b.x3),!(a.x4 != b.x4),!(a.x5 != b.x5),!(a.x6 != b.x6),!(a.x7 != b.x7),!(a.x8 != b.x8),!(a.x9 != b.x9),!(a.x10 != b.x10),!(a.x11 != b.x11),!(a.x12 != b.x12),!(a.x13 != b.x13),!(a.x14 != b.x14),!(a.x15 != b.x15)]) from by kernel_rfl) (by simp [allT,h15,h14,h13,h12,h11,h10,h9,h8,h7,h6,h5,h4,h3,h2])
 cases h1:(a.x1 != b.x1)
 rotate_left
 ·have e:lessN a b=decide (a.x1 < b.x1):=by simp [lessN,N16.list,lessL,h15,h14,h13,h12,h11,h10,h9,h8,h7,h6,h5,h4,h3,h2,h1]
  rw [e]
  exact ansO_run (noPS_ok _) (P:=Tryz.prog) (cs:=cs0) (sy:=[16]) (os:=[false,false,false,false,false,false,false,false,false,false,false,false,false,false,true]) (vs:=[]) (nn:=mask 46) (F:=100) (f:=46) (ob:=[(a.x1 != b.x1),!(a.x2 != b.x2),!(a.x3 != b.x3),!(a.x4 != b.x4),!(a.x5 != b.x5),!(a.x6 != b.x6),!(a.x7 != b.x7),!(a.x8 != b.x8),!(a.x9 != b.x9),!(a.x10 != b.x10),!(a.x11 != b.x11),!(a.x12 != b.x12),!(a.x13 != b.x13),!(a.x14 != b.x14),!(a.x15 != b.x15)]) (show ansO (run1O Tryz.prog noPS cs0 [16] [false,false,false,false,false,false,false,false,false,false,false,false,false,false,true] [] (mask 46) 100 46 [a.av,b.av] [] Tryz.prog.globals.size)=some (.bool (decide (a.x1 < b.x1)),[(a.x1 != b.x1),!(a.x2 != b.x2),!(a.x3 != b.x3),!(a.x4 != b.x4),!(a.x5 != b.x5),!(a.x6 != b.x6),!(a.x7 != b.x7),!(a.x8 != b.x8),!(a.x9 != b.x9),!(a.x10 != b.x10),!(a.x11 != b.x11),!(a.x12 != b.x12),!(a.x13 != b.x13),!(a.x14 != b.x14),!(a.x15 != b.x15)]) from by kernel_rfl) (by simp [allT,h15,h14,h13,h12,h11,h10,h9,h8,h7,h6,h5,h4,h3,h2,h1])
 cases h0:(a.x0 != b.x0)
 rotate_left
 ·have e:lessN a b=decide (a.x0 < b.x0):=by simp [lessN,N16.list,lessL,h15,h14,h13,h12,h11,h10,h9,h8,h7,h6,h5,h4,h3,h2,h1,h0]
  rw [e]
  exact ansO_run (noPS_ok _) (P:=Tryz.prog) (cs:=cs0) (sy:=[16]) (os:=[false,false,false,false,false,false,false,false,false,false,false,false,false,false,false,true]) (vs:=[]) (nn:=mask 46) (F:=100) (f:=46) (ob:=[(a.x0 != b.x0),!(a.x1 != b.x1),!(a.x2 != b.x2),!(a.x3 != b.x3),!(a.x4 != b.x4),!(a.x5 != b.x5),!(a.x6 != b.x6),!(a.x7 != b.x7),!(a.x8 != b.x8),!(a.x9 != b.x9),!(a.x10 != b.x10),!(a.x11 != b.x11),!(a.x12 != b.x12),!(a.x13 != b.x13),!(a.x14 != b.x14),!(a.x15 != b.x15)]) (show ansO (run1O Tryz.prog noPS cs0 [16] [false,false,false,false,false,false,false,false,false,false,false,false,false,false,false,true] [] (mask 46) 100 46 [a.av,b.av] [] Tryz.prog.globals.size)=some (.bool (decide (a.x0 < b.x0)),[(a.x0 != b.x0),!(a.x1 != b.x1),!(a.x2 != b.x2),!(a.x3 != b.x3),!(a.x4 != b.x4),!(a.x5 != b.x5),!(a.x6 != b.x6),!(a.x7 != b.x7),!(a.x8 != b.x8),!(a.x9 != b.x9),!(a.x10 != b.x10),!(a.x11 != b.x11),!(a.x12 != b.x12),!(a.x13 != b.x13),!(a.x14 != b.x14),!(a.x15 != b.x15)]) from by kernel_rfl) (by simp [allT,h15,h14,h13,h12,h11,h10,h9,h8,h7,h6,h5,h4,h3,h2,h1,h0])
 have e:lessN a b=false:=by simp [lessN,N16.list,lessL,h15,h14,h13,h12,h11,h10,h9,h8,h7,h6,h5,h4,h3,h2,h1,h0]
 rw [e]
 exact ansO_run (noPS_ok _) (P:=Tryz.prog) (cs:=cs0) (sy:=[16]) (os:=[false,false,false,false,false,false,false,false,false,false,false,false,false,false,false,false]) (vs:=[]) (nn:=mask 46) (F:=100) (f:=46) (ob:=[!(a.x0 != b.x0),!(a.x1 != b.x1),!(a.x2 != b.x2),!(a.x3 != b.x3),!(a.x4 != b.x4),!(a.x5 != b.x5),!(a.x6 != b.x6),!(a.x7 != b.x7),!(a.x8 != b.x8),!(a.x9 != b.x9),!(a.x10 != b.x10),!(a.x11 != b.x11),!(a.x12 != b.x12),!(a.x13 != b.x13),!(a.x14 != b.x14),!(a.x15 != b.x15)]) (show ansO (run1O Tryz.prog noPS cs0 [16] [false,false,false,false,false,false,false,false,false,false,false,false,false,false,false,false] [] (mask 46) 100 46 [a.av,b.av] [] Tryz.prog.globals.size)=some (.bool false,[!(a.x0 != b.x0),!(a.x1 != b.x1),!(a.x2 != b.x2),!(a.x3 != b.x3),!(a.x4 != b.x4),!(a.x5 != b.x5),!(a.x6 != b.x6),!(a.x7 != b.x7),!(a.x8 != b.x8),!(a.x9 != b.x9),!(a.x10 != b.x10),!(a.x11 != b.x11),!(a.x12 != b.x12),!(a.x13 != b.x13),!(a.x14 != b.x14),!(a.x15 != b.x15)]) from by kernel_rfl) (by simp [allT,h15,h14,h13,h12,h11,h10,h9,h8,h7,h6,h5,h4,h3,h2,h1,h0])
def g46:List AVal→Option EffA
 | [.agg [.u64 a0,.u64 a1,.u64 a2,.u64 a3,.u64 a4,.u64 a5,.u64 a6,.u64 a7,.u64 a8,.u64 a9,.u64 a10,.u64 a11,.u64 a12,.u64 a13,.u64 a14,.u64 a15],.agg [.u64 b0,.u64 b1,.u64 b2,.u64 b3,.u64 b4,.u64 b5,.u64 b6,.u64 b7,.u64 b8,.u64 b9,.u64 b10,.u64 b11,.u64 b12,.u64 b13,.u64 b14,.u64 b15]]=>some (.pure (.bool (lessN (N16.mk a0 a1 a2 a3 a4 a5 a6 a7 a8 a9 a10 a11 a12 a13 a14 a15) (N16.mk b0 b1 b2 b3 b4 b5 b6 b7 b8 b9 b10 b11 b12 b13 b14 b15))))
 | _=>none
theorem g46_ok:CSOk Tryz.prog (csOne 46 g46):=csOne_ok fun args e he=>by
 unfold g46 at he
 split at he
 ·rename_i a0 a1 a2 a3 a4 a5 a6 a7 a8 a9 a10 a11 a12 a13 a14 a15 b0 b1 b2 b3 b4 b5 b6 b7 b8 b9 b10 b11 b12 b13 b14 b15
  cases he
  exact callOk_val cs0_ok hmix (run46 (N16.mk a0 a1 a2 a3 a4 a5 a6 a7 a8 a9 a10 a11 a12 a13 a14 a15) (N16.mk b0 b1 b2 b3 b4 b5 b6 b7 b8 b9 b10 b11 b12 b13 b14 b15)) rfl rfl
 ·cases he
theorem run78 (a0 a1 a2 a3 a4 a5 a6 a7 a8 a9 a10 a11 a12 a13 a14 a15 a16 a17 a18 a19 a20 a21 a22 a23 a24 a25 a26 a27 a28 a29 a30 a31:UInt8):(run1 Tryz.prog cs0 (mask 78) 100 78 [.str [a0,a1,a2,a3,a4,a5,a6,a7,a8,a9,a10,a11,a12,a13,a14,a15,a16,a17,a18,a19,a20,a21,a22,a23,a24,a25,a26,a27,a28,a29,a30,a31]] [] Tryz.prog.globals.size).map (·.1)=some (partsN [a0,a1,a2,a3,a4,a5,a6,a7,a8,a9,a10,a11,a12,a13,a14,a15,a16,a17,a18,a19,a20,a21,a22,a23,a24,a25,a26,a27,a28,a29,a30,a31]).av:=by kernel_rfl
def g78:List AVal→Option EffA
 | [.str [a0,a1,a2,a3,a4,a5,a6,a7,a8,a9,a10,a11,a12,a13,a14,a15,a16,a17,a18,a19,a20,a21,a22,a23,a24,a25,a26,a27,a28,a29,a30,a31]]=>some (.pure (partsN [a0,a1,a2,a3,a4,a5,a6,a7,a8,a9,a10,a11,a12,a13,a14,a15,a16,a17,a18,a19,a20,a21,a22,a23,a24,a25,a26,a27,a28,a29,a30,a31]).av)
 | _=>none
theorem g78_ok:CSOk Tryz.prog (csOne 78 g78):=csOne_ok fun args e he=>by
 unfold g78 at he
 split at he
 ·rename_i a0 a1 a2 a3 a4 a5 a6 a7 a8 a9 a10 a11 a12 a13 a14 a15 a16 a17 a18 a19 a20 a21 a22 a23 a24 a25 a26 a27 a28 a29 a30 a31
  cases he
  exact callOk_val cs0_ok hmix (run78 a0 a1 a2 a3 a4 a5 a6 a7 a8 a9 a10 a11 a12 a13 a14 a15 a16 a17 a18 a19 a20 a21 a22 a23 a24 a25 a26 a27 a28 a29 a30 a31) rfl rfl
 ·cases he
theorem run29 (a:N16):(run1 Tryz.prog cs0 (mask 29) 100 29 [(N16.av a)] [] Tryz.prog.globals.size).map (·.1)=some (.str (bytesN a)):=by kernel_rfl
def g29:List AVal→Option EffA
 | [.agg [.u64 a0,.u64 a1,.u64 a2,.u64 a3,.u64 a4,.u64 a5,.u64 a6,.u64 a7,.u64 a8,.u64 a9,.u64 a10,.u64 a11,.u64 a12,.u64 a13,.u64 a14,.u64 a15]]=>some (.pure (.str (bytesN (N16.mk a0 a1 a2 a3 a4 a5 a6 a7 a8 a9 a10 a11 a12 a13 a14 a15))))
 | _=>none
theorem g29_ok:CSOk Tryz.prog (csOne 29 g29):=csOne_ok fun args e he=>by
 unfold g29 at he
 split at he
 ·rename_i a0 a1 a2 a3 a4 a5 a6 a7 a8 a9 a10 a11 a12 a13 a14 a15
  cases he
  exact callOk_val cs0_ok hmix (run29 (N16.mk a0 a1 a2 a3 a4 a5 a6 a7 a8 a9 a10 a11 a12 a13 a14 a15)) rfl rfl
 ·cases he
theorem run114 (a:N16) (b:N16):(run1 Tryz.prog cs0 (mask 114) 100 114 [(N16.av a),(N16.av b)] [] Tryz.prog.globals.size).map (·.1)=some (N16.av (minusN a b)):=by kernel_rfl
def g114:List AVal→Option EffA
 | [.agg [.u64 a0,.u64 a1,.u64 a2,.u64 a3,.u64 a4,.u64 a5,.u64 a6,.u64 a7,.u64 a8,.u64 a9,.u64 a10,.u64 a11,.u64 a12,.u64 a13,.u64 a14,.u64 a15],.agg [.u64 b0,.u64 b1,.u64 b2,.u64 b3,.u64 b4,.u64 b5,.u64 b6,.u64 b7,.u64 b8,.u64 b9,.u64 b10,.u64 b11,.u64 b12,.u64 b13,.u64 b14,.u64 b15]]=>some (.pure (N16.av (minusN (N16.mk a0 a1 a2 a3 a4 a5 a6 a7 a8 a9 a10 a11 a12 a13 a14 a15) (N16.mk b0 b1 b2 b3 b4 b5 b6 b7 b8 b9 b10 b11 b12 b13 b14 b15))))
 | _=>none
theorem g114_ok:CSOk Tryz.prog (csOne 114 g114):=csOne_ok fun args e he=>by
 unfold g114 at he
 split at he
 ·rename_i a0 a1 a2 a3 a4 a5 a6 a7 a8 a9 a10 a11 a12 a13 a14 a15 b0 b1 b2 b3 b4 b5 b6 b7 b8 b9 b10 b11 b12 b13 b14 b15
  cases he
  exact callOk_val cs0_ok hmix (run114 (N16.mk a0 a1 a2 a3 a4 a5 a6 a7 a8 a9 a10 a11 a12 a13 a14 a15) (N16.mk b0 b1 b2 b3 b4 b5 b6 b7 b8 b9 b10 b11 b12 b13 b14 b15)) rfl rfl
 ·cases he
theorem run112  : (run1 Tryz.prog cs0 (mask 112) 100 112 [] [] Tryz.prog.globals.size).map (·.1)=some (primeN.av):=by kernel_rfl
def g112:List AVal→Option EffA
 | []=>some (.pure (primeN.av))
 | _=>none
theorem g112_ok:CSOk Tryz.prog (csOne 112 g112):=csOne_ok fun args e he=>by
 unfold g112 at he
 split at he
 ·skip
  cases he
  exact callOk_val cs0_ok hmix (run112 ) rfl rfl
 ·cases he
theorem run113 (a:N16):(run1 Tryz.prog cs0 (mask 113) 100 113 [(N16.av a)] [] Tryz.prog.globals.size).map (·.1)=some (N32.av (wideN a)):=by kernel_rfl
def g113:List AVal→Option EffA
 | [.agg [.u64 a0,.u64 a1,.u64 a2,.u64 a3,.u64 a4,.u64 a5,.u64 a6,.u64 a7,.u64 a8,.u64 a9,.u64 a10,.u64 a11,.u64 a12,.u64 a13,.u64 a14,.u64 a15]]=>some (.pure (N32.av (wideN (N16.mk a0 a1 a2 a3 a4 a5 a6 a7 a8 a9 a10 a11 a12 a13 a14 a15))))
 | _=>none
theorem g113_ok:CSOk Tryz.prog (csOne 113 g113):=csOne_ok fun args e he=>by
 unfold g113 at he
 split at he
 ·rename_i a0 a1 a2 a3 a4 a5 a6 a7 a8 a9 a10 a11 a12 a13 a14 a15
  cases he
  exact callOk_val cs0_ok hmix (run113 (N16.mk a0 a1 a2 a3 a4 a5 a6 a7 a8 a9 a10 a11 a12 a13 a14 a15)) rfl rfl
 ·cases he
def nr1:CS:=(csAlt (csOne 46 g46) (csAlt (csOne 78 g78) (csAlt (csOne 29 g29) (csAlt (csOne 114 g114) (csAlt (csOne 112 g112) (csOne 113 g113))))))
theorem nr1_ok:CSOk Tryz.prog nr1:=(csAlt_ok g46_ok (csAlt_ok g78_ok (csAlt_ok g29_ok (csAlt_ok g114_ok (csAlt_ok g112_ok g113_ok)))))
def Sd1 (t0 t:N32) (k:Int):SA:=⟨[(0,t0.av),(1,.ptr 2 0),(2,.ptr 10 0),(3,.int .i64 k)],[(2,.cells false t.cells),(10,.cells false zeroN.cells)],26⟩
def Sd1e (t0 t:N32):SA:=⟨[(0,t0.av),(1,.ptr 2 0),(2,.ptr 10 0),(3,.int .i64 3),(15,.bool false)],[(2,.cells false t.cells),(10,.cells false zeroN.cells)],42⟩
def Sd2 (t0 t:N32) (k:Int):SA:=⟨[(0,t0.av),(1,.ptr 2 0),(2,.ptr 10 0),(3,.int .i64 3),(15,.bool false),(8,.int .i64 k)],[(2,.cells false t.cells),(10,.cells false zeroN.cells)],50⟩
def Sd2e (t0 t:N32):SA:=⟨[(0,t0.av),(1,.ptr 2 0),(2,.ptr 10 0),(3,.int .i64 3),(15,.bool false),(8,.int .i64 3),(58,.bool false)],[(2,.cells false t.cells),(10,.cells false zeroN.cells)],66⟩
noncomputable def prd:List Code:=pieces (bodyOf Tryz.f91)
noncomputable def bd1:Code:=loopOf (prd.getD 2 .skip)
noncomputable def bd2:Code:=loopOf (prd.getD 4 .skip)
theorem red0 (t:N32):segO (evSO Tryz.prog noPS nr1 [] 99 (mask 91) 100 Tryz.prog.globals.size ((prd.drop 0).take 2) ⟨startT [t.av] 0,[],Tryz.prog.globals.size⟩ ⟨[],[],[]⟩)=some (Sd1 t t 0,[]):=by kernel_rfl
theorem red1_0 (t0 s t:N32):roundO Tryz.prog noPS nr1 [] [] [] 99 (mask 91) 100 Tryz.prog.globals.size bd1 (Sd1 t0 s 0) (Sd1 t0 t 0)=some (Sd1 t0 (pass1 t) 1,[]):=by kernel_rfl
theorem red1_1 (t0 s t:N32):roundO Tryz.prog noPS nr1 [] [] [] 99 (mask 91) 100 Tryz.prog.globals.size bd1 (Sd1 t0 s 0) (Sd1 t0 t 1)=some (Sd1 t0 (pass1 t) 2,[]):=by kernel_rfl
theorem red1_2 (t0 s t:N32):roundO Tryz.prog noPS nr1 [] [] [] 99 (mask 91) 100 Tryz.prog.globals.size bd1 (Sd1 t0 s 0) (Sd1 t0 t 2)=some (Sd1 t0 (pass1 t) 3,[]):=by kernel_rfl
theorem red1e (t0 t:N32):evC Tryz.prog nr1 99 (mask 91) 100 Tryz.prog.globals.size bd1 (Sd1 t0 t 3)=some (.exit 0,Sd1e t0 t):=by kernel_rfl
theorem red1x (t0 t:N32):segO (evSO Tryz.prog noPS nr1 [] 99 (mask 91) 100 Tryz.prog.globals.size ((prd.drop 3).take 1) (Sd1e t0 t) ⟨[],[],[]⟩)=some (Sd2 t0 t 0,[]):=by kernel_rfl
theorem red2_0 (t0 s t:N32):roundO Tryz.prog noPS nr1 [] [] [] 99 (mask 91) 100 Tryz.prog.globals.size bd2 (Sd2 t0 s 0) (Sd2 t0 t 0)=some (Sd2 t0 (pass3 t) 1,[]):=by kernel_rfl
theorem red2_1 (t0 s t:N32):roundO Tryz.prog noPS nr1 [] [] [] 99 (mask 91) 100 Tryz.prog.globals.size bd2 (Sd2 t0 s 0) (Sd2 t0 t 1)=some (Sd2 t0 (pass3 t) 2,[]):=by kernel_rfl
theorem red2_2 (t0 s t:N32):roundO Tryz.prog noPS nr1 [] [] [] 99 (mask 91) 100 Tryz.prog.globals.size bd2 (Sd2 t0 s 0) (Sd2 t0 t 2)=some (Sd2 t0 (pass3 t) 3,[]):=by kernel_rfl
theorem red2e (t0 t:N32):evC Tryz.prog nr1 99 (mask 91) 100 Tryz.prog.globals.size bd2 (Sd2 t0 t 3)=some (.exit 6,Sd2e t0 t):=by kernel_rfl
theorem red3a (t0 t:N32):ansF Tryz.prog Tryz.f91 (evSO Tryz.prog noPS nr1 [94] 99 (mask 91) 100 Tryz.prog.globals.size (prd.drop 5) (Sd2e t0 t) ⟨[false],[],[]⟩)=some (t.lo.av,[!(!(lessN t.lo primeN))]):=by kernel_rfl
theorem red3b (t0 t:N32):ansF Tryz.prog Tryz.f91 (evSO Tryz.prog noPS nr1 [94] 99 (mask 91) 100 Tryz.prog.globals.size (prd.drop 5) (Sd2e t0 t) ⟨[true,false],[],[]⟩)=some ((minusN t.lo primeN).av,[!(!(lessN (minusN t.lo primeN) primeN)),!(lessN t.lo primeN)]):=by kernel_rfl
theorem red3c (t0 t:N32):ansF Tryz.prog Tryz.f91 (evSO Tryz.prog noPS nr1 [94] 99 (mask 91) 100 Tryz.prog.globals.size (prd.drop 5) (Sd2e t0 t) ⟨[true,true,false],[],[]⟩)=some ((minusN (minusN t.lo primeN) primeN).av,[!(!(lessN (minusN (minusN t.lo primeN) primeN) primeN)),!(lessN (minusN t.lo primeN) primeN),!(lessN t.lo primeN)]):=by kernel_rfl
theorem red3 (t0 t:N32) (h:lessN (downN (downN t.lo)) primeN=true):finV Tryz.prog Tryz.f91 (evS Tryz.prog nr1 99 (mask 91) 100 Tryz.prog.globals.size (prd.drop 5) (Sd2e t0 t))=some (downN (downN t.lo)).av:=by
 cases h1:lessN t.lo primeN
 ·have e1:downN t.lo=(minusN t.lo primeN):=by simp only [downN,h1,cond_false]
  rw [e1] at h ⊢
  cases h2:lessN (minusN t.lo primeN) primeN
  ·have e2:downN (minusN t.lo primeN)=(minusN (minusN t.lo primeN) primeN):=by simp only [downN,h2,cond_false]
   rw [e2] at h ⊢
   exact ansF_ok (noPS_ok _) (red3c t0 t) (by simp [allT,h1,h2,h])
  ·have e2:downN (minusN t.lo primeN)=(minusN t.lo primeN):=by simp only [downN,h2,cond_true]
   rw [e2]
   exact ansF_ok (noPS_ok _) (red3b t0 t) (by simp [allT,h1,h2])
 ·have e1:downN t.lo=t.lo:=by simp only [downN,h1,cond_true]
  rw [e1,e1]
  exact ansF_ok (noPS_ok _) (red3a t0 t) (by simp [allT,h1])
theorem run91 (t:N32) (hb:bndL t.list=true):(run1 Tryz.prog nr1 (mask 91) 100 91 [t.av] [] Tryz.prog.globals.size).map (·.1)=some (redN t).av:=by
 rw [run1_val (fn:=Tryz.f91) (c:=bodyOf Tryz.f91) (by kernel_rfl) (by kernel_rfl) (by kernel_rfl)]
 have hA:=segO_ok (noPS_ok _) (red0 t) rfl
 rw [List.drop_zero] at hA
 show finV Tryz.prog Tryz.f91 (evS Tryz.prog nr1 99 (mask 91) 100 Tryz.prog.globals.size prd ⟨startT [t.av] 0,[],Tryz.prog.globals.size⟩)=_
 rw [hA]
 have hB:=evS_loop (P:=Tryz.prog) (cs:=nr1) (nt:=99) (nn:=mask 91) (F:=100) (bs:=Tryz.prog.globals.size) (l:=prd) (k:=2) (id:=0) (b:=bd1) (by kernel_rfl) (fun j=>match j with | 0=>Sd1 t t 0 | 1=>Sd1 t (pass1 t) 1 | 2=>Sd1 t (pass1 (pass1 t)) 2 | _=>Sd1 t (pass1 (pass1 (pass1 t))) 3) 3 (s1:=Sd1e t (pass1 (pass1 (pass1 t))))
  (fun j hj=>match j,hj with
   | 0,_=>roundO_ok (noPS_ok _) (red1_0 t t t) rfl
   | 1,_=>roundO_ok (noPS_ok _) (red1_1 t t (pass1 t)) rfl
   | 2,_=>roundO_ok (noPS_ok _) (red1_2 t t (pass1 (pass1 t))) rfl) (red1e t _) (by omega)
 have hC:=segO_ok (noPS_ok _) (red1x t (pass1 (pass1 (pass1 t)))) rfl
 have hD:=evS_loop (P:=Tryz.prog) (cs:=nr1) (nt:=99) (nn:=mask 91) (F:=100) (bs:=Tryz.prog.globals.size) (l:=prd) (k:=4) (id:=6) (b:=bd2) (by kernel_rfl) (fun j=>match j with | 0=>Sd2 t (pass1 (pass1 (pass1 t))) 0 | 1=>Sd2 t (pass3 (pass1 (pass1 (pass1 t)))) 1 | 2=>Sd2 t (pass3 (pass3 (pass1 (pass1 (pass1 t))))) 2 | _=>Sd2 t (passes t) 3) 3 (s1:=Sd2e t (passes t))
  (fun j hj=>match j,hj with
   | 0,_=>roundO_ok (noPS_ok _) (red2_0 t (pass1 (pass1 (pass1 t))) (pass1 (pass1 (pass1 t)))) rfl
   | 1,_=>roundO_ok (noPS_ok _) (red2_1 t (pass1 (pass1 (pass1 t))) (pass3 (pass1 (pass1 (pass1 t))))) rfl
   | 2,_=>roundO_ok (noPS_ok _) (red2_2 t (pass1 (pass1 (pass1 t))) (pass3 (pass3 (pass1 (pass1 (pass1 t)))))) rfl) (red2e t _) (by omega)
 have hB':evS Tryz.prog nr1 99 (mask 91) 100 Tryz.prog.globals.size (prd.drop 2) (Sd1 t t 0)=evS Tryz.prog nr1 99 (mask 91) 100 Tryz.prog.globals.size (prd.drop 3) (Sd1e t (pass1 (pass1 (pass1 t)))):=hB
 have hD':evS Tryz.prog nr1 99 (mask 91) 100 Tryz.prog.globals.size (prd.drop 4) (Sd2 t (pass1 (pass1 (pass1 t))) 0)=evS Tryz.prog nr1 99 (mask 91) 100 Tryz.prog.globals.size (prd.drop 5) (Sd2e t (passes t)):=hD
 rw [hB',hC,hD']
 exact red3 t (passes t) (redN_less t hb)
def p91:List AVal→Option (EffA × Bool)
 | [.agg [.u64 a0,.u64 a1,.u64 a2,.u64 a3,.u64 a4,.u64 a5,.u64 a6,.u64 a7,.u64 a8,.u64 a9,.u64 a10,.u64 a11,.u64 a12,.u64 a13,.u64 a14,.u64 a15,.u64 a16,.u64 a17,.u64 a18,.u64 a19,.u64 a20,.u64 a21,.u64 a22,.u64 a23,.u64 a24,.u64 a25,.u64 a26,.u64 a27,.u64 a28,.u64 a29,.u64 a30,.u64 a31]]=>some (.pure (redN (N32.mk (N16.mk a0 a1 a2 a3 a4 a5 a6 a7 a8 a9 a10 a11 a12 a13 a14 a15) (N16.mk a16 a17 a18 a19 a20 a21 a22 a23 a24 a25 a26 a27 a28 a29 a30 a31))).av,bndL (N32.mk (N16.mk a0 a1 a2 a3 a4 a5 a6 a7 a8 a9 a10 a11 a12 a13 a14 a15) (N16.mk a16 a17 a18 a19 a20 a21 a22 a23 a24 a25 a26 a27 a28 a29 a30 a31)).list)
 | _=>none
theorem p91_ok:CSOk Tryz.prog (csP (psOne 91 p91)):=csP_one fun args v he=>by
 unfold p91 at he
 split at he
 ·rename_i a0 a1 a2 a3 a4 a5 a6 a7 a8 a9 a10 a11 a12 a13 a14 a15 a16 a17 a18 a19 a20 a21 a22 a23 a24 a25 a26 a27 a28 a29 a30 a31
  simp only [Option.some.injEq,Prod.mk.injEq] at he
  obtain ⟨rfl,h⟩:=he
  exact callOk_val nr1_ok hmix (run91 (N32.mk (N16.mk a0 a1 a2 a3 a4 a5 a6 a7 a8 a9 a10 a11 a12 a13 a14 a15) (N16.mk a16 a17 a18 a19 a20 a21 a22 a23 a24 a25 a26 a27 a28 a29 a30 a31)) h) rfl rfl
 ·cases he
def nr2:CS:=csAlt (csP (psOne 91 p91)) nr1
theorem nr2_ok:CSOk Tryz.prog nr2:=csAlt_ok p91_ok nr1_ok
theorem nr2_ps:PSOk (psOne 91 p91) nr2:=csP_ok
end Go.Proofs.YtcjkbimdmcfppaaGreatDoor
namespace Go.Proofs.YtcjkbimdmcfppaaGreatDoor
open Go Go.Eng Go.Num
theorem run82 (a:UInt32):(run1 Tryz.prog nr1 (mask 82) 100 82 [(.u32 a)] [] Tryz.prog.globals.size).map (·.1)=some (N16.av (smallN a)):=by kernel_rfl
def g82:List AVal→Option EffA
 | [.u32 a]=>some (.pure (N16.av (smallN a)))
 | _=>none
theorem g82_ok:CSOk Tryz.prog (csOne 82 g82):=csOne_ok fun args e he=>by
 unfold g82 at he
 split at he
 ·rename_i a
  cases he
  exact callOk_val nr1_ok hmix (run82 a) rfl rfl
 ·cases he
theorem run80t (a0 a1 a2 a3 a4 a5 a6 a7 a8 a9 a10 a11 a12 a13 a14 a15 a16 a17 a18 a19 a20 a21 a22 a23 a24 a25 a26 a27 a28 a29 a30 a31:UInt8):(run1 Tryz.prog nr2 (mask 80) 100 80 [.str [a0,a1,a2,a3,a4,a5,a6,a7,a8,a9,a10,a11,a12,a13,a14,a15,a16,a17,a18,a19,a20,a21,a22,a23,a24,a25,a26,a27,a28,a29,a30,a31]] [] Tryz.prog.globals.size).map (·.1)=some (ofP [a0,a1,a2,a3,a4,a5,a6,a7,a8,a9,a10,a11,a12,a13,a14,a15,a16,a17,a18,a19,a20,a21,a22,a23,a24,a25,a26,a27,a28,a29,a30,a31]).av:=
 ansO_run nr2_ps (P:=Tryz.prog) (cs:=nr2) (sy:=[6]) (os:=[]) (vs:=[]) (nn:=mask 80) (F:=100) (f:=80) (ob:=[bndL (wideN (partsN [a0,a1,a2,a3,a4,a5,a6,a7,a8,a9,a10,a11,a12,a13,a14,a15,a16,a17,a18,a19,a20,a21,a22,a23,a24,a25,a26,a27,a28,a29,a30,a31])).list]) (show ansO (run1O Tryz.prog (psOne 91 p91) nr2 [6] [] [] (mask 80) 100 80 [.str [a0,a1,a2,a3,a4,a5,a6,a7,a8,a9,a10,a11,a12,a13,a14,a15,a16,a17,a18,a19,a20,a21,a22,a23,a24,a25,a26,a27,a28,a29,a30,a31]] [] Tryz.prog.globals.size)=some ((ofP [a0,a1,a2,a3,a4,a5,a6,a7,a8,a9,a10,a11,a12,a13,a14,a15,a16,a17,a18,a19,a20,a21,a22,a23,a24,a25,a26,a27,a28,a29,a30,a31]).av,[bndL (wideN (partsN [a0,a1,a2,a3,a4,a5,a6,a7,a8,a9,a10,a11,a12,a13,a14,a15,a16,a17,a18,a19,a20,a21,a22,a23,a24,a25,a26,a27,a28,a29,a30,a31])).list]) from by kernel_rfl) (by rw [ofP_bnd (s:=[a0,a1,a2,a3,a4,a5,a6,a7,a8,a9,a10,a11,a12,a13,a14,a15,a16,a17,a18,a19,a20,a21,a22,a23,a24,a25,a26,a27,a28,a29,a30,a31]) rfl]; rfl)
theorem run80 (s:List UInt8) (h:isLen s 32=true):(run1 Tryz.prog nr2 (mask 80) 100 80 [.str s] [] Tryz.prog.globals.size).map (·.1)=some (ofP s).av:=by
 obtain ⟨a0,a1,a2,a3,a4,a5,a6,a7,a8,a9,a10,a11,a12,a13,a14,a15,a16,a17,a18,a19,a20,a21,a22,a23,a24,a25,a26,a27,a28,a29,a30,a31,rfl⟩:=len32 (isLen_eq.1 h)
 exact run80t a0 a1 a2 a3 a4 a5 a6 a7 a8 a9 a10 a11 a12 a13 a14 a15 a16 a17 a18 a19 a20 a21 a22 a23 a24 a25 a26 a27 a28 a29 a30 a31
def p80:List AVal→Option (EffA × Bool)
 | [.str a]=>some (.pure ((ofP a).av),isLen a 32)
 | _=>none
theorem p80_ok:CSOk Tryz.prog (csP (psOne 80 p80)):=csP_one fun args v he=>by
 unfold p80 at he
 split at he
 ·rename_i a
  simp only [Option.some.injEq,Prod.mk.injEq] at he
  obtain ⟨rfl,h⟩:=he
  exact callOk_val nr2_ok hmix (run80 a h) rfl rfl
 ·cases he
theorem run84 (a b:N16) (h:(okB a && okB b)=true):(run1 Tryz.prog nr2 (mask 84) 200 84 [a.av,b.av] [] Tryz.prog.globals.size).map (·.1)=some (addP a b).av:=by
 rw [Bool.and_eq_true,okB_iff,okB_iff] at h
 exact ansO_run nr2_ps (P:=Tryz.prog) (cs:=nr2) (sy:=[23]) (os:=[]) (vs:=[]) (nn:=mask 84) (F:=200) (f:=84) (ob:=[bndL (N32.list ⟨N16.ofL (sumL a.list b.list),zeroN⟩)]) (show ansO (run1O Tryz.prog (psOne 91 p91) nr2 [23] [] [] (mask 84) 200 84 [a.av,b.av] [] Tryz.prog.globals.size)=some ((addP a b).av,[bndL (N32.list ⟨N16.ofL (sumL a.list b.list),zeroN⟩)]) from by kernel_rfl) (by rw [(addP_bnd a b h.1 h.2).1]; rfl)
def p84:List AVal→Option (EffA × Bool)
 | [.agg [.u64 a0,.u64 a1,.u64 a2,.u64 a3,.u64 a4,.u64 a5,.u64 a6,.u64 a7,.u64 a8,.u64 a9,.u64 a10,.u64 a11,.u64 a12,.u64 a13,.u64 a14,.u64 a15],.agg [.u64 b0,.u64 b1,.u64 b2,.u64 b3,.u64 b4,.u64 b5,.u64 b6,.u64 b7,.u64 b8,.u64 b9,.u64 b10,.u64 b11,.u64 b12,.u64 b13,.u64 b14,.u64 b15]]=>some (.pure ((addP (N16.mk a0 a1 a2 a3 a4 a5 a6 a7 a8 a9 a10 a11 a12 a13 a14 a15) (N16.mk b0 b1 b2 b3 b4 b5 b6 b7 b8 b9 b10 b11 b12 b13 b14 b15)).av),okB (N16.mk a0 a1 a2 a3 a4 a5 a6 a7 a8 a9 a10 a11 a12 a13 a14 a15) && okB (N16.mk b0 b1 b2 b3 b4 b5 b6 b7 b8 b9 b10 b11 b12 b13 b14 b15))
 | _=>none
theorem p84_ok:CSOk Tryz.prog (csP (psOne 84 p84)):=csP_one fun args v he=>by
 unfold p84 at he
 split at he
 ·rename_i a0 a1 a2 a3 a4 a5 a6 a7 a8 a9 a10 a11 a12 a13 a14 a15 b0 b1 b2 b3 b4 b5 b6 b7 b8 b9 b10 b11 b12 b13 b14 b15
  simp only [Option.some.injEq,Prod.mk.injEq] at he
  obtain ⟨rfl,h⟩:=he
  exact callOk_val nr2_ok hmix (run84 (N16.mk a0 a1 a2 a3 a4 a5 a6 a7 a8 a9 a10 a11 a12 a13 a14 a15) (N16.mk b0 b1 b2 b3 b4 b5 b6 b7 b8 b9 b10 b11 b12 b13 b14 b15) h) rfl rfl
 ·cases he
theorem run50 (a b:N16) (h:(okB a && okB b)=true):(run1 Tryz.prog nr2 (mask 50) 200 50 [a.av,b.av] [] Tryz.prog.globals.size).map (·.1)=some (mulP a b).av:=by
 rw [Bool.and_eq_true,okB_iff,okB_iff] at h
 exact ansO_run nr2_ps (P:=Tryz.prog) (cs:=nr2) (sy:=[34]) (os:=[]) (vs:=[]) (nn:=mask 50) (F:=200) (f:=50) (ob:=[bndL (prodT a b).list]) (show ansO (run1O Tryz.prog (psOne 91 p91) nr2 [34] [] [] (mask 50) 200 50 [a.av,b.av] [] Tryz.prog.globals.size)=some ((mulP a b).av,[bndL (prodT a b).list]) from by kernel_rfl) (by rw [(mulP_bnd a b h.1 h.2).1]; rfl)
def p50:List AVal→Option (EffA × Bool)
 | [.agg [.u64 a0,.u64 a1,.u64 a2,.u64 a3,.u64 a4,.u64 a5,.u64 a6,.u64 a7,.u64 a8,.u64 a9,.u64 a10,.u64 a11,.u64 a12,.u64 a13,.u64 a14,.u64 a15],.agg [.u64 b0,.u64 b1,.u64 b2,.u64 b3,.u64 b4,.u64 b5,.u64 b6,.u64 b7,.u64 b8,.u64 b9,.u64 b10,.u64 b11,.u64 b12,.u64 b13,.u64 b14,.u64 b15]]=>some (.pure ((mulP (N16.mk a0 a1 a2 a3 a4 a5 a6 a7 a8 a9 a10 a11 a12 a13 a14 a15) (N16.mk b0 b1 b2 b3 b4 b5 b6 b7 b8 b9 b10 b11 b12 b13 b14 b15)).av),okB (N16.mk a0 a1 a2 a3 a4 a5 a6 a7 a8 a9 a10 a11 a12 a13 a14 a15) && okB (N16.mk b0 b1 b2 b3 b4 b5 b6 b7 b8 b9 b10 b11 b12 b13 b14 b15))
 | _=>none
theorem p50_ok:CSOk Tryz.prog (csP (psOne 50 p50)):=csP_one fun args v he=>by
 unfold p50 at he
 split at he
 ·rename_i a0 a1 a2 a3 a4 a5 a6 a7 a8 a9 a10 a11 a12 a13 a14 a15 b0 b1 b2 b3 b4 b5 b6 b7 b8 b9 b10 b11 b12 b13 b14 b15
  simp only [Option.some.injEq,Prod.mk.injEq] at he
  obtain ⟨rfl,h⟩:=he
  exact callOk_val nr2_ok hmix (run50 (N16.mk a0 a1 a2 a3 a4 a5 a6 a7 a8 a9 a10 a11 a12 a13 a14 a15) (N16.mk b0 b1 b2 b3 b4 b5 b6 b7 b8 b9 b10 b11 b12 b13 b14 b15) h) rfl rfl
 ·cases he
theorem run86 (a:N16):(run1 Tryz.prog nr2 (mask 86) 100 86 [a.av] [] Tryz.prog.globals.size).map (·.1)=some (negP a).av:=by
 cases h:isZ16 a
 ·have e:negP a=minusN primeN a:=by simp only [negP,h,cond_false]
  rw [e]
  exact ansO_run (noPS_ok _) (P:=Tryz.prog) (cs:=nr2) (sy:=[5]) (os:=[false]) (vs:=[]) (nn:=mask 86) (F:=100) (f:=86) (ob:=[!isZ16 a]) (show ansO (run1O Tryz.prog noPS nr2 [5] [false] [] (mask 86) 100 86 [a.av] [] Tryz.prog.globals.size)=some ((minusN primeN a).av,[!isZ16 a]) from by kernel_rfl) (by simp [allT,h])
 ·have e:negP a=a:=by simp only [negP,h,cond_true]
  rw [e]
  exact ansO_run (noPS_ok _) (P:=Tryz.prog) (cs:=nr2) (sy:=[5]) (os:=[true]) (vs:=[]) (nn:=mask 86) (F:=100) (f:=86) (ob:=[isZ16 a]) (show ansO (run1O Tryz.prog noPS nr2 [5] [true] [] (mask 86) 100 86 [a.av] [] Tryz.prog.globals.size)=some (a.av,[isZ16 a]) from by kernel_rfl) (by simp [allT,h])
def g86:List AVal→Option EffA
 | [.agg [.u64 a0,.u64 a1,.u64 a2,.u64 a3,.u64 a4,.u64 a5,.u64 a6,.u64 a7,.u64 a8,.u64 a9,.u64 a10,.u64 a11,.u64 a12,.u64 a13,.u64 a14,.u64 a15]]=>some (.pure (N16.av (negP (N16.mk a0 a1 a2 a3 a4 a5 a6 a7 a8 a9 a10 a11 a12 a13 a14 a15))))
 | _=>none
theorem g86_ok:CSOk Tryz.prog (csOne 86 g86):=csOne_ok fun args e he=>by
 unfold g86 at he
 split at he
 ·rename_i a0 a1 a2 a3 a4 a5 a6 a7 a8 a9 a10 a11 a12 a13 a14 a15
  cases he
  exact callOk_val nr2_ok hmix (run86 (N16.mk a0 a1 a2 a3 a4 a5 a6 a7 a8 a9 a10 a11 a12 a13 a14 a15)) rfl rfl
 ·cases he
theorem run79t (a0 a1 a2 a3 a4 a5 a6 a7 a8 a9 a10 a11 a12 a13 a14 a15 a16 a17 a18 a19 a20 a21 a22 a23 a24 a25 a26 a27 a28 a29 a30 a31:UInt8):(run1 Tryz.prog nr2 (mask 79) 100 79 [.str [a0,a1,a2,a3,a4,a5,a6,a7,a8,a9,a10,a11,a12,a13,a14,a15,a16,a17,a18,a19,a20,a21,a22,a23,a24,a25,a26,a27,a28,a29,a30,a31]] [] Tryz.prog.globals.size).map (·.1)=some (.bool (lessN (partsN [a0,a1,a2,a3,a4,a5,a6,a7,a8,a9,a10,a11,a12,a13,a14,a15,a16,a17,a18,a19,a20,a21,a22,a23,a24,a25,a26,a27,a28,a29,a30,a31]) primeN)):=by kernel_rfl
theorem run79 (s:List UInt8):(run1 Tryz.prog nr2 (mask 79) 100 79 [.str s] [] Tryz.prog.globals.size).map (·.1)=some (.bool (canonP s)):=by
 cases h:isLen s 32
 ·have e:canonP s=false:=by simp [canonP,h]
  rw [e]
  exact ansO_run (noPS_ok _) (P:=Tryz.prog) (cs:=nr2) (sy:=[5]) (os:=[false]) (vs:=[]) (nn:=mask 79) (F:=100) (f:=79) (ob:=[!((s.length:Int) == 32)]) (show ansO (run1O Tryz.prog noPS nr2 [5] [false] [] (mask 79) 100 79 [.str s] [] Tryz.prog.globals.size)=some (.bool false,[!((s.length:Int) == 32)]) from by kernel_rfl) (by simp [allT,ne32 h])
 ·have e:canonP s=lessN (partsN s) primeN:=by simp [canonP,h]
  rw [e]
  obtain ⟨a0,a1,a2,a3,a4,a5,a6,a7,a8,a9,a10,a11,a12,a13,a14,a15,a16,a17,a18,a19,a20,a21,a22,a23,a24,a25,a26,a27,a28,a29,a30,a31,rfl⟩:=len32 (isLen_eq.1 h)
  exact run79t a0 a1 a2 a3 a4 a5 a6 a7 a8 a9 a10 a11 a12 a13 a14 a15 a16 a17 a18 a19 a20 a21 a22 a23 a24 a25 a26 a27 a28 a29 a30 a31
def g79:List AVal→Option EffA
 | [.str s]=>some (.pure (.bool (canonP s)))
 | _=>none
theorem g79_ok:CSOk Tryz.prog (csOne 79 g79):=csOne_ok fun args e he=>by
 unfold g79 at he
 split at he
 ·cases he
  exact callOk_val nr2_ok hmix (run79 _) rfl rfl
 ·cases he
def np1:PS:=psAlt (psOne 84 p84) (psAlt (psOne 50 p50) (psOne 80 p80))
theorem np1_ok:CSOk Tryz.prog (csP np1):=csP_alt p84_ok (csP_alt p50_ok (p80_ok))
def nr3a:CS:=(csAlt (csOne 82 g82) (csAlt (csOne 86 g86) (csAlt (csOne 79 g79) nr2)))
theorem nr3a_ok:CSOk Tryz.prog nr3a:=(csAlt_ok g82_ok (csAlt_ok g86_ok (csAlt_ok g79_ok nr2_ok)))
def nr3:CS:=csAlt (csP np1) nr3a
theorem nr3_ok:CSOk Tryz.prog nr3:=csAlt_ok np1_ok nr3a_ok
theorem nr3_ps:PSOk np1 nr3:=csP_ok
theorem run81 (a b:N16) (h:(okB a && okB b)=true):(run1 Tryz.prog nr3 (mask 81) 200 81 [a.av,b.av] [] Tryz.prog.globals.size).map (·.1)=some (subP a b).av:=by
 rw [Bool.and_eq_true,okB_iff,okB_iff] at h
 exact ansO_run nr3_ps (P:=Tryz.prog) (cs:=nr3) (sy:=[8]) (os:=[]) (vs:=[]) (nn:=mask 81) (F:=200) (f:=81) (ob:=[okB a && okB (negP b)]) (show ansO (run1O Tryz.prog np1 nr3 [8] [] [] (mask 81) 200 81 [a.av,b.av] [] Tryz.prog.globals.size)=some ((subP a b).av,[okB a && okB (negP b)]) from by kernel_rfl) (by rw [okB_iff.2 h.1,okB_iff.2 (negP_ok b h.2)]; rfl)
def p81:List AVal→Option (EffA × Bool)
 | [.agg [.u64 a0,.u64 a1,.u64 a2,.u64 a3,.u64 a4,.u64 a5,.u64 a6,.u64 a7,.u64 a8,.u64 a9,.u64 a10,.u64 a11,.u64 a12,.u64 a13,.u64 a14,.u64 a15],.agg [.u64 b0,.u64 b1,.u64 b2,.u64 b3,.u64 b4,.u64 b5,.u64 b6,.u64 b7,.u64 b8,.u64 b9,.u64 b10,.u64 b11,.u64 b12,.u64 b13,.u64 b14,.u64 b15]]=>some (.pure ((subP (N16.mk a0 a1 a2 a3 a4 a5 a6 a7 a8 a9 a10 a11 a12 a13 a14 a15) (N16.mk b0 b1 b2 b3 b4 b5 b6 b7 b8 b9 b10 b11 b12 b13 b14 b15)).av),okB (N16.mk a0 a1 a2 a3 a4 a5 a6 a7 a8 a9 a10 a11 a12 a13 a14 a15) && okB (N16.mk b0 b1 b2 b3 b4 b5 b6 b7 b8 b9 b10 b11 b12 b13 b14 b15))
 | _=>none
theorem p81_ok:CSOk Tryz.prog (csP (psOne 81 p81)):=csP_one fun args v he=>by
 unfold p81 at he
 split at he
 ·rename_i a0 a1 a2 a3 a4 a5 a6 a7 a8 a9 a10 a11 a12 a13 a14 a15 b0 b1 b2 b3 b4 b5 b6 b7 b8 b9 b10 b11 b12 b13 b14 b15
  simp only [Option.some.injEq,Prod.mk.injEq] at he
  obtain ⟨rfl,h⟩:=he
  exact callOk_val nr3_ok hmix (run81 (N16.mk a0 a1 a2 a3 a4 a5 a6 a7 a8 a9 a10 a11 a12 a13 a14 a15) (N16.mk b0 b1 b2 b3 b4 b5 b6 b7 b8 b9 b10 b11 b12 b13 b14 b15) h) rfl rfl
 ·cases he
def Spw (a x:N16) (bits:List Bool) (ro:Bool) (i:Int):SA:=⟨[(0,a.av),(1,.slice 2 0 bits.length 1),(2,.ptr 3 0),(4,.ptr 11 0),(5,.ptr 27 0),(6,.int .i64 i)],[(2,.cells ro (bits.map .bool)),(3,.cells false a.cells),(11,.cells false zeroN.cells),(27,.cells false x.cells)],51⟩
noncomputable def ppw:List Code:=pieces (bodyOf Tryz.f89)
noncomputable def bpw:Code:=loopOf (ppw.getD 3 .skip)
theorem powA (F:Nat) (a:N16) (bits:List Bool) (ro:Bool):segO (evSO Tryz.prog np1 nr3 [] 25 (mask 89) F 3 ((ppw.drop 0).take 3) ⟨startT [a.av,.slice 2 0 bits.length 1] 0,[(2,.cells ro (bits.map .bool))],3⟩ ⟨[],[],[]⟩)=some (Spw a (smallN 1) bits ro 0,[]):=by kernel_rfl
theorem powT (F:Nat) (a x0 x:N16) (bits:List Bool) (ro:Bool) (j i:Int):roundO2 Tryz.prog np1 nr3 [11,16,19,20,23] [true,true] [.bool true] 25 (mask 89) F 3 bpw (Spw a x0 bits ro j) (Spw a x bits ro i)=some (Spw a (mulP (mulP x x) a) bits ro (IntKind.wrap .i64 (i+1)),[okB (mulP x x) && okB a,true,isAt (bits.map .bool) (0+i.toNat * 1) (.bool true),(decide ((0:Int)≤i) && decide (i < (bits.length:Int))),okB x && okB x,decide (i < (bits.length:Int))]):=by kernel_rfl
theorem pow_ok (a x:N16) (bits:List Bool) (ro:Bool) (i:Int):okS Tryz.prog (Spw a x bits ro i)=true:=by
 have hg:Tryz.prog.globals.size=2:=by kernel_rfl
 simp [okS,hg,Spw,ltT,ltH,ltV,ltS,ltL,ltL_bool,N16.av,N16.cells,nble]
theorem powN (F:Nat) (a x0 x:N16) (bits:List Bool) (ro:Bool) (j i:Int):roundO2 Tryz.prog np1 nr3 [11,16,19,20,23] [true,false] [.bool false] 25 (mask 89) F 3 bpw (Spw a x0 bits ro j) (Spw a x bits ro i)=some (Spw a (mulP x x) bits ro (IntKind.wrap .i64 (i+1)),[true,isAt (bits.map .bool) (0+i.toNat * 1) (.bool false),(decide ((0:Int)≤i) && decide (i < (bits.length:Int))),okB x && okB x,decide (i < (bits.length:Int))]):=by kernel_rfl
theorem powR (F:Nat) (a x0 x:N16) (bits:List Bool) (ro:Bool) (j:Int) (i:Nat) (b:Bool) (hx:x.ok) (ha:a.ok) (hb:bits[i]? = some b) (hl:bits.length < 100000):roundA (evC Tryz.prog nr3 25 (mask 89) F 3 bpw) (headA Tryz.prog 3 (Spw a x0 bits ro j)) (Spw a x bits ro i)=some (Spw a (cond b (mulP (mulP x x) a) (mulP x x)) bits ro ((i+1:Nat):Int)):=by
 have hi:i < bits.length:=(List.getElem?_eq_some_iff.1 hb).1
 have hw:IntKind.wrap .i64 ((i:Int)+1)=((i+1:Nat):Int):=wrapI _ (by omega) (by omega)
 have h1:=okB_iff.2 hx
 have h2:=okB_iff.2 ha
 have h3:=okB_iff.2 (mulP_val x x hx hx).1
 have hat:∀ c,b=c→isAt (bits.map AVal.bool) (0+(i:Int).toNat * 1) (.bool c)=true:=fun c hc=>by
  subst hc
  have e:0+(i:Int).toNat * 1=i:=by omega
  unfold isAt
  rw [e,List.getElem?_map,hb]
  simp [eqS]
 have d1:decide ((0:Int)≤(i:Int))=true:=by rw [decide_eq_true_iff]; omega
 have d2:decide ((i:Int) < (bits.length:Int))=true:=by rw [decide_eq_true_iff]; omega
 cases b
 ·have:=roundO2_ok nr3_ps (powN F a x0 x bits ro j i) (by rw [hat false rfl,d1,d2,h1]; rfl) (pow_ok _ _ _ _ _)
  rw [hw] at this
  exact this
 ·have:=roundO2_ok nr3_ps (powT F a x0 x bits ro j i) (by rw [hat true rfl,d1,d2,h1,h2,h3]; rfl) (pow_ok _ _ _ _ _)
  rw [hw] at this
  exact this
theorem powE (F:Nat) (a x:N16) (bits:List Bool) (ro:Bool) (i:Int):(match evT Tryz.prog np1 nr3 [11] 25 (mask 89) F 3 bpw (Spw a x bits ro i) ⟨[false],[],[]⟩ with | some (.exit 0,s1,q)=>(match evS Tryz.prog nr3 25 (mask 89) F 3 (ppw.drop 4) s1 with | some (XA.ret,s2)=>(match resA Tryz.prog s2.T s2.H Tryz.f89.results.toList with | some [v]=>some (v,aget s2.H 2,q.ob) | _=>none) | _=>none) | _=>none)=some (x.av,some (.cells ro (bits.map .bool)),[!decide (i < (bits.length:Int))]):=by kernel_rfl
def accpw (a:N16) (bits:List Bool):Nat→N16
 | 0=>smallN 1
 | j+1=>cond (bits.getD j false) (mulP (mulP (accpw a bits j) (accpw a bits j)) a) (mulP (accpw a bits j) (accpw a bits j))
theorem accpw_eq (a:N16) (bits:List Bool):∀ j,j≤bits.length→powF a (accpw a bits j) (bits.drop j)=powP a bits
 | 0,_=>rfl
 | j+1,h=>by
  have:=accpw_eq a bits j (by omega)
  have hj:j < bits.length:=by omega
  rw [← this,List.drop_eq_getElem_cons hj]
  have e:bits[j]=bits.getD j false:=by rw [List.getD_eq_getElem?_getD,List.getElem?_eq_getElem hj]; rfl
  rw [e]; rfl
theorem accpw_ok (a:N16) (ha:a.ok) (bits:List Bool):∀ j,(accpw a bits j).ok
 | 0=>(smallN_val 1).1
 | j+1=>by
  have h1:=(mulP_val _ _ (accpw_ok a ha bits j) (accpw_ok a ha bits j)).1
  show (cond (bits.getD j false) (mulP (mulP (accpw a bits j) (accpw a bits j)) a) (mulP (accpw a bits j) (accpw a bits j))).ok
  cases bits.getD j false
  ·exact h1
  ·exact (mulP_val _ _ h1 ha).1
theorem run89 (a:N16) (ha:a.ok) (bits:List Bool) (hl:bits.length < 1000) (ro:Bool):∃ r,run1 Tryz.prog nr3 (mask 89) 1000 89 [a.av,.slice 2 0 bits.length 1] [(2,.cells ro (bits.map .bool))] 3=some r∧r.1=(powP a bits).av∧aget r.2.1 2=some (.cells ro (bits.map .bool)):=by
 have hx:accpw a bits bits.length=powP a bits:=by
  have:=accpw_eq a bits bits.length (Nat.le_refl _)
  rw [List.drop_length] at this
  exact this
 have he:=powE 1000 a (powP a bits) bits ro bits.length
 split at he
 ·rename_i s1 q h1
  split at he
  ·rename_i s2 h2
   split at he
   ·rename_i v h3
    simp only [Option.some.injEq,Prod.mk.injEq] at he
    obtain ⟨rfl,e2,e3⟩:=he
    have hA:=segO_ok nr3_ps (powA 1000 a bits ro) rfl
    rw [List.drop_zero] at hA
    have hB:=evS_loop (P:=Tryz.prog) (cs:=nr3) (nt:=25) (nn:=mask 89) (F:=1000) (bs:=3) (l:=ppw) (k:=3) (id:=0) (b:=bpw) (by kernel_rfl) (fun j=>Spw a (accpw a bits j) bits ro j) bits.length (s1:=s1)
     (fun j hj=>powR 1000 a _ _ bits ro _ j (bits.getD j false) (accpw_ok a ha bits j) ha (by rw [List.getD_eq_getElem?_getD,List.getElem?_eq_getElem hj]; rfl) (by omega))
     (by
      show evC Tryz.prog nr3 25 (mask 89) 1000 3 bpw (Spw a (accpw a bits bits.length) bits ro bits.length)=_
      rw [hx]
      exact (evT_ok nr3_ps _ _ _ _ _ _ h1 (by rw [e3]; simp [allT])).1) hl
    have hev:evS Tryz.prog nr3 Tryz.f89.ntmps (mask 89) 1000 3 (pieces (bodyOf Tryz.f89)) ⟨startT [a.av,.slice 2 0 bits.length 1] 0,[(2,.cells ro (bits.map .bool))],3⟩=some (XA.ret,s2):=by
     refine Eq.trans hA (Eq.trans hB ?_)
     exact h2
    refine ⟨_,run1_of (fn:=Tryz.f89) (c:=bodyOf Tryz.f89) (by kernel_rfl) (by kernel_rfl) (by kernel_rfl) hev rfl |>.trans (by rw [h3]),rfl,e2⟩
   ·cases he
  ·cases he
 ·cases he
def gbits (a:N16) (len:Nat) (c:List AVal):Option AVal:=
 match boolsA c with
 | some l=>cond (Nat.beq l.length len && Nat.ble l.length 999) (some (powP a l).av) none
 | none=>none
def p89:List AVal→Option (EffA × Bool)
 | [.agg [.u64 a0,.u64 a1,.u64 a2,.u64 a3,.u64 a4,.u64 a5,.u64 a6,.u64 a7,.u64 a8,.u64 a9,.u64 a10,.u64 a11,.u64 a12,.u64 a13,.u64 a14,.u64 a15],.slice n 0 len 1]=>some (.read n fun ob=>match ob with | .cells _ c=>cond (ltL 0 c) (match gbits (N16.mk a0 a1 a2 a3 a4 a5 a6 a7 a8 a9 a10 a11 a12 a13 a14 a15) len c with | some v=>cond (ltV 0 v) (some v) none | none=>none) none,okB (N16.mk a0 a1 a2 a3 a4 a5 a6 a7 a8 a9 a10 a11 a12 a13 a14 a15))
 | _=>none
theorem p89_ok:CSOk Tryz.prog (csP (psOne 89 p89)):=csP_one fun args v he=>by
 unfold p89 at he
 split at he
 ·rename_i a0 a1 a2 a3 a4 a5 a6 a7 a8 a9 a10 a11 a12 a13 a14 a15 n len
  simp only [Option.some.injEq,Prod.mk.injEq] at he
  obtain ⟨rfl,h⟩:=he
  refine callOk_slice (nn:=mask 89) (F:=1000) nr3_ok hmix rfl (fun s=>rfl) fun ro c v hg hv hc => ?_
  unfold gbits at hg
  split at hg
  ·rename_i l hl
   cases hb:(Nat.beq l.length len && Nat.ble l.length 999) with
   | false=>rw [hb] at hg; cases hg
   | true =>
    rw [hb] at hg
    cases hg
    simp only [Bool.and_eq_true] at hb
    obtain rfl:=Nat.eq_of_beq_eq_true hb.1
    have:=Nat.le_of_ble_eq_true hb.2
    rw [boolsA_eq hl]
    exact run89 (N16.mk a0 a1 a2 a3 a4 a5 a6 a7 a8 a9 a10 a11 a12 a13 a14 a15) (okB_iff.1 h) l (by omega) ro
  ·cases hg
 ·cases he
def np2:PS:=psAlt (psOne 81 p81) (psAlt (psOne 89 p89) (psAlt (psOne 84 p84) (psAlt (psOne 50 p50) (psOne 80 p80))))
theorem np2_ok:CSOk Tryz.prog (csP np2):=csP_alt p81_ok (csP_alt p89_ok (csP_alt p84_ok (csP_alt p50_ok (p80_ok))))
theorem run90_255:newR (run1 Tryz.prog nr1 (mask 90) 300 90 [.int .i64 255,.int .i64 21] [] Tryz.prog.globals.size)=some (18,255,1,(bitsL 255 21).map .bool):=by kernel_rfl
theorem run90_252:newR (run1 Tryz.prog nr1 (mask 90) 300 90 [.int .i64 252,.int .i64 2] [] Tryz.prog.globals.size)=some (18,252,1,(bitsL 252 2).map .bool):=by kernel_rfl
theorem run90_253:newR (run1 Tryz.prog nr1 (mask 90) 300 90 [.int .i64 253,.int .i64 5] [] Tryz.prog.globals.size)=some (18,253,1,(bitsL 253 5).map .bool):=by kernel_rfl
def g90:List AVal→Option EffA
 | [.int .i64 (.ofNat n),.int .i64 (.ofNat k)]=>cond (Nat.beq n 255 && Nat.beq k 21) (some (.alloc (.cells false ((bitsL 255 21).map .bool)) fun b=>.slice b 0 255 1)) (cond (Nat.beq n 252 && Nat.beq k 2) (some (.alloc (.cells false ((bitsL 252 2).map .bool)) fun b=>.slice b 0 252 1)) (cond (Nat.beq n 253 && Nat.beq k 5) (some (.alloc (.cells false ((bitsL 253 5).map .bool)) fun b=>.slice b 0 253 1)) none))
 | _=>none
theorem g90_ok:CSOk Tryz.prog (csOne 90 g90):=csOne_ok fun args e he=>by
 unfold g90 at he
 split at he
 ·rename_i n k
  cases h1:(Nat.beq n 255 && Nat.beq k 21) with
  | true =>
   rw [h1] at he
   cases he
   simp only [Bool.and_eq_true] at h1
   rw [Nat.eq_of_beq_eq_true h1.1,Nat.eq_of_beq_eq_true h1.2]
   exact callOk_new2 nr1_ok hmix rfl run90_255 (ltL_bool 0 _) (by kernel_rfl)
  | false =>
   rw [h1] at he
   cases h2:(Nat.beq n 252 && Nat.beq k 2) with
   | true =>
    rw [h2] at he
    cases he
    simp only [Bool.and_eq_true] at h2
    rw [Nat.eq_of_beq_eq_true h2.1,Nat.eq_of_beq_eq_true h2.2]
    exact callOk_new2 nr1_ok hmix rfl run90_252 (ltL_bool 0 _) (by kernel_rfl)
   | false =>
    rw [h2] at he
    cases h3:(Nat.beq n 253 && Nat.beq k 5) with
    | true =>
     rw [h3] at he
     cases he
     simp only [Bool.and_eq_true] at h3
     rw [Nat.eq_of_beq_eq_true h3.1,Nat.eq_of_beq_eq_true h3.2]
     exact callOk_new2 nr1_ok hmix rfl run90_253 (ltL_bool 0 _) (by kernel_rfl)
    | false=>rw [h3] at he; cases he
 ·cases he
def nr3b:CS:=(csAlt (csOne 90 g90) nr3a)
theorem nr3b_ok:CSOk Tryz.prog nr3b:=(csAlt_ok g90_ok nr3a_ok)
def nr4:CS:=csAlt (csP np2) nr3b
theorem nr4_ok:CSOk Tryz.prog nr4:=csAlt_ok np2_ok nr3b_ok
theorem nr4_ps:PSOk np2 nr4:=csP_ok
end Go.Proofs.YtcjkbimdmcfppaaGreatDoor
namespace Go.Proofs.YtcjkbimdmcfppaaGreatDoor
open Go Go.Eng Go.Num
theorem run49 (a:N16) (h:okB a=true):(run1 Tryz.prog nr4 (mask 49) 300 49 [a.av] [] Tryz.prog.globals.size).map (·.1)=some (invP a).av:=
 ansO_run nr4_ps (P:=Tryz.prog) (cs:=nr4) (sy:=[5]) (os:=[]) (vs:=[]) (nn:=mask 49) (F:=300) (f:=49) (ob:=[okB a]) (show ansO (run1O Tryz.prog np2 nr4 [5] [] [] (mask 49) 300 49 [a.av] [] Tryz.prog.globals.size)=some ((invP a).av,[okB a]) from by kernel_rfl) (by rw [h]; rfl)
def p49:List AVal→Option (EffA × Bool)
 | [.agg [.u64 a0,.u64 a1,.u64 a2,.u64 a3,.u64 a4,.u64 a5,.u64 a6,.u64 a7,.u64 a8,.u64 a9,.u64 a10,.u64 a11,.u64 a12,.u64 a13,.u64 a14,.u64 a15]]=>some (.pure ((invP (N16.mk a0 a1 a2 a3 a4 a5 a6 a7 a8 a9 a10 a11 a12 a13 a14 a15)).av),okB (N16.mk a0 a1 a2 a3 a4 a5 a6 a7 a8 a9 a10 a11 a12 a13 a14 a15))
 | _=>none
theorem p49_ok:CSOk Tryz.prog (csP (psOne 49 p49)):=csP_one fun args v he=>by
 unfold p49 at he
 split at he
 ·rename_i a0 a1 a2 a3 a4 a5 a6 a7 a8 a9 a10 a11 a12 a13 a14 a15
  simp only [Option.some.injEq,Prod.mk.injEq] at he
  obtain ⟨rfl,h⟩:=he
  exact callOk_val nr4_ok hmix (run49 (N16.mk a0 a1 a2 a3 a4 a5 a6 a7 a8 a9 a10 a11 a12 a13 a14 a15) h) rfl rfl
 ·cases he
end Go.Proofs.YtcjkbimdmcfppaaGreatDoor
namespace Go.Proofs.YtcjkbimdmcfppaaGreatDoor
open Go Go.Eng Go.Num
def Tr (a c:N16):SA:=⟨[(0,a.av),(1,.ptr 2 0),(2,.ptr 10 0),(3,.bool false),(4,.ptr 50 0)],[(2,.cells false a.cells),(10,.cells false zeroN.cells),(34,.cells false ((bitsL 252 2).map .bool)),(50,.cells false c.cells)],66⟩
def Tr2f (a c:N16):SA:=⟨[(0,a.av),(1,.ptr 2 0),(2,.ptr 10 0),(3,.bool false),(4,.ptr 50 0),(12,.bool false)],[(2,.cells false a.cells),(10,.cells false zeroN.cells),(34,.cells false ((bitsL 252 2).map .bool)),(50,.cells false c.cells)],106⟩
def Tr2t (a c:N16):SA:=⟨[(0,a.av),(1,.ptr 2 0),(2,.ptr 10 0),(3,.bool false),(4,.ptr 50 0),(12,.bool true)],[(2,.cells false a.cells),(10,.cells false zeroN.cells),(34,.cells false ((bitsL 252 2).map .bool)),(50,.cells false c.cells),(122,.cells false ((bitsL 253 5).map .bool))],154⟩
noncomputable def prt:List Code:=pieces (bodyOf Tryz.f85)
theorem rtA (a:N16):segO (evSO Tryz.prog np2 nr4 [7] 31 (mask 85) 100 Tryz.prog.globals.size ((prt.drop 0).take 2) ⟨startT [a.av] 0,[],Tryz.prog.globals.size⟩ ⟨[],[],[]⟩)=some (Tr a (root0P a),[okB a]):=by kernel_rfl
theorem rtBf (a c:N16):segO (evSO Tryz.prog np2 nr4 [10,12] 31 (mask 85) 100 Tryz.prog.globals.size ((prt.drop 2).take 2) (Tr a c) ⟨[false],[],[]⟩)=some (Tr2f a c,[!(!(samP (mulP c c) a)),okB c && okB c]):=by kernel_rfl
theorem rtBt (a c:N16):segO (evSO Tryz.prog np2 nr4 [10,12,16,17] 31 (mask 85) 100 Tryz.prog.globals.size ((prt.drop 2).take 2) (Tr a c) ⟨[true],[],[]⟩)=some (Tr2t a (mulP c (etaN iN)),[okB c && okB (etaN iN),okB (smallN 2),!(samP (mulP c c) a),okB c && okB c]):=by kernel_rfl
theorem rtCfn (a c:N16):ansF Tryz.prog Tryz.f85 (evSO Tryz.prog np2 nr4 [20,22,27] 31 (mask 85) 100 Tryz.prog.globals.size (prt.drop 4) (Tr2f a c) ⟨[true],[],[]⟩)=some (.tup [zeroN.av,.bool false],[!(samP (mulP c c) a),okB c && okB c]):=by kernel_rfl
theorem rtCff (a c:N16):ansF Tryz.prog Tryz.f85 (evSO Tryz.prog np2 nr4 [20,22,27] 31 (mask 85) 100 Tryz.prog.globals.size (prt.drop 4) (Tr2f a c) ⟨[false,false],[],[]⟩)=some (.tup [c.av,.bool true],[!(oddP c),!(!(samP (mulP c c) a)),okB c && okB c]):=by kernel_rfl
theorem rtCft (a c:N16):ansF Tryz.prog Tryz.f85 (evSO Tryz.prog np2 nr4 [20,22,27] 31 (mask 85) 100 Tryz.prog.globals.size (prt.drop 4) (Tr2f a c) ⟨[false,true],[],[]⟩)=some (.tup [(negP c).av,.bool true],[oddP c,!(!(samP (mulP c c) a)),okB c && okB c]):=by kernel_rfl
theorem rtCf (a c:N16) (hc:okB c=true):finV Tryz.prog Tryz.f85 (evS Tryz.prog nr4 31 (mask 85) 100 Tryz.prog.globals.size (prt.drop 4) (Tr2f a c))=some (.tup [(cond (samP (mulP c c) a) (cond (oddP c) (negP c) c) zeroN).av,.bool (samP (mulP c c) a)]):=by
 cases h2:samP (mulP c c) a
 ·exact ansF_ok nr4_ps (rtCfn a c) (by simp [allT,h2,hc])
 ·cases h3:oddP c
  ·exact ansF_ok nr4_ps (rtCff a c) (by simp [allT,h2,h3,hc])
  ·exact ansF_ok nr4_ps (rtCft a c) (by simp [allT,h2,h3,hc])
theorem rtCtn (a c:N16):ansF Tryz.prog Tryz.f85 (evSO Tryz.prog np2 nr4 [20,22,27] 31 (mask 85) 100 Tryz.prog.globals.size (prt.drop 4) (Tr2t a c) ⟨[true],[],[]⟩)=some (.tup [zeroN.av,.bool false],[!(samP (mulP c c) a),okB c && okB c]):=by kernel_rfl
theorem rtCtf (a c:N16):ansF Tryz.prog Tryz.f85 (evSO Tryz.prog np2 nr4 [20,22,27] 31 (mask 85) 100 Tryz.prog.globals.size (prt.drop 4) (Tr2t a c) ⟨[false,false],[],[]⟩)=some (.tup [c.av,.bool true],[!(oddP c),!(!(samP (mulP c c) a)),okB c && okB c]):=by kernel_rfl
theorem rtCtt (a c:N16):ansF Tryz.prog Tryz.f85 (evSO Tryz.prog np2 nr4 [20,22,27] 31 (mask 85) 100 Tryz.prog.globals.size (prt.drop 4) (Tr2t a c) ⟨[false,true],[],[]⟩)=some (.tup [(negP c).av,.bool true],[oddP c,!(!(samP (mulP c c) a)),okB c && okB c]):=by kernel_rfl
theorem rtCt (a c:N16) (hc:okB c=true):finV Tryz.prog Tryz.f85 (evS Tryz.prog nr4 31 (mask 85) 100 Tryz.prog.globals.size (prt.drop 4) (Tr2t a c))=some (.tup [(cond (samP (mulP c c) a) (cond (oddP c) (negP c) c) zeroN).av,.bool (samP (mulP c c) a)]):=by
 cases h2:samP (mulP c c) a
 ·exact ansF_ok nr4_ps (rtCtn a c) (by simp [allT,h2,hc])
 ·cases h3:oddP c
  ·exact ansF_ok nr4_ps (rtCtf a c) (by simp [allT,h2,h3,hc])
  ·exact ansF_ok nr4_ps (rtCtt a c) (by simp [allT,h2,h3,hc])
theorem rt_i:iN.ok:=powP_ok _ (smallN_val 2).1 _
theorem rt_j:(etaN iN).ok:=by rw [etaN_eq]; exact rt_i
theorem rtD1 (a c:N16) (hr:okB c=true) (h1:samP (mulP c c) a=false):evS Tryz.prog nr4 31 (mask 85) 100 Tryz.prog.globals.size (prt.drop 2) (Tr a c)=evS Tryz.prog nr4 31 (mask 85) 100 Tryz.prog.globals.size (prt.drop 4) (Tr2t a (mulP c (etaN iN))):=
 segO_ok nr4_ps (rtBt a c) (by rw [hr,okB_iff.2 rt_j,okB_iff.2 (smallN_val 2).1,h1]; rfl)
theorem rtD2 (a c:N16) (hr:okB c=true) (h1:samP (mulP c c) a=true):evS Tryz.prog nr4 31 (mask 85) 100 Tryz.prog.globals.size (prt.drop 2) (Tr a c)=evS Tryz.prog nr4 31 (mask 85) 100 Tryz.prog.globals.size (prt.drop 4) (Tr2f a c):=
 segO_ok nr4_ps (rtBf a c) (by rw [hr,h1]; rfl)
theorem rt_cond (a c:N16) (h:root1P a=c):rootP a=cond (samP (mulP c c) a) (cond (oddP c) (negP c) c) zeroN∧hasP a=samP (mulP c c) a:=by
 subst h
 exact ⟨rfl,rfl⟩
theorem rt_one (a c j:N16) (hc:root0P a=c) (hj:iN=j):root1P a=cond (samP (mulP c c) a) c (mulP c j):=by
 unfold root1P
 rw [hc,hj]
theorem rtE (a c j:N16) (hc:root0P a=c) (hj:iN=j) (ho:okB c=true) (hjo:j.ok) (hD1:samP (mulP c c) a=false→evS Tryz.prog nr4 31 (mask 85) 100 Tryz.prog.globals.size (prt.drop 2) (Tr a c)=evS Tryz.prog nr4 31 (mask 85) 100 Tryz.prog.globals.size (prt.drop 4) (Tr2t a (mulP c j))) :
  finV Tryz.prog Tryz.f85 (evS Tryz.prog nr4 31 (mask 85) 100 Tryz.prog.globals.size (prt.drop 2) (Tr a c))=some (.tup [(rootP a).av,.bool (hasP a)]):=by
 have h0:=rt_one a c j hc hj
 cases h1:samP (mulP c c) a
 ·rw [h1,cond_false] at h0
  obtain ⟨e1,e2⟩:=rt_cond a _ h0
  rw [hD1 h1,e1,e2]
  exact rtCt a _ (okB_iff.2 (mulP_val _ _ (okB_iff.1 ho) hjo).1)
 ·rw [h1,cond_true] at h0
  obtain ⟨e1,e2⟩:=rt_cond a _ h0
  rw [rtD2 a c ho h1,e1,e2]
  exact rtCf a _ ho
theorem run85 (a:N16) (h:okB a=true):(run1 Tryz.prog nr4 (mask 85) 100 85 [a.av] [] Tryz.prog.globals.size).map (·.1)=some (.tup [(rootP a).av,.bool (hasP a)]):=by
 rw [run1_val (fn:=Tryz.f85) (c:=bodyOf Tryz.f85) (by kernel_rfl) (by kernel_rfl) (by kernel_rfl)]
 have hA:=segO_ok nr4_ps (rtA a) (by rw [h]; rfl)
 rw [List.drop_zero] at hA
 refine (congrArg (finV Tryz.prog Tryz.f85) hA).trans ?_
 exact rtE a (root0P a) (etaN iN) rfl (etaN_eq iN).symm (okB_iff.2 (powP_ok _ (okB_iff.1 h) _)) rt_j (rtD1 a (root0P a) (okB_iff.2 (powP_ok _ (okB_iff.1 h) _)))
def p85:List AVal→Option (EffA × Bool)
 | [.agg [.u64 a0,.u64 a1,.u64 a2,.u64 a3,.u64 a4,.u64 a5,.u64 a6,.u64 a7,.u64 a8,.u64 a9,.u64 a10,.u64 a11,.u64 a12,.u64 a13,.u64 a14,.u64 a15]]=>some (.pure (.tup [(rootP (N16.mk a0 a1 a2 a3 a4 a5 a6 a7 a8 a9 a10 a11 a12 a13 a14 a15)).av,.bool (hasP (N16.mk a0 a1 a2 a3 a4 a5 a6 a7 a8 a9 a10 a11 a12 a13 a14 a15))]),okB (N16.mk a0 a1 a2 a3 a4 a5 a6 a7 a8 a9 a10 a11 a12 a13 a14 a15))
 | _=>none
theorem p85_ok:CSOk Tryz.prog (csP (psOne 85 p85)):=csP_one fun args v he=>by
 unfold p85 at he
 split at he
 ·rename_i a0 a1 a2 a3 a4 a5 a6 a7 a8 a9 a10 a11 a12 a13 a14 a15
  simp only [Option.some.injEq,Prod.mk.injEq] at he
  obtain ⟨rfl,h⟩:=he
  exact callOk_val nr4_ok hmix (run85 (N16.mk a0 a1 a2 a3 a4 a5 a6 a7 a8 a9 a10 a11 a12 a13 a14 a15) h) rfl rfl
 ·cases he
end Go.Proofs.YtcjkbimdmcfppaaGreatDoor
namespace Go.Proofs.YtcjkbimdmcfppaaGreatDoor
open Go Go.Eng Go.Num
theorem run105 (a:W4) (b:W4):(run1 Tryz.prog cs0 (mask 105) 100 105 [(W4.av a),(W4.av b)] [] Tryz.prog.globals.size).map (·.1)=some (.tup [(W4.av (minusW a b)),.bool (belowW a b)]):=by kernel_rfl
def g105:List AVal→Option EffA
 | [.agg [.u64 a0,.u64 a1,.u64 a2,.u64 a3],.agg [.u64 b0,.u64 b1,.u64 b2,.u64 b3]]=>some (.pure (.tup [(W4.av (minusW (W4.mk a0 a1 a2 a3) (W4.mk b0 b1 b2 b3))),.bool (belowW (W4.mk a0 a1 a2 a3) (W4.mk b0 b1 b2 b3))]))
 | _=>none
theorem g105_ok:CSOk Tryz.prog (csOne 105 g105):=csOne_ok fun args e he=>by
 unfold g105 at he
 split at he
 ·rename_i a0 a1 a2 a3 b0 b1 b2 b3
  cases he
  exact callOk_val cs0_ok hmix (run105 (W4.mk a0 a1 a2 a3) (W4.mk b0 b1 b2 b3)) rfl rfl
 ·cases he
theorem run106  : (run1 Tryz.prog cs0 (mask 106) 100 106 [] [] Tryz.prog.globals.size).map (·.1)=some (W4.av orderW):=by kernel_rfl
def g106:List AVal→Option EffA
 | []=>some (.pure (W4.av orderW))
 | _=>none
theorem g106_ok:CSOk Tryz.prog (csOne 106 g106):=csOne_ok fun args e he=>by
 unfold g106 at he
 split at he
 ·skip
  cases he
  exact callOk_val cs0_ok hmix (run106 ) rfl rfl
 ·cases he
def cs1:CS:=(csAlt (csOne 105 g105) (csOne 106 g106))
theorem cs1_ok:CSOk Tryz.prog cs1:=(csAlt_ok g105_ok g106_ok)
end Go.Proofs.YtcjkbimdmcfppaaGreatDoor
namespace Go.Proofs.YtcjkbimdmcfppaaGreatDoor
open Go Go.Eng Go.Num
theorem run62 (a:W4):(run1 Tryz.prog cs1 (mask 62) 100 62 [a.av] [] Tryz.prog.globals.size).map (·.1)=some (lessW a).av:=by
 cases h:belowW a orderW
 ·have e:lessW a=minusW a orderW:=by simp [lessW,h]
  rw [e]
  exact ansO_run (noPS_ok _) (P:=Tryz.prog) (cs:=cs1) (sy:=[10]) (os:=[false]) (vs:=[]) (nn:=mask 62) (F:=100) (f:=62) (ob:=[!(belowW a orderW)]) (show ansO (run1O Tryz.prog noPS cs1 [10] [false] [] (mask 62) 100 62 [a.av] [] Tryz.prog.globals.size)=some ((minusW a orderW).av,[!(belowW a orderW)]) from by kernel_rfl) (by simp [allT,h])
 ·have e:lessW a=a:=by simp [lessW,h]
  rw [e]
  exact ansO_run (noPS_ok _) (P:=Tryz.prog) (cs:=cs1) (sy:=[10]) (os:=[true]) (vs:=[]) (nn:=mask 62) (F:=100) (f:=62) (ob:=[belowW a orderW]) (show ansO (run1O Tryz.prog noPS cs1 [10] [true] [] (mask 62) 100 62 [a.av] [] Tryz.prog.globals.size)=some (a.av,[belowW a orderW]) from by kernel_rfl) (by simp [allT,h])
def g62:List AVal→Option EffA
 | [.agg [.u64 a0,.u64 a1,.u64 a2,.u64 a3]]=>some (.pure (W4.av (lessW (W4.mk a0 a1 a2 a3))))
 | _=>none
theorem g62_ok:CSOk Tryz.prog (csOne 62 g62):=csOne_ok fun args e he=>by
 unfold g62 at he
 split at he
 ·rename_i a0 a1 a2 a3
  cases he
  exact callOk_val cs1_ok hmix (run62 (W4.mk a0 a1 a2 a3)) rfl rfl
 ·cases he
def cs2:CS:=(csAlt (csOne 62 g62) cs1)
theorem cs2_ok:CSOk Tryz.prog cs2:=(csAlt_ok g62_ok cs1_ok)
theorem run107 (a:W4) (b:UInt8):(run1 Tryz.prog cs2 (mask 107) 100 107 [(W4.av a),(.u8 b)] [] Tryz.prog.globals.size).map (·.1)=some (W4.av (byteW a b)):=by kernel_rfl
def g107:List AVal→Option EffA
 | [.agg [.u64 a0,.u64 a1,.u64 a2,.u64 a3],.u8 b]=>some (.pure (W4.av (byteW (W4.mk a0 a1 a2 a3) b)))
 | _=>none
theorem g107_ok:CSOk Tryz.prog (csOne 107 g107):=csOne_ok fun args e he=>by
 unfold g107 at he
 split at he
 ·rename_i a0 a1 a2 a3 b
  cases he
  exact callOk_val cs2_ok hmix (run107 (W4.mk a0 a1 a2 a3) b) rfl rfl
 ·cases he
theorem run23 (a:W4) (b:W4):(run1 Tryz.prog cs2 (mask 23) 100 23 [(W4.av a),(W4.av b)] [] Tryz.prog.globals.size).map (·.1)=some (W4.av (addW a b)):=by kernel_rfl
def g23:List AVal→Option EffA
 | [.agg [.u64 a0,.u64 a1,.u64 a2,.u64 a3],.agg [.u64 b0,.u64 b1,.u64 b2,.u64 b3]]=>some (.pure (W4.av (addW (W4.mk a0 a1 a2 a3) (W4.mk b0 b1 b2 b3))))
 | _=>none
theorem g23_ok:CSOk Tryz.prog (csOne 23 g23):=csOne_ok fun args e he=>by
 unfold g23 at he
 split at he
 ·rename_i a0 a1 a2 a3 b0 b1 b2 b3
  cases he
  exact callOk_val cs2_ok hmix (run23 (W4.mk a0 a1 a2 a3) (W4.mk b0 b1 b2 b3)) rfl rfl
 ·cases he
end Go.Proofs.YtcjkbimdmcfppaaGreatDoor
namespace Go.Proofs.YtcjkbimdmcfppaaGreatDoor
open Go Go.Eng Go.Num
def cs3:CS:=(csAlt (csOne 107 g107) (csAlt (csOne 23 g23) cs2))
theorem cs3_ok:CSOk Tryz.prog cs3:=(csAlt_ok g107_ok (csAlt_ok g23_ok cs2_ok))
noncomputable def cs3i:CS:=inlW Tryz.prog mask 200 cs3 3
theorem cs3i_ok:CSOk Tryz.prog cs3i:=inlW_ok hmix cs3_ok 3
theorem runOf32 (a0 a1 a2 a3 a4 a5 a6 a7 a8 a9 a10 a11 a12 a13 a14 a15 a16 a17 a18 a19 a20 a21 a22 a23 a24 a25 a26 a27 a28 a29 a30 a31:UInt8):(run1 Tryz.prog cs3i (mask 33) 200 33 [.str [a0,a1,a2,a3,a4,a5,a6,a7,a8,a9,a10,a11,a12,a13,a14,a15,a16,a17,a18,a19,a20,a21,a22,a23,a24,a25,a26,a27,a28,a29,a30,a31]] [] Tryz.prog.globals.size).map (·.1)=some (.tup [(ofW [a0,a1,a2,a3,a4,a5,a6,a7,a8,a9,a10,a11,a12,a13,a14,a15,a16,a17,a18,a19,a20,a21,a22,a23,a24,a25,a26,a27,a28,a29,a30,a31]).av,.int .i64 0]):=by kernel_rfl
theorem runOf64 (a0 a1 a2 a3 a4 a5 a6 a7 a8 a9 a10 a11 a12 a13 a14 a15 a16 a17 a18 a19 a20 a21 a22 a23 a24 a25 a26 a27 a28 a29 a30 a31 b0 b1 b2 b3 b4 b5 b6 b7 b8 b9 b10 b11 b12 b13 b14 b15 b16 b17 b18 b19 b20 b21 b22 b23 b24 b25 b26 b27 b28 b29 b30 b31:UInt8):(run1 Tryz.prog cs3i (mask 33) 200 33 [.str ([a0,a1,a2,a3,a4,a5,a6,a7,a8,a9,a10,a11,a12,a13,a14,a15,a16,a17,a18,a19,a20,a21,a22,a23,a24,a25,a26,a27,a28,a29,a30,a31]++[b0,b1,b2,b3,b4,b5,b6,b7,b8,b9,b10,b11,b12,b13,b14,b15,b16,b17,b18,b19,b20,b21,b22,b23,b24,b25,b26,b27,b28,b29,b30,b31])] [] Tryz.prog.globals.size).map (·.1)=some (.tup [(ofW ([a0,a1,a2,a3,a4,a5,a6,a7,a8,a9,a10,a11,a12,a13,a14,a15,a16,a17,a18,a19,a20,a21,a22,a23,a24,a25,a26,a27,a28,a29,a30,a31]++[b0,b1,b2,b3,b4,b5,b6,b7,b8,b9,b10,b11,b12,b13,b14,b15,b16,b17,b18,b19,b20,b21,b22,b23,b24,b25,b26,b27,b28,b29,b30,b31])).av,.int .i64 0]):=by kernel_rfl
end Go.Proofs.YtcjkbimdmcfppaaGreatDoor
namespace Go.Proofs.YtcjkbimdmcfppaaGreatDoor
open Go Go.Eng Go.Num
theorem run33 (s:List UInt8):(run1 Tryz.prog cs3i (mask 33) 200 33 [.str s] [] Tryz.prog.globals.size).map (·.1)=some (.tup [(oV s).av,.int .i64 (oE s)]):=by
 cases h1:isLen s 32
 ·cases h2:isLen s 64
  ·have e1:oV s=zeroW:=by simp only [oV,okL_eq,h1,h2,Bool.or_self,cond_false]
   have e2:oE s=2:=by simp only [oE,okL_eq,h1,h2,Bool.or_self,cond_false]
   rw [e1,e2]
   exact ansO_run (noPS_ok _) (P:=Tryz.prog) (cs:=cs3i) (sy:=[6,10]) (os:=[true,true]) (vs:=[]) (nn:=mask 33) (F:=200) (f:=33) (ob:=[((s.length:Int) != 64),((s.length:Int) != 32)]) (show ansO (run1O Tryz.prog noPS cs3i [6,10] [true,true] [] (mask 33) 200 33 [.str s] [] Tryz.prog.globals.size)=some (.tup [zeroW.av,.int .i64 2],[((s.length:Int) != 64),((s.length:Int) != 32)]) from by kernel_rfl) (by simp [allT,ne32 h1,ne64 h2])
  ·have e1:oV s=ofW s:=by simp only [oV,okL_eq,h1,h2,Bool.false_or,cond_true]
   have e2:oE s=0:=by simp only [oE,okL_eq,h1,h2,Bool.false_or,cond_true]
   rw [e1,e2]
   obtain ⟨a,b,rfl,ha,hb⟩:=len64 (isLen_eq.1 h2)
   obtain ⟨a0,a1,a2,a3,a4,a5,a6,a7,a8,a9,a10,a11,a12,a13,a14,a15,a16,a17,a18,a19,a20,a21,a22,a23,a24,a25,a26,a27,a28,a29,a30,a31,rfl⟩:=len32 ha
   obtain ⟨b0,b1,b2,b3,b4,b5,b6,b7,b8,b9,b10,b11,b12,b13,b14,b15,b16,b17,b18,b19,b20,b21,b22,b23,b24,b25,b26,b27,b28,b29,b30,b31,rfl⟩:=len32 hb
   exact runOf64 a0 a1 a2 a3 a4 a5 a6 a7 a8 a9 a10 a11 a12 a13 a14 a15 a16 a17 a18 a19 a20 a21 a22 a23 a24 a25 a26 a27 a28 a29 a30 a31 b0 b1 b2 b3 b4 b5 b6 b7 b8 b9 b10 b11 b12 b13 b14 b15 b16 b17 b18 b19 b20 b21 b22 b23 b24 b25 b26 b27 b28 b29 b30 b31
 ·have e1:oV s=ofW s:=by simp only [oV,okL_eq,h1,Bool.true_or,cond_true]
  have e2:oE s=0:=by simp only [oE,okL_eq,h1,Bool.true_or,cond_true]
  rw [e1,e2]
  obtain ⟨a0,a1,a2,a3,a4,a5,a6,a7,a8,a9,a10,a11,a12,a13,a14,a15,a16,a17,a18,a19,a20,a21,a22,a23,a24,a25,a26,a27,a28,a29,a30,a31,rfl⟩:=len32 (isLen_eq.1 h1)
  exact runOf32 a0 a1 a2 a3 a4 a5 a6 a7 a8 a9 a10 a11 a12 a13 a14 a15 a16 a17 a18 a19 a20 a21 a22 a23 a24 a25 a26 a27 a28 a29 a30 a31
def g33:List AVal→Option EffA
 | [.str a]=>some (.pure (.tup [(W4.av (oV a)),.int .i64 (oE a)]))
 | _=>none
theorem g33_ok:CSOk Tryz.prog (csOne 33 g33):=csOne_ok fun args e he=>by
 unfold g33 at he
 split at he
 ·rename_i a
  cases he
  exact callOk_val cs3i_ok hmix (run33 a) rfl rfl
 ·cases he
theorem run25 (a:W4):(run1 Tryz.prog cs3 (mask 25) 100 25 [(W4.av a)] [] Tryz.prog.globals.size).map (·.1)=some (.str (bytesW a)):=by kernel_rfl
def g25:List AVal→Option EffA
 | [.agg [.u64 a0,.u64 a1,.u64 a2,.u64 a3]]=>some (.pure (.str (bytesW (W4.mk a0 a1 a2 a3))))
 | _=>none
theorem g25_ok:CSOk Tryz.prog (csOne 25 g25):=csOne_ok fun args e he=>by
 unfold g25 at he
 split at he
 ·rename_i a0 a1 a2 a3
  cases he
  exact callOk_val cs3_ok hmix (run25 (W4.mk a0 a1 a2 a3)) rfl rfl
 ·cases he
theorem run42t (a0 a1 a2 a3 a4 a5 a6 a7 a8 a9 a10 a11 a12 a13 a14 a15 a16 a17 a18 a19 a20 a21 a22 a23 a24 a25 a26 a27 a28 a29 a30 a31:UInt8):(run1 Tryz.prog cs3 (mask 42) 100 42 [.str [a0,a1,a2,a3,a4,a5,a6,a7,a8,a9,a10,a11,a12,a13,a14,a15,a16,a17,a18,a19,a20,a21,a22,a23,a24,a25,a26,a27,a28,a29,a30,a31]] [] Tryz.prog.globals.size).map (·.1)=some (.tup [.str (clampL [a0,a1,a2,a3,a4,a5,a6,a7,a8,a9,a10,a11,a12,a13,a14,a15,a16,a17,a18,a19,a20,a21,a22,a23,a24,a25,a26,a27,a28,a29,a30,a31]),.int .i64 0]):=by kernel_rfl
theorem run42 (s:List UInt8):(run1 Tryz.prog cs3 (mask 42) 100 42 [.str s] [] Tryz.prog.globals.size).map (·.1)=some (.tup [.str (clampV s),.int .i64 (clampE s)]):=by
 cases h:isLen s 32
 ·have e1:clampV s=[]:=by simp only [clampV,h,cond_false]
  have e2:clampE s=2:=by simp only [clampE,h,cond_false]
  rw [e1,e2]
  exact ansO_run (noPS_ok _) (P:=Tryz.prog) (cs:=cs3) (sy:=[7]) (os:=[true]) (vs:=[]) (nn:=mask 42) (F:=100) (f:=42) (ob:=[((s.length:Int) != 32)]) (show ansO (run1O Tryz.prog noPS cs3 [7] [true] [] (mask 42) 100 42 [.str s] [] Tryz.prog.globals.size)=some (.tup [.str [],.int .i64 2],[((s.length:Int) != 32)]) from by kernel_rfl) (by simp [allT,ne32 h])
 ·have e1:clampV s=clampL s:=by simp only [clampV,h,cond_true]
  have e2:clampE s=0:=by simp only [clampE,h,cond_true]
  rw [e1,e2]
  obtain ⟨a0,a1,a2,a3,a4,a5,a6,a7,a8,a9,a10,a11,a12,a13,a14,a15,a16,a17,a18,a19,a20,a21,a22,a23,a24,a25,a26,a27,a28,a29,a30,a31,rfl⟩:=len32 (isLen_eq.1 h)
  exact run42t a0 a1 a2 a3 a4 a5 a6 a7 a8 a9 a10 a11 a12 a13 a14 a15 a16 a17 a18 a19 a20 a21 a22 a23 a24 a25 a26 a27 a28 a29 a30 a31
def g42:List AVal→Option EffA
 | [.str a]=>some (.pure (.tup [.str (clampV a),.int .i64 (clampE a)]))
 | _=>none
theorem g42_ok:CSOk Tryz.prog (csOne 42 g42):=csOne_ok fun args e he=>by
 unfold g42 at he
 split at he
 ·rename_i a
  cases he
  exact callOk_val cs3_ok hmix (run42 a) rfl rfl
 ·cases he
def cs4:CS:=(csAlt (csOne 33 g33) (csAlt (csOne 25 g25) (csAlt (csOne 42 g42) cs3)))
theorem cs4_ok:CSOk Tryz.prog cs4:=(csAlt_ok g33_ok (csAlt_ok g25_ok (csAlt_ok g42_ok cs3_ok)))
theorem run30 (s:List UInt8):(run1 Tryz.prog cs4 (mask 30) 100 30 [.str s] [] Tryz.prog.globals.size).map (·.1)=some (.bool (canonW s)):=by
 cases h:(oE s == 0)
 ·have e:canonW s=false:=by simp only [canonW,h,Bool.false_and]
  rw [e]
  exact ansO_run (noPS_ok _) (P:=Tryz.prog) (cs:=cs4) (sy:=[11]) (os:=[false]) (vs:=[]) (nn:=mask 30) (F:=100) (f:=30) (ob:=[!(oE s == 0)]) (show ansO (run1O Tryz.prog noPS cs4 [11] [false] [] (mask 30) 100 30 [.str s] [] Tryz.prog.globals.size)=some (.bool false,[!(oE s == 0)]) from by kernel_rfl) (by simp [allT,h])
 ·have e:canonW s=(bytesW (oV s) == s):=by simp only [canonW,h,Bool.true_and]
  rw [e]
  exact ansO_run (noPS_ok _) (P:=Tryz.prog) (cs:=cs4) (sy:=[11]) (os:=[true]) (vs:=[]) (nn:=mask 30) (F:=100) (f:=30) (ob:=[(oE s == 0)]) (show ansO (run1O Tryz.prog noPS cs4 [11] [true] [] (mask 30) 100 30 [.str s] [] Tryz.prog.globals.size)=some (.bool (bytesW (oV s) == s),[(oE s == 0)]) from by kernel_rfl) (by simp [allT,h])
def g30:List AVal→Option EffA
 | [.str a]=>some (.pure (.bool (canonW a)))
 | _=>none
theorem g30_ok:CSOk Tryz.prog (csOne 30 g30):=csOne_ok fun args e he=>by
 unfold g30 at he
 split at he
 ·rename_i a
  cases he
  exact callOk_val cs4_ok hmix (run30 a) rfl rfl
 ·cases he
def cs5:CS:=(csAlt (csOne 30 g30) (csAlt (csOne 63 g63) cs4))
theorem cs5_ok:CSOk Tryz.prog cs5:=(csAlt_ok g30_ok (csAlt_ok g63_ok cs4_ok))
noncomputable def cs5i:CS:=inlW Tryz.prog mask 200 cs5 3
theorem cs5i_ok:CSOk Tryz.prog cs5i:=inlW_ok hmix cs5_ok 3
theorem run24 (a:W4) (b:W4):(run1 Tryz.prog cs5i (mask 24) 200 24 [(W4.av a),(W4.av b)] [] Tryz.prog.globals.size).map (·.1)=some (W4.av (mulW a b)):=by kernel_rfl
end Go.Proofs.YtcjkbimdmcfppaaGreatDoor
namespace Go.Proofs.YtcjkbimdmcfppaaGreatDoor
open Go Go.Eng Go.Num
theorem run47  : (run1 Tryz.prog cs0 (mask 47) 100 47 [] [] Tryz.prog.globals.size).map (·.1)=some (orderN.av):=by kernel_rfl
def g47:List AVal→Option EffA
 | []=>some (.pure (orderN.av))
 | _=>none
theorem g47_ok:CSOk Tryz.prog (csOne 47 g47):=csOne_ok fun args e he=>by
 unfold g47 at he
 split at he
 ·skip
  cases he
  exact callOk_val cs0_ok hmix (run47 ) rfl rfl
 ·cases he
theorem run45 (a:N16) (b:UInt64):(run1 Tryz.prog cs0 (mask 45) 100 45 [(N16.av a),(.u64 b)] [] Tryz.prog.globals.size).map (·.1)=some (N16.av (twiceN a b)):=by kernel_rfl
def g45:List AVal→Option EffA
 | [.agg [.u64 a0,.u64 a1,.u64 a2,.u64 a3,.u64 a4,.u64 a5,.u64 a6,.u64 a7,.u64 a8,.u64 a9,.u64 a10,.u64 a11,.u64 a12,.u64 a13,.u64 a14,.u64 a15],.u64 b]=>some (.pure (N16.av (twiceN (N16.mk a0 a1 a2 a3 a4 a5 a6 a7 a8 a9 a10 a11 a12 a13 a14 a15) b)))
 | _=>none
theorem g45_ok:CSOk Tryz.prog (csOne 45 g45):=csOne_ok fun args e he=>by
 unfold g45 at he
 split at he
 ·rename_i a0 a1 a2 a3 a4 a5 a6 a7 a8 a9 a10 a11 a12 a13 a14 a15 b
  cases he
  exact callOk_val cs0_ok hmix (run45 (N16.mk a0 a1 a2 a3 a4 a5 a6 a7 a8 a9 a10 a11 a12 a13 a14 a15) b) rfl rfl
 ·cases he
theorem run48 (a:N16) (b:N16):(run1 Tryz.prog cs0 (mask 48) 100 48 [(N16.av a),(N16.av b)] [] Tryz.prog.globals.size).map (·.1)=some (N16.av (minusN a b)):=by kernel_rfl
def g48:List AVal→Option EffA
 | [.agg [.u64 a0,.u64 a1,.u64 a2,.u64 a3,.u64 a4,.u64 a5,.u64 a6,.u64 a7,.u64 a8,.u64 a9,.u64 a10,.u64 a11,.u64 a12,.u64 a13,.u64 a14,.u64 a15],.agg [.u64 b0,.u64 b1,.u64 b2,.u64 b3,.u64 b4,.u64 b5,.u64 b6,.u64 b7,.u64 b8,.u64 b9,.u64 b10,.u64 b11,.u64 b12,.u64 b13,.u64 b14,.u64 b15]]=>some (.pure (N16.av (minusN (N16.mk a0 a1 a2 a3 a4 a5 a6 a7 a8 a9 a10 a11 a12 a13 a14 a15) (N16.mk b0 b1 b2 b3 b4 b5 b6 b7 b8 b9 b10 b11 b12 b13 b14 b15))))
 | _=>none
theorem g48_ok:CSOk Tryz.prog (csOne 48 g48):=csOne_ok fun args e he=>by
 unfold g48 at he
 split at he
 ·rename_i a0 a1 a2 a3 a4 a5 a6 a7 a8 a9 a10 a11 a12 a13 a14 a15 b0 b1 b2 b3 b4 b5 b6 b7 b8 b9 b10 b11 b12 b13 b14 b15
  cases he
  exact callOk_val cs0_ok hmix (run48 (N16.mk a0 a1 a2 a3 a4 a5 a6 a7 a8 a9 a10 a11 a12 a13 a14 a15) (N16.mk b0 b1 b2 b3 b4 b5 b6 b7 b8 b9 b10 b11 b12 b13 b14 b15)) rfl rfl
 ·cases he
def cr1:CS:=(csAlt (csOne 46 g46) (csAlt (csOne 78 g78) (csAlt (csOne 29 g29) (csAlt (csOne 47 g47) (csAlt (csOne 45 g45) (csOne 48 g48))))))
theorem cr1_ok:CSOk Tryz.prog cr1:=(csAlt_ok g46_ok (csAlt_ok g78_ok (csAlt_ok g29_ok (csAlt_ok g47_ok (csAlt_ok g45_ok g48_ok)))))
end Go.Proofs.YtcjkbimdmcfppaaGreatDoor
namespace Go.Proofs.YtcjkbimdmcfppaaGreatDoor
open Go Go.Eng Go.Num
def c16 (r:N16):List AVal:=[.u64 r.x0,.u64 r.x1,.u64 r.x2,.u64 r.x3,.u64 r.x4,.u64 r.x5,.u64 r.x6,.u64 r.x7,.u64 r.x8,.u64 r.x9,.u64 r.x10,.u64 r.x11,.u64 r.x12,.u64 r.x13,.u64 r.x14,.u64 r.x15]
def S14 (s:List UInt8) (r:N16) (i:Int):SA:=⟨[(0,.str s),(2,.ptr 2 0),(3,.ptr 10 0),(4,.int .i64 i)],[(2,.cells false (c16 zeroN)),(10,.cells false (c16 r))],58⟩
noncomputable def b14:Code:=loopOf ((pieces (bodyOf Tryz.f17)).getD 3 .skip)
def rawbit (s:List UInt8) (i:Int):UInt64:=(shr_u8 (s.getD (IntKind.wrap .i64 (Int.tdiv i 8)).toNat 0) (UInt64.ofInt (Int.tmod i 8)).toNat &&& 1).toUInt64
theorem rawbit_eq (s:List UInt8) (k:Nat) (hk:k < 1000000):rawbit s k=bitAt s k:=by
 unfold rawbit bitAt
 have e1:Int.tdiv (k:Int) 8=((k / 8:Nat):Int):=by rw [Int.tdiv_eq_ediv_of_nonneg (by omega)]; rfl
 have e2:Int.tmod (k:Int) 8=((k % 8:Nat):Int):=by rw [Int.tmod_eq_emod_of_nonneg (by omega)]; rfl
 have e3:(UInt64.ofNat (k % 8)).toNat=k % 8:=by
  rw [UInt64.toNat_ofNat_of_lt']; show _ < 18446744073709551616; omega
 rw [e1,e2,wrapI _ (by omega) (by omega),ofInt_nat,e3]; rfl
theorem rnd14t (F:Nat) (s:List UInt8) (r0 r:N16) (i0 i:Int):roundO Tryz.prog noPS cr1 [10,17,28] [true,true] [] 33 (mask 17) F Tryz.prog.globals.size b14 (S14 s r0 i0) (S14 s r i)=some (S14 s (minusN (twiceN r (rawbit s i)) orderN) (IntKind.wrap .i64 (i - 1)),[!lessN (twiceN r (rawbit s i)) orderN,decide (0≤IntKind.wrap .i64 (Int.tdiv i 8)) && decide (IntKind.wrap .i64 (Int.tdiv i 8) < (s.length:Int)),decide ((0:Int)≤i)]):=by kernel_rfl
theorem rnd14f (F:Nat) (s:List UInt8) (r0 r:N16) (i0 i:Int):roundO Tryz.prog noPS cr1 [10,17,28] [true,false] [] 33 (mask 17) F Tryz.prog.globals.size b14 (S14 s r0 i0) (S14 s r i)=some (S14 s (twiceN r (rawbit s i)) (IntKind.wrap .i64 (i - 1)),[!!lessN (twiceN r (rawbit s i)) orderN,decide (0≤IntKind.wrap .i64 (Int.tdiv i 8)) && decide (IntKind.wrap .i64 (Int.tdiv i 8) < (s.length:Int)),decide ((0:Int)≤i)]):=by kernel_rfl
theorem rnd14 (F:Nat) (s:List UInt8) (r0 r:N16) (i0:Int) (k:Nat) (hk:k < 8 * s.length) (hs:s.length≤100000):roundA (evC Tryz.prog cr1 33 (mask 17) F Tryz.prog.globals.size b14) (headA Tryz.prog Tryz.prog.globals.size (S14 s r0 i0)) (S14 s r k)=some (S14 s (bitN r (bitAt s k)) ((k:Int) - 1)):=by
 have e1:Int.tdiv (k:Int) 8=((k / 8:Nat):Int):=by rw [Int.tdiv_eq_ediv_of_nonneg (by omega)]; rfl
 have hd:IntKind.wrap .i64 (Int.tdiv (k:Int) 8)=((k / 8:Nat):Int):=by rw [e1,wrapI _ (by omega) (by omega)]
 have hw:IntKind.wrap .i64 ((k:Int) - 1)=(k:Int) - 1:=wrapI _ (by omega) (by omega)
 rw [← rawbit_eq s k (by omega)]
 cases h:lessN (twiceN r (rawbit s k)) orderN
 ·have e:bitN r (rawbit s k)=minusN (twiceN r (rawbit s k)) orderN:=by simp only [bitN,redO,h,cond_false]
  rw [e]
  have:=roundO_ok (noPS_ok _) (rnd14t F s r0 r i0 k) (by rw [hd]; simp [allT,h]; omega)
  rw [this,hw]
 ·have e:bitN r (rawbit s k)=twiceN r (rawbit s k):=by simp only [bitN,redO,h,cond_true]
  rw [e]
  have:=roundO_ok (noPS_ok _) (rnd14f F s r0 r i0 k) (by rw [hd]; simp [allT,h]; omega)
  rw [this,hw]
def acc14 (s:List UInt8):Nat→N16
 | 0=>zeroN
 | j+1=>bitN (acc14 s j) (bitAt s (8 * s.length - 1 - j))
theorem acc14_eq (s:List UInt8):∀ j,j≤8 * s.length→ofBits s (acc14 s j) (8 * s.length - j)=ofN s
 | 0,_=>rfl
 | j+1,h=>by
  have:=acc14_eq s j (by omega)
  rw [← this]
  obtain ⟨m,hm⟩:∃ m,8 * s.length - j=m+1:=⟨8 * s.length - j - 1,by omega⟩
  rw [hm,show 8 * s.length - (j+1)=m by omega]
  simp only [acc14,ofBits]
  rw [show 8 * s.length - 1 - j=m by omega]
theorem pre14 (F:Nat) (s:List UInt8):evS Tryz.prog cr1 Tryz.f17.ntmps (mask 17) F Tryz.prog.globals.size ((pieces (bodyOf Tryz.f17)).take 3) ⟨startT [.str s] 0,[],Tryz.prog.globals.size⟩=some (.normal,S14 s zeroN (IntKind.wrap .i64 (IntKind.wrap .i64 (8 * (s.length:Int)) - 1))):=by kernel_rfl
theorem end14 (F:Nat) (s:List UInt8) (r:N16):(match evC Tryz.prog cr1 Tryz.f17.ntmps (mask 17) F Tryz.prog.globals.size b14 (S14 s r (-1)) with | some (.exit 0,s1)=>finV Tryz.prog Tryz.f17 (evS Tryz.prog cr1 Tryz.f17.ntmps (mask 17) F Tryz.prog.globals.size ((pieces (bodyOf Tryz.f17)).drop 4) s1) | _=>none)=some r.av:=by kernel_rfl
theorem run17 (s:List UInt8) (hs:s.length≤100000):(run1 Tryz.prog cr1 (mask 17) 1000000 17 [.str s] [] Tryz.prog.globals.size).map (·.1)=some (ofN s).av:=by
 have he:=end14 1000000 s (ofN s)
 split at he
 ·rename_i s1 h1
  refine run_loop (fn:=Tryz.f17) (c:=bodyOf Tryz.f17) (by kernel_rfl) (by kernel_rfl) (by kernel_rfl) 3 (id:=0) (b:=b14) (by kernel_rfl) (fun j=>S14 s (acc14 s j) ((8 * s.length:Nat) - 1 - j:Int)) (8 * s.length) ?_ (fun j hj => ?_) (s1:=s1) ?_ (by omega) he
  ·rw [pre14,wrapI (8 * (s.length:Int)) (by omega) (by omega),wrapI _ (by omega) (by omega)]
   have e0:(((8 * s.length:Nat):Int) - 1 - ((0:Nat):Int))=8 * (s.length:Int) - 1:=by omega
   show _=some (XA.normal,S14 s (acc14 s 0) (((8 * s.length:Nat):Int) - 1 - ((0:Nat):Int)))
   rw [e0]; rfl
  ·have e:((8 * s.length:Nat) - 1 - j:Int)=((8 * s.length - 1 - j:Nat):Int):=by omega
   have e2:((8 * s.length:Nat) - 1 - (j+1:Nat):Int)=((8 * s.length - 1 - j:Nat):Int) - 1:=by omega
   rw [e,e2]
   exact rnd14 1000000 s _ _ _ _ (by omega) hs
  ·have e:((8 * s.length:Nat) - 1 - (8 * s.length:Nat):Int) = -1:=by omega
   have e2:acc14 s (8 * s.length)=ofN s:=by
    have:=acc14_eq s (8 * s.length) (Nat.le_refl _)
    rwa [Nat.sub_self] at this
   rw [e,e2]
   exact h1
 ·cases he
def p17:List AVal→Option (EffA × Bool)
 | [.str s]=>some (.pure (ofN s).av,Nat.ble s.length 100000)
 | _=>none
theorem p17_ok:CSOk Tryz.prog (csP (psOne 17 p17)):=csP_one fun args v he=>by
 unfold p17 at he
 split at he
 ·simp only [Option.some.injEq,Prod.mk.injEq] at he
  obtain ⟨rfl,h⟩:=he
  exact callOk_val cr1_ok hmix (run17 _ (Nat.le_of_ble_eq_true h)) rfl rfl
 ·cases he
end Go.Proofs.YtcjkbimdmcfppaaGreatDoor
namespace Go.Proofs.YtcjkbimdmcfppaaGreatDoor
open Go Go.Eng Go.Num
def cr2:CS:=csAlt (csP (psOne 17 p17)) cr1
theorem cr2_ok:CSOk Tryz.prog cr2:=csAlt_ok p17_ok cr1_ok
noncomputable def cr2i:CS:=inlW Tryz.prog mask 200 cr2 3
theorem cr2i_ok:CSOk Tryz.prog cr2i:=inlW_ok hmix cr2_ok 3
theorem run27 (a:N16) (b:N16):(run1 Tryz.prog cr2i (mask 27) 200 27 [(N16.av a),(N16.av b)] [] Tryz.prog.globals.size).map (·.1)=some (N16.av (addN a b)):=by kernel_rfl
theorem run28 (a:N16) (b:N16):(run1 Tryz.prog cr2i (mask 28) 200 28 [(N16.av a),(N16.av b)] [] Tryz.prog.globals.size).map (·.1)=some (N16.av (mulN a b)):=by kernel_rfl
theorem run36t (a0 a1 a2 a3 a4 a5 a6 a7 a8 a9 a10 a11 a12 a13 a14 a15 a16 a17 a18 a19 a20 a21 a22 a23 a24 a25 a26 a27 a28 a29 a30 a31:UInt8):(run1 Tryz.prog cr2 (mask 36) 100 36 [.str [a0,a1,a2,a3,a4,a5,a6,a7,a8,a9,a10,a11,a12,a13,a14,a15,a16,a17,a18,a19,a20,a21,a22,a23,a24,a25,a26,a27,a28,a29,a30,a31]] [] Tryz.prog.globals.size).map (·.1)=some (.bool (lessN (partsN [a0,a1,a2,a3,a4,a5,a6,a7,a8,a9,a10,a11,a12,a13,a14,a15,a16,a17,a18,a19,a20,a21,a22,a23,a24,a25,a26,a27,a28,a29,a30,a31]) orderN)):=by kernel_rfl
theorem run36 (s:List UInt8):(run1 Tryz.prog cr2 (mask 36) 100 36 [.str s] [] Tryz.prog.globals.size).map (·.1)=some (.bool (canonN s)):=by
 cases h:isLen s 32
 ·have e:canonN s=false:=by simp [canonN,h]
  rw [e]
  exact ansO_run (noPS_ok _) (P:=Tryz.prog) (cs:=cr2) (sy:=[5]) (os:=[false]) (vs:=[]) (nn:=mask 36) (F:=100) (f:=36) (ob:=[!((s.length:Int) == 32)]) (show ansO (run1O Tryz.prog noPS cr2 [5] [false] [] (mask 36) 100 36 [.str s] [] Tryz.prog.globals.size)=some (.bool false,[!((s.length:Int) == 32)]) from by kernel_rfl) (by simp [allT,ne32 h])
 ·have e:canonN s=lessN (partsN s) orderN:=by simp [canonN,h]
  rw [e]
  obtain ⟨a0,a1,a2,a3,a4,a5,a6,a7,a8,a9,a10,a11,a12,a13,a14,a15,a16,a17,a18,a19,a20,a21,a22,a23,a24,a25,a26,a27,a28,a29,a30,a31,rfl⟩:=len32 (isLen_eq.1 h)
  exact run36t a0 a1 a2 a3 a4 a5 a6 a7 a8 a9 a10 a11 a12 a13 a14 a15 a16 a17 a18 a19 a20 a21 a22 a23 a24 a25 a26 a27 a28 a29 a30 a31
def g36:List AVal→Option EffA
 | [.str s]=>some (.pure (.bool (canonN s)))
 | _=>none
theorem g36_ok:CSOk Tryz.prog (csOne 36 g36):=csOne_ok fun args e he=>by
 unfold g36 at he
 split at he
 ·cases he
  exact callOk_val cr2_ok hmix (run36 _) rfl rfl
 ·cases he
theorem run43 (a0 a1 a2 a3 a4 a5 a6 a7 a8 a9 a10 a11 a12 a13 a14 a15 a16 a17 a18 a19 a20 a21 a22 a23 a24 a25 a26 a27 a28 a29 a30 a31:UInt8):(run1 Tryz.prog cr2 (mask 43) 100 43 [.str [a0,a1,a2,a3,a4,a5,a6,a7,a8,a9,a10,a11,a12,a13,a14,a15,a16,a17,a18,a19,a20,a21,a22,a23,a24,a25,a26,a27,a28,a29,a30,a31]] [] Tryz.prog.globals.size).map (·.1)=some (.str (clampL [a0,a1,a2,a3,a4,a5,a6,a7,a8,a9,a10,a11,a12,a13,a14,a15,a16,a17,a18,a19,a20,a21,a22,a23,a24,a25,a26,a27,a28,a29,a30,a31])):=by kernel_rfl
def p43:List AVal→Option (EffA × Bool)
 | [.str s]=>some (.pure (.str (clampL s)),isLen s 32)
 | _=>none
theorem p43_ok:CSOk Tryz.prog (csP (psOne 43 p43)):=csP_one fun args v he=>by
 unfold p43 at he
 split at he
 ·rename_i s
  simp only [Option.some.injEq,Prod.mk.injEq] at he
  obtain ⟨rfl,h⟩:=he
  obtain ⟨a0,a1,a2,a3,a4,a5,a6,a7,a8,a9,a10,a11,a12,a13,a14,a15,a16,a17,a18,a19,a20,a21,a22,a23,a24,a25,a26,a27,a28,a29,a30,a31,rfl⟩:=len32 (isLen_eq.1 h)
  exact callOk_val cr2_ok hmix (run43 a0 a1 a2 a3 a4 a5 a6 a7 a8 a9 a10 a11 a12 a13 a14 a15 a16 a17 a18 a19 a20 a21 a22 a23 a24 a25 a26 a27 a28 a29 a30 a31) rfl rfl
 ·cases he
end Go.Proofs.YtcjkbimdmcfppaaGreatDoor
