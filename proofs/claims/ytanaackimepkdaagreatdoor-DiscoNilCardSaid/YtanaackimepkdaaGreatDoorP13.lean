/- Texts Num10, Num11, Num12, Prime, NumF, Mo1, Qo2, Qo3, Qo4, Qo5, Qo6, Mo9, Qo7, Qo8, Qk0: what they show that this claim uses. -/
import Derived.Test.YtanaackimepkdaaGreatDoorP12
import Derived.WalkKit
import Derived.Test.YtanaackimepkdaaGreatDoorP11
import Derived.Test.YtanaackimepkdaaGreatDoorP6
import Derived.Test.YtanaackimepkdaaGreatDoorP7
set_option maxRecDepth 100000
set_option maxHeartbeats 1000000
set_option linter.unusedVariables false
set_option linter.unusedSimpArgs false
namespace Go.Num
open Go Go.Eng
def E5.red (a:E5):Prop:=a.x0.toNat < 2251799813685248∧a.x1.toNat < 2251799813685248∧a.x2.toNat < 2251799813685248∧a.x3.toNat < 2251799813685248∧a.x4.toNat < 2251799813685248
theorem E5.ext_val {a b:E5}(ha:a.red) (hb:b.red) (h:a.val=b.val):a=b:=by
 obtain ⟨a0,a1,a2,a3,a4⟩:=a
 obtain ⟨b0,b1,b2,b3,b4⟩:=b
 unfold E5.red at ha hb
 unfold E5.val at h
 simp only at ha hb h
 have e0:a0=b0:=UInt64.toNat_inj.1 (by omega)
 have e1:a1=b1:=UInt64.toNat_inj.1 (by omega)
 have e2:a2=b2:=UInt64.toNat_inj.1 (by omega)
 have e3:a3=b3:=UInt64.toNat_inj.1 (by omega)
 have e4:a4=b4:=UInt64.toNat_inj.1 (by omega)
 rw [e0,e1,e2,e3,e4]
theorem tail_val (b:E5) (c:UInt64) (hc:c.toNat≤1) (h0:b.x0.toNat < 2251799813947392) (h1:b.x1.toNat < 2251799813947392) (h2:b.x2.toNat < 2251799813947392) (h3:b.x3.toNat < 2251799813947392) (h4:b.x4.toNat < 2251799813947392) :
  (tailE b c).red∧(tailE b c).val=(b.val+19 * c.toNat) % 57896044618658097711785492504343953926634992332820282019728792003956564819968:=by
 have e0:(b.x0+19 * c).toNat=b.x0.toNat+19 * c.toNat:=by
  rw [UInt64.toNat_add,UInt64.toNat_mul,n19]
  simp only [Nat.reducePow]
  omega
 have st:∀ x y:UInt64,x.toNat < 2251799813947392→(x+shr_u64 y 51).toNat=x.toNat+y.toNat / 2251799813685248:=fun x y hx=>by
  have hy:=y.toNat_lt
  simp only [Nat.reducePow] at hy
  rw [add_nat _ _ (by rw [shr51]; omega),shr51]
 have e1:=st b.x1 (b.x0+19 * c) h1
 have e2:=st b.x2 (b.x1+shr_u64 (b.x0+19 * c) 51) h2
 have e3:=st b.x3 (b.x2+shr_u64 (b.x1+shr_u64 (b.x0+19 * c) 51) 51) h3
 have e4:=st b.x4 (b.x3+shr_u64 (b.x2+shr_u64 (b.x1+shr_u64 (b.x0+19 * c) 51) 51) 51) h4
 unfold E5.red E5.val tailE
 simp only [and51]
 rw [e4,e3,e2,e1,e0]
 refine ⟨by omega,?_⟩
 omega
theorem top_val (b:E5) (h0:b.x0.toNat < 2251799813947392) (h1:b.x1.toNat < 2251799813947392) (h2:b.x2.toNat < 2251799813947392) (h3:b.x3.toNat < 2251799813947392) (h4:b.x4.toNat < 2251799813947392) :
  (topE b).toNat=(b.val+19) / 57896044618658097711785492504343953926634992332820282019728792003956564819968:=by
 have e0:(b.x0+19).toNat=b.x0.toNat+19:=by
  rw [UInt64.toNat_add,n19]
  simp only [Nat.reducePow]
  omega
 have st:∀ x y:UInt64,x.toNat < 2251799813947392→(x+shr_u64 y 51).toNat=x.toNat+y.toNat / 2251799813685248:=fun x y hx=>by
  have hy:=y.toNat_lt
  simp only [Nat.reducePow] at hy
  rw [add_nat _ _ (by rw [shr51]; omega),shr51]
 unfold topE
 rw [shr51,st _ _ h4,st _ _ h3,st _ _ h2,st _ _ h1,e0]
 unfold E5.val
 omega
theorem reduced_val (a:E5):(reducedE a).red∧(reducedE a).val=a.val % Pq:=by
 have o1:=carried_ok a
 obtain ⟨o2,v2⟩:=carried_val (carriedE a)
 have m2:=carried_mod (carriedE a)
 have m1:=carried_mod a
 have hb:=low_plus19 (carriedE a).x0 (carriedE a).x4
 have hb1:=low_plus (carriedE a).x1 (carriedE a).x0
 have hb2:=low_plus (carriedE a).x2 (carriedE a).x1
 have hb3:=low_plus (carriedE a).x3 (carriedE a).x2
 have hb4:=low_plus (carriedE a).x4 (carriedE a).x3
 have hv:(carriedE (carriedE a)).val < 57896044618658097711785492504343953926634992332820282019728792003956564819968+57896044618658097711785492504343953926634992332820282019728792003956564819930:=by
  unfold E5.ok at o1
  have d:carriedE (carriedE a)=⟨((carriedE a).x0 &&& m51)+19 * shr_u64 (carriedE a).x4 51,((carriedE a).x1 &&& m51)+shr_u64 (carriedE a).x0 51,((carriedE a).x2 &&& m51)+shr_u64 (carriedE a).x1 51,((carriedE a).x3 &&& m51)+shr_u64 (carriedE a).x2 51,((carriedE a).x4 &&& m51)+shr_u64 (carriedE a).x3 51⟩:=rfl
  rw [d]
  generalize carriedE a=u at *
  unfold E5.val
  simp only
  rw [hb,hb1,hb2,hb3,hb4]
  omega
 obtain ⟨q0,q1,q2,q3,q4⟩:=o2
 have ht:=top_val _ q0 q1 q2 q3 q4
 have htop:(topE (carriedE (carriedE a))).toNat≤1:=by
  rw [ht]
  omega
 obtain ⟨r1,r2⟩:=tail_val _ (topE (carriedE (carriedE a))) htop q0 q1 q2 q3 q4
 refine ⟨r1,?_⟩
 have hm:(carriedE (carriedE a)).val % Pq=a.val % Pq:=m2.trans m1
 rw [← hm]
 unfold reducedE
 simp only
 rw [r2,ht]
 generalize (carriedE (carriedE a)).val=v at *
 unfold Pq
 have h2:(v+19) / 57896044618658097711785492504343953926634992332820282019728792003956564819968=0 ∨ (v+19) / 57896044618658097711785492504343953926634992332820282019728792003956564819968=1:=by omega
 rcases h2 with h2 | h2 <;> rw [h2] <;> omega
theorem leNat_range (f:Nat→UInt8) (V:Nat):∀ n,(∀ i,i < n→(f i).toNat=V / 256 ^ i % 256)→leNat ((List.range n).map f)=V % 256 ^ n
 | 0,_=>by simp [leNat,Nat.mod_one]
 | n+1,h=>by
  rw [List.range_succ,List.map_append,leNat_append,leNat_range f V n (fun i hi=>h i (by omega))]
  simp only [List.map_cons,List.map_nil,leNat,List.length_map,List.length_range]
  rw [h n (by omega),Nat.mul_zero,Nat.add_zero,Nat.pow_succ,Nat.mod_mul]
theorem shr_byte (x:UInt64) (n:Nat) (h:n < 64):((shr_u64 x n).toUInt8).toNat=x.toNat / 2 ^ n % 256:=by
 rw [toU8_nat,shr_u64_nat x n h]
theorem or_byte (x y:UInt64) (s:Nat) (hs:44≤s) (hs2:s < 51) (hx:x.toNat < 2251799813685248) (hy:y.toNat < 2251799813685248):((shr_u64 x s).toUInt8 ||| (shl_u64 y (51 - s)).toUInt8).toNat=(x.toNat / 2 ^ s+y.toNat * 2 ^ (51 - s)) % 256:=by
 rw [UInt8.toNat_or,toU8_nat,toU8_nat,shr_u64_nat x s (by omega),shl_u64_nat y (51 - s) (by omega)]
 have h1:x.toNat / 2 ^ s < 2 ^ (51 - s):=by
  apply Nat.div_lt_of_lt_mul
  rw [← Nat.pow_add,show s+(51 - s)=51 by omega]
  simpa using hx
 have hc:s=44 ∨ s=45 ∨ s=46 ∨ s=47 ∨ s=48 ∨ s=49 ∨ s=50:=by omega
 have h2:(x.toNat / 2 ^ s) % 256=x.toNat / 2 ^ s:=Nat.mod_eq_of_lt (by rcases hc with rfl | rfl | rfl | rfl | rfl | rfl | rfl <;> simp only [Nat.reducePow,Nat.reduceSub] at h1 <;> omega)
 rw [h2]
 have h3:y.toNat * 2 ^ (51 - s) % 18446744073709551616 % 256=(y.toNat % 2 ^ (8 - (51 - s))) * 2 ^ (51 - s):=by
  rcases hc with rfl | rfl | rfl | rfl | rfl | rfl | rfl <;> simp only [Nat.reducePow,Nat.reduceSub] <;> omega
 rw [h3]
 have:=Nat.shiftLeft_add_eq_or_of_lt h1 (y.toNat % 2 ^ (8 - (51 - s)))
 rw [Nat.shiftLeft_eq] at this
 rw [Nat.or_comm,← this]
 rcases hc with rfl | rfl | rfl | rfl | rfl | rfl | rfl <;> simp only [Nat.reducePow,Nat.reduceSub] at * <;> omega
set_option maxHeartbeats 4000000 in
theorem byteE_val (r:E5) (h:r.red) (i:Nat) (hi:i < 32):(byteE r i).toNat=r.val / 256 ^ i % 256:=by
 obtain ⟨r0,r1,r2,r3,r4⟩:=r
 unfold E5.red at h
 unfold E5.val
 simp only at h ⊢
 obtain ⟨h0,h1,h2,h3,h4⟩:=h
 have hc:i=0 ∨ i=1 ∨ i=2 ∨ i=3 ∨ i=4 ∨ i=5 ∨ i=6 ∨ i=7 ∨ i=8 ∨ i=9 ∨ i=10 ∨ i=11 ∨ i=12 ∨ i=13 ∨ i=14 ∨ i=15 ∨ i=16 ∨ i=17 ∨ i=18 ∨ i=19 ∨ i=20 ∨ i=21 ∨ i=22 ∨ i=23 ∨ i=24 ∨ i=25 ∨ i=26 ∨ i=27 ∨ i=28 ∨ i=29 ∨ i=30 ∨ i=31:=by omega
 have s:∀ (x:UInt64) (n:Nat),n < 64→((shr_u64 x n).toUInt8).toNat=x.toNat / 2 ^ n % 256:=shr_byte
 have o:∀ (x y:UInt64) (n:Nat),44≤n→n < 51→x.toNat < 2251799813685248→y.toNat < 2251799813685248→((shr_u64 x n).toUInt8 ||| (shl_u64 y (51 - n)).toUInt8).toNat=(x.toNat / 2 ^ n+y.toNat * 2 ^ (51 - n)) % 256:=or_byte
 rcases hc with rfl | rfl | rfl | rfl | rfl | rfl | rfl | rfl | rfl | rfl | rfl | rfl | rfl | rfl | rfl | rfl | rfl | rfl | rfl | rfl | rfl | rfl | rfl | rfl | rfl | rfl | rfl | rfl | rfl | rfl | rfl | rfl
 ·show ((shr_u64 r0 0).toUInt8).toNat=_; rw [s _ 0 (by omega)]; simp only [Nat.reducePow]; omega
 ·show ((shr_u64 r0 8).toUInt8).toNat=_; rw [s _ 8 (by omega)]; simp only [Nat.reducePow]; omega
 ·show ((shr_u64 r0 16).toUInt8).toNat=_; rw [s _ 16 (by omega)]; simp only [Nat.reducePow]; omega
 ·show ((shr_u64 r0 24).toUInt8).toNat=_; rw [s _ 24 (by omega)]; simp only [Nat.reducePow]; omega
 ·show ((shr_u64 r0 32).toUInt8).toNat=_; rw [s _ 32 (by omega)]; simp only [Nat.reducePow]; omega
 ·show ((shr_u64 r0 40).toUInt8).toNat=_; rw [s _ 40 (by omega)]; simp only [Nat.reducePow]; omega
 ·show ((shr_u64 r0 48).toUInt8 ||| (shl_u64 r1 3).toUInt8).toNat=_; rw [o _ _ 48 (by omega) (by omega) h0 h1]; simp only [Nat.reducePow,Nat.reduceSub]; omega
 ·show ((shr_u64 r1 5).toUInt8).toNat=_; rw [s _ 5 (by omega)]; simp only [Nat.reducePow]; omega
 ·show ((shr_u64 r1 13).toUInt8).toNat=_; rw [s _ 13 (by omega)]; simp only [Nat.reducePow]; omega
 ·show ((shr_u64 r1 21).toUInt8).toNat=_; rw [s _ 21 (by omega)]; simp only [Nat.reducePow]; omega
 ·show ((shr_u64 r1 29).toUInt8).toNat=_; rw [s _ 29 (by omega)]; simp only [Nat.reducePow]; omega
 ·show ((shr_u64 r1 37).toUInt8).toNat=_; rw [s _ 37 (by omega)]; simp only [Nat.reducePow]; omega
 ·show ((shr_u64 r1 45).toUInt8 ||| (shl_u64 r2 6).toUInt8).toNat=_; rw [o _ _ 45 (by omega) (by omega) h1 h2]; simp only [Nat.reducePow,Nat.reduceSub]; omega
 ·show ((shr_u64 r2 2).toUInt8).toNat=_; rw [s _ 2 (by omega)]; simp only [Nat.reducePow]; omega
 ·show ((shr_u64 r2 10).toUInt8).toNat=_; rw [s _ 10 (by omega)]; simp only [Nat.reducePow]; omega
 ·show ((shr_u64 r2 18).toUInt8).toNat=_; rw [s _ 18 (by omega)]; simp only [Nat.reducePow]; omega
 ·show ((shr_u64 r2 26).toUInt8).toNat=_; rw [s _ 26 (by omega)]; simp only [Nat.reducePow]; omega
 ·show ((shr_u64 r2 34).toUInt8).toNat=_; rw [s _ 34 (by omega)]; simp only [Nat.reducePow]; omega
 ·show ((shr_u64 r2 42).toUInt8).toNat=_; rw [s _ 42 (by omega)]; simp only [Nat.reducePow]; omega
 ·show ((shr_u64 r2 50).toUInt8 ||| (shl_u64 r3 1).toUInt8).toNat=_; rw [o _ _ 50 (by omega) (by omega) h2 h3]; simp only [Nat.reducePow,Nat.reduceSub]; omega
 ·show ((shr_u64 r3 7).toUInt8).toNat=_; rw [s _ 7 (by omega)]; simp only [Nat.reducePow]; omega
 ·show ((shr_u64 r3 15).toUInt8).toNat=_; rw [s _ 15 (by omega)]; simp only [Nat.reducePow]; omega
 ·show ((shr_u64 r3 23).toUInt8).toNat=_; rw [s _ 23 (by omega)]; simp only [Nat.reducePow]; omega
 ·show ((shr_u64 r3 31).toUInt8).toNat=_; rw [s _ 31 (by omega)]; simp only [Nat.reducePow]; omega
 ·show ((shr_u64 r3 39).toUInt8).toNat=_; rw [s _ 39 (by omega)]; simp only [Nat.reducePow]; omega
 ·show ((shr_u64 r3 47).toUInt8 ||| (shl_u64 r4 4).toUInt8).toNat=_; rw [o _ _ 47 (by omega) (by omega) h3 h4]; simp only [Nat.reducePow,Nat.reduceSub]; omega
 ·show ((shr_u64 r4 4).toUInt8).toNat=_; rw [s _ 4 (by omega)]; simp only [Nat.reducePow]; omega
 ·show ((shr_u64 r4 12).toUInt8).toNat=_; rw [s _ 12 (by omega)]; simp only [Nat.reducePow]; omega
 ·show ((shr_u64 r4 20).toUInt8).toNat=_; rw [s _ 20 (by omega)]; simp only [Nat.reducePow]; omega
 ·show ((shr_u64 r4 28).toUInt8).toNat=_; rw [s _ 28 (by omega)]; simp only [Nat.reducePow]; omega
 ·show ((shr_u64 r4 36).toUInt8).toNat=_; rw [s _ 36 (by omega)]; simp only [Nat.reducePow]; omega
 ·show ((shr_u64 r4 44).toUInt8).toNat=_; rw [s _ 44 (by omega)]; simp only [Nat.reducePow]; omega
theorem red_lt {a:E5}(h:a.red):a.val < 57896044618658097711785492504343953926634992332820282019728792003956564819968:=by
 unfold E5.red at h
 unfold E5.val
 omega
theorem bytesE_val (a:E5):leNat (bytesE a)=a.val % Pq:=by
 obtain ⟨h1,h2⟩:=reduced_val a
 unfold bytesE
 rw [leNat_range _ (reducedE a).val 32 (fun i hi=>byteE_val _ h1 i hi),Nat.mod_eq_of_lt (Nat.lt_of_lt_of_le (red_lt h1) (by decide)),h2]
theorem bytesE_len (a:E5):(bytesE a).length=32:=by unfold bytesE; simp
theorem leNat_drop (s:List UInt8) (k:Nat):leNat (s.drop k)=leNat s / 256 ^ k:=by
 induction k generalizing s with
 | zero=>simp
 | succ k ih =>
  cases s with
  | nil=>simp [leNat]
  | cons c l =>
   have hc:=c.toNat_lt
   simp only [Nat.reducePow] at hc
   rw [List.drop_succ_cons,ih,leNat,Nat.pow_succ,Nat.mul_comm (256 ^ k),← Nat.div_div_eq_div_mul]
   congr 1
   omega
theorem byte_at (s:List UInt8) (k:Nat):(s.getD k 0).toNat=leNat s / 256 ^ k % 256:=by
 rw [← leNat_drop]
 induction k generalizing s with
 | zero =>
  cases s with
  | nil=>rfl
  | cons c l =>
   have hc:=c.toNat_lt
   simp only [Nat.reducePow] at hc
   simp only [List.getD_cons_zero,List.drop_zero,leNat]
   omega
 | succ k ih =>
  cases s with
  | nil=>simp [leNat]
  | cons c l=>rw [List.getD_cons_succ,List.drop_succ_cons]; exact ih l
theorem or_step (x:UInt64) (b:UInt8) (n:Nat) (hn:n < 57) (h:x.toNat < 2 ^ n):(x ||| shl_u64 b.toUInt64 n).toNat=x.toNat+b.toNat * 2 ^ n:=by
 have hb:=b.toNat_lt
 rw [UInt64.toNat_or,shl_u64_nat _ n (by omega),UInt8.toNat_toUInt64]
 have hlt:b.toNat * 2 ^ n < 18446744073709551616:=by
  have h1:2 ^ n≤2 ^ 56:=Nat.pow_le_pow_right (by omega) (by omega)
  have:=Nat.mul_le_mul (Nat.le_of_lt_succ hb) h1
  simp only [Nat.reducePow] at *
  omega
 rw [Nat.mod_eq_of_lt hlt]
 have:=Nat.shiftLeft_add_eq_or_of_lt h b.toNat
 rw [Nat.shiftLeft_eq] at this
 rw [Nat.or_comm,← this,Nat.add_comm]
theorem wordE_val (s:List UInt8):(wordE s).toNat=leNat s % 18446744073709551616:=by
 have b:∀ k,(s.getD k 0).toNat < 256:=fun k=>(s.getD k 0).toNat_lt
 have b0:=b 0; have b1:=b 1; have b2:=b 2; have b3:=b 3; have b4:=b 4; have b5:=b 5; have b6:=b 6; have b7:=b 7
 have hz:(0:UInt64).toNat=0:=rfl
 unfold wordE
 have e0:=or_step 0 (s.getD 0 0) 0 (by omega) (by rw [hz]; decide)
 have e1:=or_step _ (s.getD 1 0) 8 (by omega) (by rw [e0,hz]; simp only [Nat.reducePow]; omega)
 have e2:=or_step _ (s.getD 2 0) 16 (by omega) (by rw [e1,e0,hz]; simp only [Nat.reducePow]; omega)
 have e3:=or_step _ (s.getD 3 0) 24 (by omega) (by rw [e2,e1,e0,hz]; simp only [Nat.reducePow]; omega)
 have e4:=or_step _ (s.getD 4 0) 32 (by omega) (by rw [e3,e2,e1,e0,hz]; simp only [Nat.reducePow]; omega)
 have e5:=or_step _ (s.getD 5 0) 40 (by omega) (by rw [e4,e3,e2,e1,e0,hz]; simp only [Nat.reducePow]; omega)
 have e6:=or_step _ (s.getD 6 0) 48 (by omega) (by rw [e5,e4,e3,e2,e1,e0,hz]; simp only [Nat.reducePow]; omega)
 have e7:=or_step _ (s.getD 7 0) 56 (by omega) (by rw [e6,e5,e4,e3,e2,e1,e0,hz]; simp only [Nat.reducePow]; omega)
 rw [e7,e6,e5,e4,e3,e2,e1,e0,hz,byte_at s 0,byte_at s 1,byte_at s 2,byte_at s 3,byte_at s 4,byte_at s 5,byte_at s 6,byte_at s 7]
 simp only [Nat.reducePow]
 omega
theorem five_parts (V:Nat):V % 2251799813685248+19 * (V / 57896044618658097711785492504343953926634992332820282019728792003956564819968)+2251799813685248 * (V / 2251799813685248 % 2251799813685248)+5070602400912917605986812821504 * (V / 5070602400912917605986812821504 % 2251799813685248)+11417981541647679048466287755595961091061972992 * (V / 11417981541647679048466287755595961091061972992 % 2251799813685248)+25711008708143844408671393477458601640355247900524685364822016 * (V / 25711008708143844408671393477458601640355247900524685364822016 % 2251799813685248)+Pq * (V / 57896044618658097711785492504343953926634992332820282019728792003956564819968)=V:=by
 have d2:V / 5070602400912917605986812821504=V / 2251799813685248 / 2251799813685248:=by rw [Nat.div_div_eq_div_mul]
 have d3:V / 11417981541647679048466287755595961091061972992=V / 2251799813685248 / 2251799813685248 / 2251799813685248:=by rw [Nat.div_div_eq_div_mul,Nat.div_div_eq_div_mul]
 have d4:V / 25711008708143844408671393477458601640355247900524685364822016=V / 2251799813685248 / 2251799813685248 / 2251799813685248 / 2251799813685248:=by rw [Nat.div_div_eq_div_mul,Nat.div_div_eq_div_mul,Nat.div_div_eq_div_mul]
 have d5:V / 57896044618658097711785492504343953926634992332820282019728792003956564819968=V / 2251799813685248 / 2251799813685248 / 2251799813685248 / 2251799813685248 / 2251799813685248:=by rw [Nat.div_div_eq_div_mul,Nat.div_div_eq_div_mul,Nat.div_div_eq_div_mul,Nat.div_div_eq_div_mul]
 rw [d2,d3,d4,d5]
 unfold Pq
 omega
theorem zeroE_ok:zeroE.ok:=⟨by decide,by decide,by decide,by decide,by decide⟩
theorem ofE0_val (s:List UInt8) (h:s.length=32):(ofE0 s).val % Pq=leNat s % Pq:=by
 have hv:leNat s < 115792089237316195423570985008687907853269984665640564039457584007913129639936:=by
  have:=leNat_lt s
  rw [h] at this
  simpa using this
 have w0:=wordE_val s
 have w6:=wordE_val (s.drop 6)
 have w12:=wordE_val (s.drop 12)
 have w19:=wordE_val (s.drop 19)
 have w24:=wordE_val (s.drop 24)
 rw [leNat_drop] at w6 w12 w19 w24
 have b31:=byte_at s 31
 have d:∀ m n:Nat,leNat s / m / n=leNat s / (m * n):=fun m n=>Nat.div_div_eq_div_mul _ _ _
 have q:∀ Q:Nat,Q % 18446744073709551616 / 8 % 2251799813685248=Q / 8 % 2251799813685248:=fun Q=>by omega
 have q6:∀ Q:Nat,Q % 18446744073709551616 / 64 % 2251799813685248=Q / 64 % 2251799813685248:=fun Q=>by omega
 have q1:∀ Q:Nat,Q % 18446744073709551616 / 2 % 2251799813685248=Q / 2 % 2251799813685248:=fun Q=>by omega
 have q12:∀ Q:Nat,Q % 18446744073709551616 / 4096 % 2251799813685248=Q / 4096 % 2251799813685248:=fun Q=>by omega
 have q0:∀ Q:Nat,Q % 18446744073709551616 % 2251799813685248=Q % 2251799813685248:=fun Q=>by omega
 have h31:leNat s / 256 ^ 31 < 256:=by
  apply Nat.div_lt_of_lt_mul
  rw [show (256:Nat) ^ 31 * 256=115792089237316195423570985008687907853269984665640564039457584007913129639936 by decide]
  exact hv
 have e0:((wordE s &&& m51)+19 * (shr_u8 (s.getD 31 0) 7).toUInt64).toNat=leNat s % 2251799813685248+19 * (leNat s / 57896044618658097711785492504343953926634992332820282019728792003956564819968):=by
  have ed:leNat s / 57896044618658097711785492504343953926634992332820282019728792003956564819968=leNat s / 256 ^ 31 / 128:=by
   rw [d]
  rw [UInt64.toNat_add,UInt64.toNat_mul,n19,UInt8.toNat_toUInt64,shr_u8_nat _ 7 (by omega),and51,w0,b31,Nat.mod_eq_of_lt h31,ed,q0]
  generalize leNat s / 256 ^ 31=Q at *
  have:=Nat.mod_lt (leNat s) (show 0 < 2251799813685248 by omega)
  generalize leNat s % 2251799813685248=R at *
  simp only [Nat.reducePow]
  omega
 have e1:(shr_u64 (wordE (s.drop 6)) 3 &&& m51).toNat=leNat s / 2251799813685248 % 2251799813685248:=by
  rw [and51,shr_u64_nat _ 3 (by omega),w6]
  show leNat s / 256 ^ 6 % 18446744073709551616 / 8 % 2251799813685248=_
  rw [q,d]
 have e2:(shr_u64 (wordE (s.drop 12)) 6 &&& m51).toNat=leNat s / 5070602400912917605986812821504 % 2251799813685248:=by
  rw [and51,shr_u64_nat _ 6 (by omega),w12]
  show leNat s / 256 ^ 12 % 18446744073709551616 / 64 % 2251799813685248=_
  rw [q6,d]
 have e3:(shr_u64 (wordE (s.drop 19)) 1 &&& m51).toNat=leNat s / 11417981541647679048466287755595961091061972992 % 2251799813685248:=by
  rw [and51,shr_u64_nat _ 1 (by omega),w19]
  show leNat s / 256 ^ 19 % 18446744073709551616 / 2 % 2251799813685248=_
  rw [q1,d]
 have e4:(shr_u64 (wordE (s.drop 24)) 12 &&& m51).toNat=leNat s / 25711008708143844408671393477458601640355247900524685364822016 % 2251799813685248:=by
  rw [and51,shr_u64_nat _ 12 (by omega),w24]
  show leNat s / 256 ^ 24 % 18446744073709551616 / 4096 % 2251799813685248=_
  rw [q12,d]
 have ev:(ofE0 s).val+Pq * (leNat s / 57896044618658097711785492504343953926634992332820282019728792003956564819968)=leNat s:=by
  have ed:(ofE0 s).val=leNat s % 2251799813685248+19 * (leNat s / 57896044618658097711785492504343953926634992332820282019728792003956564819968)+2251799813685248 * (leNat s / 2251799813685248 % 2251799813685248)+5070602400912917605986812821504 * (leNat s / 5070602400912917605986812821504 % 2251799813685248)+11417981541647679048466287755595961091061972992 * (leNat s / 11417981541647679048466287755595961091061972992 % 2251799813685248)+25711008708143844408671393477458601640355247900524685364822016 * (leNat s / 25711008708143844408671393477458601640355247900524685364822016 % 2251799813685248):=by
   rw [← e0,← e1,← e2,← e3,← e4]
   rfl
  rw [ed]
  exact five_parts _
 rw [← ev,Nat.add_mul_mod_self_left]
theorem ofEl_ok (s:List UInt8):(ofEl s).ok:=by
 unfold ofEl
 cases isLen s 32
 ·exact zeroE_ok
 ·exact carried_ok _
theorem ofEl_val {s:List UInt8}(h:isLen s 32=true):(ofEl s).val % Pq=leNat s % Pq:=by
 unfold ofEl
 rw [h,cond_true,carried_mod,ofE0_val s (isLen_eq.1 h)]
theorem zeroE_val:zeroE.val=0:=by decide
theorem smallE_val (n:UInt32):(smallE n).ok∧(smallE n).val=n.toNat:=by
 have h:=n.toNat_lt
 simp only [Nat.reducePow] at h
 have hz:(0:UInt64).toNat=0:=rfl
 unfold E5.ok E5.val smallE
 simp only [UInt32.toNat_toUInt64,hz]
 omega
theorem eqE_eq (a b:E5):eqE a b=decide (a=b):=by
 obtain ⟨a0,a1,a2,a3,a4⟩:=a
 obtain ⟨b0,b1,b2,b3,b4⟩:=b
 rw [Bool.eq_iff_iff]
 simp [eqE]
theorem sameE_eq (a b:E5):sameE a b=decide (a.val % Pq=b.val % Pq):=by
 obtain ⟨h1,h2⟩:=reduced_val a
 obtain ⟨k1,k2⟩:=reduced_val b
 unfold sameE
 rw [eqE_eq,decide_eq_decide,← h2,← k2]
 exact ⟨fun h=>by rw [h],fun h=>E5.ext_val h1 k1 h⟩
end Go.Num
namespace Go.Num
open Go Go.Eng
structure Rel (a:E5) (x:N16):Prop where
 ok:a.ok
 okP:x.ok
 val:x.val=a.val % Pq
theorem Rel.lt {a:E5}{x:N16}(h:Rel a x):x.val < Pq:=by rw [h.val]; exact Nat.mod_lt _ Pq_pos
theorem Rel.mod {a:E5}{x:N16}(h:Rel a x):a.val % Pq=x.val:=h.val.symm
theorem Rel.bytes {a:E5}{x:N16}(h:Rel a x):bytesE a=bytesN x:=
 leNat_inj (by rw [bytesE_len,bytesN_len]) (by rw [bytesE_val,bytesN_val x h.okP,h.val])
theorem rel_of {s:List UInt8}(h:isLen s 32=true):Rel (ofEl s) (ofP s):=by
 obtain ⟨o,e⟩:=ofP_val (isLen_eq.1 h)
 exact ⟨ofEl_ok s,o,by rw [e,ofEl_val h]⟩
theorem rel_zero:Rel zeroE zeroN:=⟨zeroE_ok,zeroN_ok,by rw [zeroN_val,zeroE_val]; rfl⟩
theorem rel_small (n:UInt32):Rel (smallE n) (smallN n):=by
 obtain ⟨o,e⟩:=smallN_val n
 obtain ⟨o2,e2⟩:=smallE_val n
 refine ⟨o2,o,?_⟩
 have h:=n.toNat_lt
 simp only [Nat.reducePow] at h
 rw [e,e2,Nat.mod_eq_of_lt (by unfold Pq; omega)]
theorem rel_add {a b:E5}{x y:N16}(h:Rel a x) (k:Rel b y):Rel (addE a b) (addP x y):=by
 obtain ⟨o,e⟩:=addP_val x y h.okP k.okP
 obtain ⟨o2,e2⟩:=addE_val a b h.ok k.ok
 exact ⟨o2,o,by rw [e,e2,h.val,k.val,← Nat.add_mod]⟩
theorem rel_mul {a b:E5}{x y:N16}(h:Rel a x) (k:Rel b y):Rel (mulE a b) (mulP x y):=by
 obtain ⟨o,e⟩:=mulP_val x y h.okP k.okP
 obtain ⟨o2,e2⟩:=mulE_val a b h.ok k.ok
 exact ⟨o2,o,by rw [e,e2,h.val,k.val,← Nat.mul_mod]⟩
theorem sub_mod (a b P:Nat) (hP:0 < P) (hb:b≤2 * P):(a+(2 * P - b)) % P=(a % P+(P - b % P)) % P:=by
 have h1:=Nat.div_add_mod b P
 have h2:=Nat.mod_lt b hP
 have h3:=Nat.div_add_mod a P
 have h4:b / P≤2:=Nat.div_le_of_le_mul (by rw [Nat.mul_comm]; exact hb)
 generalize b % P=r at *
 generalize hq:b / P=q at *
 have h5:q=0 ∨ q=1 ∨ q=2:=by omega
 have h6:(a % P+(P - r)) % P=(a+(P - r)) % P:=by rw [Nat.mod_add_mod]
 rw [h6]
 rcases h5 with rfl | rfl | rfl
 ·have e:a+(2 * P - b)=(a+(P - r))+P * 1:=by omega
  rw [e,Nat.add_mul_mod_self_left]
 ·have e:a+(2 * P - b)=a+(P - r):=by omega
  rw [e]
 ·have e:a+(P - r)=a+(2 * P - b)+P * 1:=by omega
  rw [e,Nat.add_mul_mod_self_left]
theorem rel_sub {a b:E5}{x y:N16}(h:Rel a x) (k:Rel b y):Rel (subE a b) (subP x y):=by
 obtain ⟨o,e⟩:=subP_val x y h.okP k.okP k.lt
 obtain ⟨o2,e2,hle⟩:=subE_val a b h.ok k.ok
 exact ⟨o2,o,by rw [e,e2,h.val,k.val,sub_mod _ _ _ Pq_pos hle]⟩
structure PowE (a:E5) (n:Nat) (x:E5):Prop where
 ok:x.ok
 val:x.val % Pq=a.val ^ n % Pq
theorem pow_one {a:E5}(h:a.ok):PowE a 1 a:=⟨h,by rw [Nat.pow_one]⟩
theorem pow_mul {a x y:E5}{m n:Nat}(h:PowE a m x) (k:PowE a n y):PowE a (m+n) (mulE x y):=by
 obtain ⟨o,e⟩:=mulE_val x y h.ok k.ok
 exact ⟨o,by rw [e,Nat.mul_mod,h.val,k.val,← Nat.mul_mod,← Nat.pow_add]⟩
theorem pow_sq {a:E5}:∀ (n:Nat){x:E5}{m:Nat},PowE a m x→PowE a (m * 2 ^ n) (sqE x n)
 | 0,x,m,h=>by rw [Nat.pow_zero,Nat.mul_one]; exact h
 | n+1,x,m,h=>by
  have:=pow_sq n (pow_mul h h)
  have e:(m+m) * 2 ^ n=m * 2 ^ (n+1):=by rw [Nat.pow_succ,← Nat.mul_assoc,← Nat.two_mul,Nat.mul_comm 2 m,Nat.mul_assoc,Nat.mul_comm 2,← Nat.mul_assoc]
  rw [e] at this
  exact this
theorem pow_ones {a:E5}(ha:a.ok):∀ (f n:Nat),1≤n→n < 2 ^ f→PowE a (2 ^ n - 1) (onesF a f n)
 | 0,n,h1,h2=>by rw [Nat.pow_zero] at h2; omega
 | f+1,n,h1,h2=>by
  simp only [onesF]
  rcases beq_cases n 1 with ⟨e,hb⟩ | ⟨e,hb⟩
  ·rw [hb,cond_true,e]
   exact pow_one ha
  ·rw [hb,cond_false]
   have hm:1≤n / 2:=by omega
   have ih:=pow_ones ha f (n / 2) hm (by rw [Nat.pow_succ] at h2; omega)
   have p:=pow_mul (pow_sq (n / 2) ih) ih
   have hp:1≤2 ^ (n / 2):=Nat.one_le_two_pow
   have e1:(2 ^ (n / 2) - 1) * 2 ^ (n / 2)+(2 ^ (n / 2) - 1)=2 ^ (n / 2+n / 2) - 1:=by
    rw [Nat.pow_add,Nat.sub_mul,Nat.one_mul]
    have:2 ^ (n / 2)≤2 ^ (n / 2) * 2 ^ (n / 2):=Nat.le_mul_of_pos_left _ hp
    omega
   rw [e1] at p
   rcases beq_cases (n % 2) 1 with ⟨e2,hb2⟩ | ⟨e2,hb2⟩
   ·rw [hb2,cond_true]
    have p2:=pow_mul (pow_sq 1 p) (pow_one ha)
    have e3:(2 ^ (n / 2+n / 2) - 1) * 2 ^ 1+1=2 ^ n - 1:=by
     have e4:n=n / 2+n / 2+1:=by omega
     have:1≤2 ^ (n / 2+n / 2):=Nat.one_le_two_pow
     conv=>rhs; rw [e4]
     rw [Nat.pow_succ]
     omega
    rw [e3] at p2
    exact p2
   ·rw [hb2,cond_false]
    have e4:n / 2+n / 2=n:=by omega
    rw [e4] at p
    exact p
def eInv:Nat:=bitsNat 0 (bitsL 255 21)
theorem eInv_eq:(2 ^ 250 - 1) * 2 ^ 5+(1+1+1+1 * 2 ^ 3)=eInv:=by kernel_rfl
theorem pow_inv {a:E5}(ha:a.ok):PowE a eInv (invE a):=by
 have h:=pow_ones ha 8 250 (by decide) (by decide)
 have p:=pow_mul (pow_sq 5 h) (pow_mul (pow_mul (pow_mul (pow_one ha) (pow_one ha)) (pow_one ha)) (pow_sq 3 (pow_one ha)))
 rw [eInv_eq] at p
 have e:invE a=mulE (sqE (onesF a 8 250) 5) (mulE (mulE (mulE a a) a) (sqE a 3)):=by unfold invE onesE; rfl
 rw [e]
 exact p
theorem rel_pow {a b:E5}{x:N16}{l:List Bool}(h:Rel a x) (p:PowE a (bitsNat 0 l) b):Rel b (powP x l):=by
 refine ⟨p.ok,powP_ok x h.okP l,?_⟩
 rw [powP_val x h.okP,p.val,h.val,← Nat.pow_mod]
theorem rel_inv {a:E5}{x:N16}(h:Rel a x):Rel (invE a) (invP x):=rel_pow h (pow_inv h.ok)
end Go.Num
namespace Go.Num
open Go Go.Eng
end Go.Num
namespace Go.Num
open Go Go.Eng
theorem neg_nat {a:E5}(ha:a.ok):(negE a).ok∧(negE a).val % Pq=(Pq - a.val % Pq) % Pq:=by
 obtain ⟨o,e,hle⟩:=subE_val zeroE a zeroE_ok ha
 refine ⟨o,?_⟩
 unfold negE
 rw [e,sub_mod _ _ _ Pq_pos hle,zeroE_val,Nat.zero_mod,Nat.zero_add]
theorem small_mod (n:UInt32):(smallE n).val % Pq=n.toNat:=by
 have h:=n.toNat_lt
 simp only [Nat.reducePow] at h
 rw [(smallE_val n).2,Nat.mod_eq_of_lt (by unfold Pq; omega)]
end Go.Num
namespace Go.Num
def pwB (n a x:Nat):List Bool→Nat
 | []=>x
 | b::l=>pwB n a (cond b (x * x % n * a % n) (x * x % n)) l
def bN (k:Nat):List Bool→Nat
 | []=>k
 | b::l=>bN (cond b (k+k+1) (k+k)) l
theorem pwB_val (n a:Nat):∀ (l:List Bool) (x k:Nat),x=a ^ k % n→pwB n a x l=a ^ (bN k l) % n
 | [],x,k,h=>h
 | b::l,x,k,h=>by
  unfold pwB bN
  refine pwB_val n a l _ _ ?_
  have e:x * x % n=a ^ (k+k) % n:=by rw [h,Nat.pow_add,← Nat.mul_mod]
  cases b with
  | false=>exact e
  | true =>
   show x * x % n * a % n=a ^ (k+k+1) % n
   rw [e,Nat.pow_succ,Nat.mod_mul_mod]
def bitsOf (e:Nat):List Bool:=(List.range 256).map fun i=>e.testBit (255 - i)
def pwE (n a e:Nat):Nat:=pwB n a 1 (bitsOf e)
theorem pwE_val {n a e:Nat}(hn:1 < n) (h:bN 0 (bitsOf e)=e):a ^ e % n=pwE n a e:=by
 have:=pwB_val n a (bitsOf e) 1 0 (by rw [Nat.pow_zero]; exact (Nat.mod_eq_of_lt hn).symm)
 unfold pwE
 rw [this,h]
end Go.Num
namespace Go.Num
open Go Go.Eng
theorem pow_congr {P a b:Nat}(h:a % P=b % P) (k:Nat):a ^ k % P=b ^ k % P:=by rw [Nat.pow_mod,h,← Nat.pow_mod]
theorem mul_congr {P a b c d:Nat}(h:a % P=b % P) (k:c % P=d % P):a * c % P=b * d % P:=by rw [Nat.mul_mod,h,k,← Nat.mul_mod]
structure Vm (x:E5) (n:Nat):Prop where
 ok:x.ok
 val:x.val % Pq=n % Pq
theorem Vm.self {x:E5}(h:x.ok):Vm x x.val:=⟨h,rfl⟩
theorem Vm.add {x y:E5}{n m:Nat}(h:Vm x n) (k:Vm y m):Vm (addE x y) (n+m):=by
 obtain ⟨o,e⟩:=addE_val x y h.ok k.ok
 exact ⟨o,by rw [e,Nat.add_mod,h.val,k.val,← Nat.add_mod]⟩
theorem Vm.mul {x y:E5}{n m:Nat}(h:Vm x n) (k:Vm y m):Vm (mulE x y) (n * m):=by
 obtain ⟨o,e⟩:=mulE_val x y h.ok k.ok
 exact ⟨o,by rw [e]; exact mul_congr h.val k.val⟩
theorem Vm.sub {x y:E5}{n m:Nat}(h:Vm x n) (k:Vm y m):Vm (subE x y) (n+(Pq - m % Pq)):=by
 obtain ⟨o,e,hle⟩:=subE_val x y h.ok k.ok
 refine ⟨o,?_⟩
 rw [e,sub_mod _ _ _ Pq_pos hle,k.val,h.val,← Nat.add_mod_mod,Nat.add_mod_mod,Nat.add_mod]
 rw [Nat.mod_mod,← Nat.add_mod]
theorem Vm.neg {x:E5}{n:Nat}(h:Vm x n):Vm (negE x) (Pq - n % Pq):=by
 obtain ⟨o,e⟩:=neg_nat h.ok
 exact ⟨o,by rw [e,h.val]⟩
theorem Vm.same {x y:E5}{n m:Nat}(h:Vm x n) (k:Vm y m):sameE x y=decide (n % Pq=m % Pq):=by rw [sameE_eq,h.val,k.val]
theorem fInv:eInv=Pq - 2:=by kernel_rfl
theorem vm_inv {a:E5}{n:Nat}(h:Vm a n):Vm (invE a) (n ^ (Pq - 2)):=by
 have p:=pow_inv h.ok
 refine ⟨p.ok,?_⟩
 rw [p.val,fInv]
 generalize Pq - 2=e
 exact pow_congr h.val e
end Go.Num
namespace Go.Num
open Go Go.Eng
structure Ops (R:Type) where
 add:R→R→R
 sub:R→R→R
 mul:R→R→R
 small:UInt32→R
 zero:R
structure P2 (R:Type) where
 x:R
 z:R
def stepO {R:Type}(o:Ops R) (p q:P2 R) (u:R):P2 R × P2 R:=
  (⟨o.mul (o.mul (o.add p.x p.z) (o.add p.x p.z)) (o.mul (o.sub p.x p.z) (o.sub p.x p.z)),
    o.mul (o.sub (o.mul (o.add p.x p.z) (o.add p.x p.z)) (o.mul (o.sub p.x p.z) (o.sub p.x p.z))) (o.add (o.mul (o.add p.x p.z) (o.add p.x p.z)) (o.mul (o.small 121665) (o.sub (o.mul (o.add p.x p.z) (o.add p.x p.z)) (o.mul (o.sub p.x p.z) (o.sub p.x p.z)))))⟩,
   ⟨o.mul (o.add (o.mul (o.sub q.x q.z) (o.add p.x p.z)) (o.mul (o.add q.x q.z) (o.sub p.x p.z))) (o.add (o.mul (o.sub q.x q.z) (o.add p.x p.z)) (o.mul (o.add q.x q.z) (o.sub p.x p.z))),
    o.mul u (o.mul (o.sub (o.mul (o.sub q.x q.z) (o.add p.x p.z)) (o.mul (o.add q.x q.z) (o.sub p.x p.z))) (o.sub (o.mul (o.sub q.x q.z) (o.add p.x p.z)) (o.mul (o.add q.x q.z) (o.sub p.x p.z))))⟩)
def rndO {R:Type}(o:Ops R) (u:R) (b:Bool) (s:P2 R × P2 R):P2 R × P2 R:=
 cond b ((stepO o s.2 s.1 u).2,(stepO o s.2 s.1 u).1) (stepO o s.1 s.2 u)
def bitB (k:List UInt8) (i:Nat):UInt8:=shr_u8 (k.getD (i / 8) 0) (i % 8) &&& 1
def bitK (k:List UInt8) (i:Nat):Bool:=bitB k i == 1
def ladO {R:Type}(o:Ops R) (k:List UInt8) (u:R):Nat→P2 R × P2 R
 | 0=>(⟨o.small 1,o.zero⟩,⟨u,o.small 1⟩)
 | j+1=>rndO o u (bitK k (254 - j)) (ladO o k u j)
structure Keeps {R S:Type} (o:Ops R) (o':Ops S) (r:R→S→Prop):Prop where
 add:∀ {a b x y},r a x→r b y→r (o.add a b) (o'.add x y)
 sub:∀ {a b x y},r a x→r b y→r (o.sub a b) (o'.sub x y)
 mul:∀ {a b x y},r a x→r b y→r (o.mul a b) (o'.mul x y)
 small:∀ n,r (o.small n) (o'.small n)
 zero:r o.zero o'.zero
def R2 {R S:Type}(r:R→S→Prop) (p:P2 R) (q:P2 S):Prop:=r p.x q.x∧r p.z q.z
theorem step_keeps {R S:Type}{o:Ops R}{o':Ops S}{r:R→S→Prop}(k:Keeps o o' r){p q:P2 R}{p' q':P2 S}{u:R}{u':S}(hp:R2 r p p') (hq:R2 r q q') (hu:r u u') :
  R2 r (stepO o p q u).1 (stepO o' p' q' u').1∧R2 r (stepO o p q u).2 (stepO o' p' q' u').2:=by
 have a:=k.add hp.1 hp.2
 have d:=k.sub hp.1 hp.2
 have aa:=k.mul a a
 have dd:=k.mul d d
 have e:=k.sub aa dd
 have da:=k.mul (k.sub hq.1 hq.2) a
 have cb:=k.mul (k.add hq.1 hq.2) d
 have s:=k.add da cb
 have t:=k.sub da cb
 exact ⟨⟨k.mul aa dd,k.mul e (k.add aa (k.mul (k.small _) e))⟩,⟨k.mul s s,k.mul hu (k.mul t t)⟩⟩
theorem lad_keeps {R S:Type}{o:Ops R}{o':Ops S}{r:R→S→Prop}(k:Keeps o o' r) (l:List UInt8){u:R}{u':S}(hu:r u u') :
  ∀ j,R2 r (ladO o l u j).1 (ladO o' l u' j).1∧R2 r (ladO o l u j).2 (ladO o' l u' j).2
 | 0=>⟨⟨k.small 1,k.zero⟩,⟨hu,k.small 1⟩⟩
 | j+1=>by
  have ih:=lad_keeps k l hu j
  unfold ladO rndO
  cases bitK l (254 - j) with
  | false=>exact step_keeps k ih.1 ih.2 hu
  | true =>
   have:=step_keeps k ih.2 ih.1 hu
   exact ⟨this.2,this.1⟩
def opsE:Ops E5:=⟨addE,subE,mulE,smallE,zeroE⟩
def opsN:Ops N16:=⟨addP,subP,mulP,smallN,zeroN⟩
def opsM:Ops Nat:=⟨fun a b=>(a+b) % Pq,fun a b=>(a+(Pq - b)) % Pq,fun a b=>a * b % Pq,fun n=>n.toNat,0⟩
theorem keeps_EN:Keeps opsE opsN Rel:=⟨rel_add,rel_sub,rel_mul,rel_small,rel_zero⟩
structure RelM (a:E5) (n:Nat):Prop where
 ok:a.ok
 val:a.val % Pq=n
theorem relM (a:E5) (h:a.ok):RelM a (a.val % Pq):=⟨h,rfl⟩
theorem RelM.lt {a:E5}{n:Nat}(h:RelM a n):n < Pq:=by rw [← h.val]; exact Nat.mod_lt _ Pq_pos
theorem keeps_EM:Keeps opsE opsM RelM where
 add {a b x y} h k:=by
  obtain ⟨o,e⟩:=addE_val a b h.ok k.ok
  exact ⟨o,by show _=(x+y) % Pq; rw [← h.val,← k.val,← Nat.add_mod]; exact e⟩
 sub {a b x y} h k:=by
  obtain ⟨o,e,hle⟩:=subE_val a b h.ok k.ok
  refine ⟨o,?_⟩
  show _=(x+(Pq - y)) % Pq
  rw [← h.val,← k.val]
  exact e.trans (sub_mod _ _ _ Pq_pos hle)
 mul {a b x y} h k:=by
  obtain ⟨o,e⟩:=mulE_val a b h.ok k.ok
  exact ⟨o,by show _=x * y % Pq; rw [← h.val,← k.val,← Nat.mul_mod]; exact e⟩
 small n:=⟨(smallE_val n).1,small_mod n⟩
 zero:=⟨zeroE_ok,show zeroE.val % Pq=0 by rw [zeroE_val]; rfl⟩
def topL (u:List UInt8):List UInt8:=u.set 31 (u.getD 31 0 &&& 127)
def ladF (k u:List UInt8):P2 E5:=(ladO opsE (clampL k) (ofEl (topL u)) 255).1
def ladE (k u:List UInt8):List UInt8:=bytesE (mulE (ladF k u).x (invE (ladF k u).z))
def ladG (k u:List UInt8):P2 N16:=(ladO opsN (clampL k) (ofP (topL u)) 255).1
def ladP (k u:List UInt8):List UInt8:=bytesN (mulP (ladG k u).x (invP (ladG k u).z))
theorem topL_len {u:List UInt8}{n:Nat}(h:isLen u n=true):isLen (topL u) n=true:=by
 rw [isLen_eq] at h ⊢
 unfold topL
 rw [List.length_set]; exact h
theorem lad_same (k:List UInt8){u:List UInt8}(h:isLen u 32=true):ladE k u=ladP k u:=by
 have r:=(lad_keeps keeps_EN (clampL k) (rel_of (topL_len h)) 255).1
 exact (rel_mul r.1 (rel_inv r.2)).bytes
def ladM (k:List UInt8) (u:Nat):P2 Nat:=(ladO opsM (clampL k) u 255).1
def quotM (p:P2 Nat):Nat:=p.x * pwE Pq p.z (Pq - 2) % Pq
theorem pw_inv (x:Nat):pwE Pq x (Pq - 2)=x ^ (Pq - 2) % Pq:=(pwE_val (by decide) (by kernel_rfl)).symm
theorem ladE_val (k:List UInt8){u:List UInt8}:leNat (ladE k u)=quotM (ladM k ((ofEl (topL u)).val % Pq)):=by
 have r:=(lad_keeps keeps_EM (clampL k) (relM _ (ofEl_ok (topL u))) 255).1
 have vx:=Vm.self r.1.ok
 have vz:=vm_inv (Vm.self r.2.ok)
 have e:=(vx.mul vz).val
 unfold ladE
 rw [bytesE_val]
 refine e.trans ?_
 unfold quotM
 rw [pw_inv]
 generalize Pq - 2=n
 have h1:(ladF k u).x.val % Pq=(ladM k ((ofEl (topL u)).val % Pq)).x:=r.1.val
 have h2:(ladF k u).z.val % Pq=(ladM k ((ofEl (topL u)).val % Pq)).z:=r.2.val
 refine mul_congr (b:=(ladM k ((ofEl (topL u)).val % Pq)).x) ?_ ?_
 ·rw [← h1,Nat.mod_mod]; rfl
 ·rw [← h2,Nat.mod_mod]
  exact (Nat.pow_mod _ _ _).trans rfl
theorem ladE_len (k u:List UInt8):(ladE k u).length=32:=bytesE_len _
end Go.Num
namespace Go.Proofs.YtanaackimepkdaaGreatDoor
open Go Go.Eng Go.Num
def ptCells (p:P2 E5):List AVal:=[.u64 p.x.x0,.u64 p.x.x1,.u64 p.x.x2,.u64 p.x.x3,.u64 p.x.x4,.u64 p.z.x0,.u64 p.z.x1,.u64 p.z.x2,.u64 p.z.x3,.u64 p.z.x4]
def ptAv (p:P2 E5):AVal:=.agg (ptCells p)
theorem run106t (a0 a1 a2 a3 a4 a5 a6 a7 a8 a9 a10 a11 a12 a13 a14 a15 a16 a17 a18 a19 a20 a21 a22 a23 a24 a25 a26 a27 a28 a29 a30 a31:UInt8):(run1 Tryz.prog cs0 (mask 106) 100 106 [.str [a0,a1,a2,a3,a4,a5,a6,a7,a8,a9,a10,a11,a12,a13,a14,a15,a16,a17,a18,a19,a20,a21,a22,a23,a24,a25,a26,a27,a28,a29,a30,a31]] [] Tryz.prog.globals.size).map (·.1)=some (.tup [.str (clampL [a0,a1,a2,a3,a4,a5,a6,a7,a8,a9,a10,a11,a12,a13,a14,a15,a16,a17,a18,a19,a20,a21,a22,a23,a24,a25,a26,a27,a28,a29,a30,a31]),.int .i64 0]):=by kernel_rfl
theorem run133t (a0 a1 a2 a3 a4 a5 a6 a7 a8 a9 a10 a11 a12 a13 a14 a15 a16 a17 a18 a19 a20 a21 a22 a23 a24 a25 a26 a27 a28 a29 a30 a31:UInt8):(run1 Tryz.prog cs0 (mask 133) 100 133 [.str [a0,a1,a2,a3,a4,a5,a6,a7,a8,a9,a10,a11,a12,a13,a14,a15,a16,a17,a18,a19,a20,a21,a22,a23,a24,a25,a26,a27,a28,a29,a30,a31]] [] Tryz.prog.globals.size).map (·.1)=some (.str (clampL [a0,a1,a2,a3,a4,a5,a6,a7,a8,a9,a10,a11,a12,a13,a14,a15,a16,a17,a18,a19,a20,a21,a22,a23,a24,a25,a26,a27,a28,a29,a30,a31])):=by kernel_rfl
theorem run106 (s:List UInt8) (h:isLen s 32=true):(run1 Tryz.prog cs0 (mask 106) 100 106 [.str s] [] Tryz.prog.globals.size).map (·.1)=some (.tup [.str (clampL s),.int .i64 0]):=by
 obtain ⟨a0,a1,a2,a3,a4,a5,a6,a7,a8,a9,a10,a11,a12,a13,a14,a15,a16,a17,a18,a19,a20,a21,a22,a23,a24,a25,a26,a27,a28,a29,a30,a31,rfl⟩:=len32 (isLen_eq.1 h)
 exact run106t a0 a1 a2 a3 a4 a5 a6 a7 a8 a9 a10 a11 a12 a13 a14 a15 a16 a17 a18 a19 a20 a21 a22 a23 a24 a25 a26 a27 a28 a29 a30 a31
def p106:List AVal→Option (EffA × Bool)
 | [.str s]=>some (.pure (.tup [.str (clampL s),.int .i64 0]),isLen s 32)
 | _=>none
theorem p106_ok:CSOk Tryz.prog (csP (psOne 106 p106)):=csP_one fun args v he=>by
 unfold p106 at he
 split at he
 ·simp only [Option.some.injEq,Prod.mk.injEq] at he
  obtain ⟨rfl,h⟩:=he
  exact callOk_val cs0_ok hmix (run106 _ h) rfl rfl
 ·cases he
theorem run133 (s:List UInt8) (h:isLen s 32=true):(run1 Tryz.prog cs0 (mask 133) 100 133 [.str s] [] Tryz.prog.globals.size).map (·.1)=some (.str (clampL s)):=by
 obtain ⟨a0,a1,a2,a3,a4,a5,a6,a7,a8,a9,a10,a11,a12,a13,a14,a15,a16,a17,a18,a19,a20,a21,a22,a23,a24,a25,a26,a27,a28,a29,a30,a31,rfl⟩:=len32 (isLen_eq.1 h)
 exact run133t a0 a1 a2 a3 a4 a5 a6 a7 a8 a9 a10 a11 a12 a13 a14 a15 a16 a17 a18 a19 a20 a21 a22 a23 a24 a25 a26 a27 a28 a29 a30 a31
def p133:List AVal→Option (EffA × Bool)
 | [.str s]=>some (.pure (.str (clampL s)),isLen s 32)
 | _=>none
theorem p133_ok:CSOk Tryz.prog (csP (psOne 133 p133)):=csP_one fun args v he=>by
 unfold p133 at he
 split at he
 ·simp only [Option.some.injEq,Prod.mk.injEq] at he
  obtain ⟨rfl,h⟩:=he
  exact callOk_val cs0_ok hmix (run133 _ h) rfl rfl
 ·cases he
structure Fm where
 add:E5→E5→E5
 sub:E5→E5→E5
 mul:E5→E5→E5
 small:UInt32→E5
 inv:E5→E5
 bytes:E5→List UInt8
 of:List UInt8→E5
 ofR:List UInt8→Int
 addN:N16→N16→N16
 subN:N16→N16→N16
 mulN:N16→N16→N16
 smallN:UInt32→N16
 invN:N16→N16
 bytesN:N16→List UInt8
 ofN:List UInt8→N16
 ok:N16→Bool
 l32:List UInt8→Bool
 clamp:List UInt8→List UInt8
def realFm:Fm:=⟨addE,subE,mulE,smallE,invE,bytesE,ofEl,ofEr,addP,subP,mulP,smallN,invP,bytesN,ofP,okB,fun s=>isLen s 32,clampL⟩
def q154 (φ:Fm):List AVal→Option EffA
 | [.agg [.u64 a0,.u64 a1,.u64 a2,.u64 a3,.u64 a4],.agg [.u64 b0,.u64 b1,.u64 b2,.u64 b3,.u64 b4]]=>some (.pure (E5.av (φ.add (E5.mk a0 a1 a2 a3 a4) (E5.mk b0 b1 b2 b3 b4))))
 | _=>none
theorem q154_ok:CSOk Tryz.prog (csOne 154 (q154 realFm)):=csOne_ok fun args e he=>by
 unfold q154 at he
 split at he
 ·rename_i a0 a1 a2 a3 a4 b0 b1 b2 b3 b4
  cases he
  exact g154_ok 154 [(E5.av (E5.mk a0 a1 a2 a3 a4)),(E5.av (E5.mk b0 b1 b2 b3 b4))] _ rfl
 ·cases he
def q136 (φ:Fm):List AVal→Option (EffA × Bool)
 | [.agg [.u64 a0,.u64 a1,.u64 a2,.u64 a3,.u64 a4,.u64 a5,.u64 a6,.u64 a7,.u64 a8,.u64 a9,.u64 a10,.u64 a11,.u64 a12,.u64 a13,.u64 a14,.u64 a15],.agg [.u64 b0,.u64 b1,.u64 b2,.u64 b3,.u64 b4,.u64 b5,.u64 b6,.u64 b7,.u64 b8,.u64 b9,.u64 b10,.u64 b11,.u64 b12,.u64 b13,.u64 b14,.u64 b15]]=>some (.pure (N16.av (φ.addN (N16.mk a0 a1 a2 a3 a4 a5 a6 a7 a8 a9 a10 a11 a12 a13 a14 a15) (N16.mk b0 b1 b2 b3 b4 b5 b6 b7 b8 b9 b10 b11 b12 b13 b14 b15))),(φ.ok (N16.mk a0 a1 a2 a3 a4 a5 a6 a7 a8 a9 a10 a11 a12 a13 a14 a15) && φ.ok (N16.mk b0 b1 b2 b3 b4 b5 b6 b7 b8 b9 b10 b11 b12 b13 b14 b15)))
 | _=>none
theorem q136_ok:CSOk Tryz.prog (csP (psOne 136 (q136 realFm))):=csP_one fun args v he=>by
 unfold q136 at he
 split at he
 ·rename_i a0 a1 a2 a3 a4 a5 a6 a7 a8 a9 a10 a11 a12 a13 a14 a15 b0 b1 b2 b3 b4 b5 b6 b7 b8 b9 b10 b11 b12 b13 b14 b15
  simp only [Option.some.injEq,Prod.mk.injEq] at he
  obtain ⟨rfl,h⟩:=he
  have h2:(realFm.ok (N16.mk a0 a1 a2 a3 a4 a5 a6 a7 a8 a9 a10 a11 a12 a13 a14 a15) && realFm.ok (N16.mk b0 b1 b2 b3 b4 b5 b6 b7 b8 b9 b10 b11 b12 b13 b14 b15))=true:=h
  refine p136_ok 136 [(N16.av (N16.mk a0 a1 a2 a3 a4 a5 a6 a7 a8 a9 a10 a11 a12 a13 a14 a15)),(N16.av (N16.mk b0 b1 b2 b3 b4 b5 b6 b7 b8 b9 b10 b11 b12 b13 b14 b15))] _ ?_
  show cond ((realFm.ok (N16.mk a0 a1 a2 a3 a4 a5 a6 a7 a8 a9 a10 a11 a12 a13 a14 a15) && realFm.ok (N16.mk b0 b1 b2 b3 b4 b5 b6 b7 b8 b9 b10 b11 b12 b13 b14 b15))) _ _=_
  rw [h2]; rfl
 ·cases he
def q155 (φ:Fm):List AVal→Option EffA
 | [.agg [.u64 a0,.u64 a1,.u64 a2,.u64 a3,.u64 a4],.agg [.u64 b0,.u64 b1,.u64 b2,.u64 b3,.u64 b4]]=>some (.pure (E5.av (φ.sub (E5.mk a0 a1 a2 a3 a4) (E5.mk b0 b1 b2 b3 b4))))
 | _=>none
theorem q155_ok:CSOk Tryz.prog (csOne 155 (q155 realFm)):=csOne_ok fun args e he=>by
 unfold q155 at he
 split at he
 ·rename_i a0 a1 a2 a3 a4 b0 b1 b2 b3 b4
  cases he
  exact g155_ok 155 [(E5.av (E5.mk a0 a1 a2 a3 a4)),(E5.av (E5.mk b0 b1 b2 b3 b4))] _ rfl
 ·cases he
def q138 (φ:Fm):List AVal→Option (EffA × Bool)
 | [.agg [.u64 a0,.u64 a1,.u64 a2,.u64 a3,.u64 a4,.u64 a5,.u64 a6,.u64 a7,.u64 a8,.u64 a9,.u64 a10,.u64 a11,.u64 a12,.u64 a13,.u64 a14,.u64 a15],.agg [.u64 b0,.u64 b1,.u64 b2,.u64 b3,.u64 b4,.u64 b5,.u64 b6,.u64 b7,.u64 b8,.u64 b9,.u64 b10,.u64 b11,.u64 b12,.u64 b13,.u64 b14,.u64 b15]]=>some (.pure (N16.av (φ.subN (N16.mk a0 a1 a2 a3 a4 a5 a6 a7 a8 a9 a10 a11 a12 a13 a14 a15) (N16.mk b0 b1 b2 b3 b4 b5 b6 b7 b8 b9 b10 b11 b12 b13 b14 b15))),(φ.ok (N16.mk a0 a1 a2 a3 a4 a5 a6 a7 a8 a9 a10 a11 a12 a13 a14 a15) && φ.ok (N16.mk b0 b1 b2 b3 b4 b5 b6 b7 b8 b9 b10 b11 b12 b13 b14 b15)))
 | _=>none
theorem q138_ok:CSOk Tryz.prog (csP (psOne 138 (q138 realFm))):=csP_one fun args v he=>by
 unfold q138 at he
 split at he
 ·rename_i a0 a1 a2 a3 a4 a5 a6 a7 a8 a9 a10 a11 a12 a13 a14 a15 b0 b1 b2 b3 b4 b5 b6 b7 b8 b9 b10 b11 b12 b13 b14 b15
  simp only [Option.some.injEq,Prod.mk.injEq] at he
  obtain ⟨rfl,h⟩:=he
  have h2:(realFm.ok (N16.mk a0 a1 a2 a3 a4 a5 a6 a7 a8 a9 a10 a11 a12 a13 a14 a15) && realFm.ok (N16.mk b0 b1 b2 b3 b4 b5 b6 b7 b8 b9 b10 b11 b12 b13 b14 b15))=true:=h
  refine p138_ok 138 [(N16.av (N16.mk a0 a1 a2 a3 a4 a5 a6 a7 a8 a9 a10 a11 a12 a13 a14 a15)),(N16.av (N16.mk b0 b1 b2 b3 b4 b5 b6 b7 b8 b9 b10 b11 b12 b13 b14 b15))] _ ?_
  show cond ((realFm.ok (N16.mk a0 a1 a2 a3 a4 a5 a6 a7 a8 a9 a10 a11 a12 a13 a14 a15) && realFm.ok (N16.mk b0 b1 b2 b3 b4 b5 b6 b7 b8 b9 b10 b11 b12 b13 b14 b15))) _ _=_
  rw [h2]; rfl
 ·cases he
def q110 (φ:Fm):List AVal→Option EffA
 | [.agg [.u64 a0,.u64 a1,.u64 a2,.u64 a3,.u64 a4],.agg [.u64 b0,.u64 b1,.u64 b2,.u64 b3,.u64 b4]]=>some (.pure (E5.av (φ.mul (E5.mk a0 a1 a2 a3 a4) (E5.mk b0 b1 b2 b3 b4))))
 | _=>none
theorem q110_ok:CSOk Tryz.prog (csOne 110 (q110 realFm)):=csOne_ok fun args e he=>by
 unfold q110 at he
 split at he
 ·rename_i a0 a1 a2 a3 a4 b0 b1 b2 b3 b4
  cases he
  exact g110_ok 110 [(E5.av (E5.mk a0 a1 a2 a3 a4)),(E5.av (E5.mk b0 b1 b2 b3 b4))] _ rfl
 ·cases he
def q137 (φ:Fm):List AVal→Option (EffA × Bool)
 | [.agg [.u64 a0,.u64 a1,.u64 a2,.u64 a3,.u64 a4,.u64 a5,.u64 a6,.u64 a7,.u64 a8,.u64 a9,.u64 a10,.u64 a11,.u64 a12,.u64 a13,.u64 a14,.u64 a15],.agg [.u64 b0,.u64 b1,.u64 b2,.u64 b3,.u64 b4,.u64 b5,.u64 b6,.u64 b7,.u64 b8,.u64 b9,.u64 b10,.u64 b11,.u64 b12,.u64 b13,.u64 b14,.u64 b15]]=>some (.pure (N16.av (φ.mulN (N16.mk a0 a1 a2 a3 a4 a5 a6 a7 a8 a9 a10 a11 a12 a13 a14 a15) (N16.mk b0 b1 b2 b3 b4 b5 b6 b7 b8 b9 b10 b11 b12 b13 b14 b15))),(φ.ok (N16.mk a0 a1 a2 a3 a4 a5 a6 a7 a8 a9 a10 a11 a12 a13 a14 a15) && φ.ok (N16.mk b0 b1 b2 b3 b4 b5 b6 b7 b8 b9 b10 b11 b12 b13 b14 b15)))
 | _=>none
theorem q137_ok:CSOk Tryz.prog (csP (psOne 137 (q137 realFm))):=csP_one fun args v he=>by
 unfold q137 at he
 split at he
 ·rename_i a0 a1 a2 a3 a4 a5 a6 a7 a8 a9 a10 a11 a12 a13 a14 a15 b0 b1 b2 b3 b4 b5 b6 b7 b8 b9 b10 b11 b12 b13 b14 b15
  simp only [Option.some.injEq,Prod.mk.injEq] at he
  obtain ⟨rfl,h⟩:=he
  have h2:(realFm.ok (N16.mk a0 a1 a2 a3 a4 a5 a6 a7 a8 a9 a10 a11 a12 a13 a14 a15) && realFm.ok (N16.mk b0 b1 b2 b3 b4 b5 b6 b7 b8 b9 b10 b11 b12 b13 b14 b15))=true:=h
  refine p137_ok 137 [(N16.av (N16.mk a0 a1 a2 a3 a4 a5 a6 a7 a8 a9 a10 a11 a12 a13 a14 a15)),(N16.av (N16.mk b0 b1 b2 b3 b4 b5 b6 b7 b8 b9 b10 b11 b12 b13 b14 b15))] _ ?_
  show cond ((realFm.ok (N16.mk a0 a1 a2 a3 a4 a5 a6 a7 a8 a9 a10 a11 a12 a13 a14 a15) && realFm.ok (N16.mk b0 b1 b2 b3 b4 b5 b6 b7 b8 b9 b10 b11 b12 b13 b14 b15))) _ _=_
  rw [h2]; rfl
 ·cases he
def q108 (φ:Fm):List AVal→Option EffA
 | [.u32 a]=>some (.pure (E5.av (φ.small a)))
 | _=>none
theorem q108_ok:CSOk Tryz.prog (csOne 108 (q108 realFm)):=csOne_ok fun args e he=>by
 unfold q108 at he
 split at he
 ·rename_i a
  cases he
  exact g108_ok 108 [(.u32 a)] _ rfl
 ·cases he
def q111 (φ:Fm):List AVal→Option EffA
 | [.agg [.u64 a0,.u64 a1,.u64 a2,.u64 a3,.u64 a4]]=>some (.pure (E5.av (φ.inv (E5.mk a0 a1 a2 a3 a4))))
 | _=>none
theorem q111_ok:CSOk Tryz.prog (csOne 111 (q111 realFm)):=csOne_ok fun args e he=>by
 unfold q111 at he
 split at he
 ·rename_i a0 a1 a2 a3 a4
  cases he
  exact g111_ok 111 [(E5.av (E5.mk a0 a1 a2 a3 a4))] _ rfl
 ·cases he
def q112 (φ:Fm):List AVal→Option EffA
 | [.agg [.u64 a0,.u64 a1,.u64 a2,.u64 a3,.u64 a4]]=>some (.pure (.str (φ.bytes (E5.mk a0 a1 a2 a3 a4))))
 | _=>none
theorem q112_ok:CSOk Tryz.prog (csOne 112 (q112 realFm)):=csOne_ok fun args e he=>by
 unfold q112 at he
 split at he
 ·rename_i a0 a1 a2 a3 a4
  cases he
  exact g112_ok 112 [(E5.av (E5.mk a0 a1 a2 a3 a4))] _ rfl
 ·cases he
def q107 (φ:Fm):List AVal→Option EffA
 | [.str a]=>some (.pure (.tup [(E5.av (φ.of a)),.int .i64 (φ.ofR a)]))
 | _=>none
theorem q107_ok:CSOk Tryz.prog (csOne 107 (q107 realFm)):=csOne_ok fun args e he=>by
 unfold q107 at he
 split at he
 ·rename_i a
  cases he
  exact g107_ok 107 [(.str a)] _ rfl
 ·cases he
def q135 (φ:Fm):List AVal→Option EffA
 | [.u32 a]=>some (.pure (N16.av (φ.smallN a)))
 | _=>none
theorem q135_ok:CSOk Tryz.prog (csOne 135 (q135 realFm)):=csOne_ok fun args e he=>by
 unfold q135 at he
 split at he
 ·rename_i a
  cases he
  exact g135_ok 135 [(.u32 a)] _ rfl
 ·cases he
def q139 (φ:Fm):List AVal→Option (EffA × Bool)
 | [.agg [.u64 a0,.u64 a1,.u64 a2,.u64 a3,.u64 a4,.u64 a5,.u64 a6,.u64 a7,.u64 a8,.u64 a9,.u64 a10,.u64 a11,.u64 a12,.u64 a13,.u64 a14,.u64 a15]]=>some (.pure (N16.av (φ.invN (N16.mk a0 a1 a2 a3 a4 a5 a6 a7 a8 a9 a10 a11 a12 a13 a14 a15))),φ.ok (N16.mk a0 a1 a2 a3 a4 a5 a6 a7 a8 a9 a10 a11 a12 a13 a14 a15))
 | _=>none
theorem q139_ok:CSOk Tryz.prog (csP (psOne 139 (q139 realFm))):=csP_one fun args v he=>by
 unfold q139 at he
 split at he
 ·rename_i a0 a1 a2 a3 a4 a5 a6 a7 a8 a9 a10 a11 a12 a13 a14 a15
  simp only [Option.some.injEq,Prod.mk.injEq] at he
  obtain ⟨rfl,h⟩:=he
  have h2:realFm.ok (N16.mk a0 a1 a2 a3 a4 a5 a6 a7 a8 a9 a10 a11 a12 a13 a14 a15)=true:=h
  refine p139_ok 139 [(N16.av (N16.mk a0 a1 a2 a3 a4 a5 a6 a7 a8 a9 a10 a11 a12 a13 a14 a15))] _ ?_
  show cond (realFm.ok (N16.mk a0 a1 a2 a3 a4 a5 a6 a7 a8 a9 a10 a11 a12 a13 a14 a15)) _ _=_
  rw [h2]; rfl
 ·cases he
def q140 (φ:Fm):List AVal→Option EffA
 | [.agg [.u64 a0,.u64 a1,.u64 a2,.u64 a3,.u64 a4,.u64 a5,.u64 a6,.u64 a7,.u64 a8,.u64 a9,.u64 a10,.u64 a11,.u64 a12,.u64 a13,.u64 a14,.u64 a15]]=>some (.pure (.str (φ.bytesN (N16.mk a0 a1 a2 a3 a4 a5 a6 a7 a8 a9 a10 a11 a12 a13 a14 a15))))
 | _=>none
theorem q140_ok:CSOk Tryz.prog (csOne 140 (q140 realFm)):=csOne_ok fun args e he=>by
 unfold q140 at he
 split at he
 ·rename_i a0 a1 a2 a3 a4 a5 a6 a7 a8 a9 a10 a11 a12 a13 a14 a15
  cases he
  exact g140_ok 140 [(N16.av (N16.mk a0 a1 a2 a3 a4 a5 a6 a7 a8 a9 a10 a11 a12 a13 a14 a15))] _ rfl
 ·cases he
def q134 (φ:Fm):List AVal→Option (EffA × Bool)
 | [.str a]=>some (.pure (N16.av (φ.ofN a)),φ.l32 a)
 | _=>none
theorem q134_ok:CSOk Tryz.prog (csP (psOne 134 (q134 realFm))):=csP_one fun args v he=>by
 unfold q134 at he
 split at he
 ·rename_i a
  simp only [Option.some.injEq,Prod.mk.injEq] at he
  obtain ⟨rfl,h⟩:=he
  have h2:realFm.l32 a=true:=h
  refine p134_ok 134 [(.str a)] _ ?_
  show cond (realFm.l32 a) _ _=_
  rw [h2]; rfl
 ·cases he
def q106 (φ:Fm):List AVal→Option (EffA × Bool)
 | [.str a]=>some (.pure (.tup [.str (φ.clamp a),.int .i64 0]),φ.l32 a)
 | _=>none
theorem q106_ok:CSOk Tryz.prog (csP (psOne 106 (q106 realFm))):=csP_one fun args v he=>by
 unfold q106 at he
 split at he
 ·rename_i a
  simp only [Option.some.injEq,Prod.mk.injEq] at he
  obtain ⟨rfl,h⟩:=he
  have h2:realFm.l32 a=true:=h
  refine p106_ok 106 [(.str a)] _ ?_
  show cond (realFm.l32 a) _ _=_
  rw [h2]; rfl
 ·cases he
def q133 (φ:Fm):List AVal→Option (EffA × Bool)
 | [.str a]=>some (.pure (.str (φ.clamp a)),φ.l32 a)
 | _=>none
theorem q133_ok:CSOk Tryz.prog (csP (psOne 133 (q133 realFm))):=csP_one fun args v he=>by
 unfold q133 at he
 split at he
 ·rename_i a
  simp only [Option.some.injEq,Prod.mk.injEq] at he
  obtain ⟨rfl,h⟩:=he
  have h2:realFm.l32 a=true:=h
  refine p133_ok 133 [(.str a)] _ ?_
  show cond (realFm.l32 a) _ _=_
  rw [h2]; rfl
 ·cases he
def psnm (φ:Fm):PS:=(psAlt (psOne 136 (q136 φ)) (psAlt (psOne 138 (q138 φ)) (psAlt (psOne 137 (q137 φ)) (psAlt (psOne 139 (q139 φ)) (psAlt (psOne 134 (q134 φ)) (psAlt (psOne 106 (q106 φ)) (psOne 133 (q133 φ))))))))
theorem psnm_ok:CSOk Tryz.prog (csP (psnm realFm)):=(csP_alt q136_ok (csP_alt q138_ok (csP_alt q137_ok (csP_alt q139_ok (csP_alt q134_ok (csP_alt q106_ok q133_ok))))))
def chnm (φ:Fm):CS:=(csAlt (csOne 154 (q154 φ)) (csAlt (csOne 155 (q155 φ)) (csAlt (csOne 110 (q110 φ)) (csAlt (csOne 108 (q108 φ)) (csAlt (csOne 111 (q111 φ)) (csAlt (csOne 112 (q112 φ)) (csAlt (csOne 107 (q107 φ)) (csAlt (csOne 135 (q135 φ)) (csOne 140 (q140 φ))))))))))
theorem chnm_ok:CSOk Tryz.prog (chnm realFm):=(csAlt_ok q154_ok (csAlt_ok q155_ok (csAlt_ok q110_ok (csAlt_ok q108_ok (csAlt_ok q111_ok (csAlt_ok q112_ok (csAlt_ok q107_ok (csAlt_ok q135_ok q140_ok))))))))
def nm (φ:Fm):CS:=csAlt (csP (psnm φ)) (chnm φ)
theorem nm_ok:CSOk Tryz.prog (nm realFm):=csAlt_ok psnm_ok chnm_ok
def opsφ (φ:Fm):Ops E5:=⟨φ.add,φ.sub,φ.mul,φ.small,zeroE⟩
theorem stepφ (φ:Fm) (p q:P2 E5) (u:E5):(run1 Tryz.prog (nm φ) (mask 109) 100 109 [ptAv p,ptAv q,u.av] [] Tryz.prog.globals.size).map (·.1)=some (.tup [ptAv (stepO (opsφ φ) p q u).1,ptAv (stepO (opsφ φ) p q u).2]):=by kernel_rfl
theorem run109 (p q:P2 E5) (u:E5):(run1 Tryz.prog (nm realFm) (mask 109) 100 109 [ptAv p,ptAv q,u.av] [] Tryz.prog.globals.size).map (·.1)=some (.tup [ptAv (stepO opsE p q u).1,ptAv (stepO opsE p q u).2]):=stepφ realFm p q u
def g109:List AVal→Option EffA
 | [.agg [.u64 a0,.u64 a1,.u64 a2,.u64 a3,.u64 a4,.u64 a5,.u64 a6,.u64 a7,.u64 a8,.u64 a9],.agg [.u64 b0,.u64 b1,.u64 b2,.u64 b3,.u64 b4,.u64 b5,.u64 b6,.u64 b7,.u64 b8,.u64 b9],.agg [.u64 c0,.u64 c1,.u64 c2,.u64 c3,.u64 c4]]=>some (.pure (.tup [ptAv (stepO opsE (P2.mk (E5.mk a0 a1 a2 a3 a4) (E5.mk a5 a6 a7 a8 a9)) (P2.mk (E5.mk b0 b1 b2 b3 b4) (E5.mk b5 b6 b7 b8 b9)) (E5.mk c0 c1 c2 c3 c4)).1,ptAv (stepO opsE (P2.mk (E5.mk a0 a1 a2 a3 a4) (E5.mk a5 a6 a7 a8 a9)) (P2.mk (E5.mk b0 b1 b2 b3 b4) (E5.mk b5 b6 b7 b8 b9)) (E5.mk c0 c1 c2 c3 c4)).2]))
 | _=>none
theorem g109_ok:CSOk Tryz.prog (csOne 109 g109):=csOne_ok fun args e he=>by
 unfold g109 at he
 split at he
 ·rename_i a0 a1 a2 a3 a4 a5 a6 a7 a8 a9 b0 b1 b2 b3 b4 b5 b6 b7 b8 b9 c0 c1 c2 c3 c4
  cases he
  exact callOk_val nm_ok hmix (run109 (P2.mk (E5.mk a0 a1 a2 a3 a4) (E5.mk a5 a6 a7 a8 a9)) (P2.mk (E5.mk b0 b1 b2 b3 b4) (E5.mk b5 b6 b7 b8 b9)) (E5.mk c0 c1 c2 c3 c4)) rfl rfl
 ·cases he
end Go.Proofs.YtanaackimepkdaaGreatDoor
namespace Go.Proofs.YtanaackimepkdaaGreatDoor
open Go Go.Eng Go.Num
structure Fl where
 add:E5→E5→E5
 sub:E5→E5→E5
 mul:E5→E5→E5
 small:UInt32→E5
 inv:E5→E5
 bytes:E5→List UInt8
 of:List UInt8→E5
 ofR:List UInt8→Int
 addN:N16→N16→N16
 subN:N16→N16→N16
 mulN:N16→N16→N16
 smallN:UInt32→N16
 invN:N16→N16
 bytesN:N16→List UInt8
 ofN:List UInt8→N16
 ok:N16→Bool
 l32:List UInt8→Bool
 clamp:List UInt8→List UInt8
 st1:P2 E5→P2 E5→E5→P2 E5
 st2:P2 E5→P2 E5→E5→P2 E5
def realFl:Fl:=⟨addE,subE,mulE,smallE,invE,bytesE,ofEl,ofEr,addP,subP,mulP,smallN,invP,bytesN,ofP,okB,fun s=>isLen s 32,clampL,fun p q u=>(stepO opsE p q u).1,fun p q u=>(stepO opsE p q u).2⟩
def l154 (φ:Fl):List AVal→Option EffA
 | [.agg [.u64 a0,.u64 a1,.u64 a2,.u64 a3,.u64 a4],.agg [.u64 b0,.u64 b1,.u64 b2,.u64 b3,.u64 b4]]=>some (.pure (E5.av (φ.add (E5.mk a0 a1 a2 a3 a4) (E5.mk b0 b1 b2 b3 b4))))
 | _=>none
theorem l154_ok:CSOk Tryz.prog (csOne 154 (l154 realFl)):=csOne_ok fun args e he=>by
 unfold l154 at he
 split at he
 ·rename_i a0 a1 a2 a3 a4 b0 b1 b2 b3 b4
  cases he
  exact g154_ok 154 [(E5.av (E5.mk a0 a1 a2 a3 a4)),(E5.av (E5.mk b0 b1 b2 b3 b4))] _ rfl
 ·cases he
def l136 (φ:Fl):List AVal→Option (EffA × Bool)
 | [.agg [.u64 a0,.u64 a1,.u64 a2,.u64 a3,.u64 a4,.u64 a5,.u64 a6,.u64 a7,.u64 a8,.u64 a9,.u64 a10,.u64 a11,.u64 a12,.u64 a13,.u64 a14,.u64 a15],.agg [.u64 b0,.u64 b1,.u64 b2,.u64 b3,.u64 b4,.u64 b5,.u64 b6,.u64 b7,.u64 b8,.u64 b9,.u64 b10,.u64 b11,.u64 b12,.u64 b13,.u64 b14,.u64 b15]]=>some (.pure (N16.av (φ.addN (N16.mk a0 a1 a2 a3 a4 a5 a6 a7 a8 a9 a10 a11 a12 a13 a14 a15) (N16.mk b0 b1 b2 b3 b4 b5 b6 b7 b8 b9 b10 b11 b12 b13 b14 b15))),(φ.ok (N16.mk a0 a1 a2 a3 a4 a5 a6 a7 a8 a9 a10 a11 a12 a13 a14 a15) && φ.ok (N16.mk b0 b1 b2 b3 b4 b5 b6 b7 b8 b9 b10 b11 b12 b13 b14 b15)))
 | _=>none
theorem l136_ok:CSOk Tryz.prog (csP (psOne 136 (l136 realFl))):=csP_one fun args v he=>by
 unfold l136 at he
 split at he
 ·rename_i a0 a1 a2 a3 a4 a5 a6 a7 a8 a9 a10 a11 a12 a13 a14 a15 b0 b1 b2 b3 b4 b5 b6 b7 b8 b9 b10 b11 b12 b13 b14 b15
  simp only [Option.some.injEq,Prod.mk.injEq] at he
  obtain ⟨rfl,h⟩:=he
  have h2:(realFl.ok (N16.mk a0 a1 a2 a3 a4 a5 a6 a7 a8 a9 a10 a11 a12 a13 a14 a15) && realFl.ok (N16.mk b0 b1 b2 b3 b4 b5 b6 b7 b8 b9 b10 b11 b12 b13 b14 b15))=true:=h
  refine p136_ok 136 [(N16.av (N16.mk a0 a1 a2 a3 a4 a5 a6 a7 a8 a9 a10 a11 a12 a13 a14 a15)),(N16.av (N16.mk b0 b1 b2 b3 b4 b5 b6 b7 b8 b9 b10 b11 b12 b13 b14 b15))] _ ?_
  show cond ((realFl.ok (N16.mk a0 a1 a2 a3 a4 a5 a6 a7 a8 a9 a10 a11 a12 a13 a14 a15) && realFl.ok (N16.mk b0 b1 b2 b3 b4 b5 b6 b7 b8 b9 b10 b11 b12 b13 b14 b15))) _ _=_
  rw [h2]; rfl
 ·cases he
def l155 (φ:Fl):List AVal→Option EffA
 | [.agg [.u64 a0,.u64 a1,.u64 a2,.u64 a3,.u64 a4],.agg [.u64 b0,.u64 b1,.u64 b2,.u64 b3,.u64 b4]]=>some (.pure (E5.av (φ.sub (E5.mk a0 a1 a2 a3 a4) (E5.mk b0 b1 b2 b3 b4))))
 | _=>none
theorem l155_ok:CSOk Tryz.prog (csOne 155 (l155 realFl)):=csOne_ok fun args e he=>by
 unfold l155 at he
 split at he
 ·rename_i a0 a1 a2 a3 a4 b0 b1 b2 b3 b4
  cases he
  exact g155_ok 155 [(E5.av (E5.mk a0 a1 a2 a3 a4)),(E5.av (E5.mk b0 b1 b2 b3 b4))] _ rfl
 ·cases he
def l138 (φ:Fl):List AVal→Option (EffA × Bool)
 | [.agg [.u64 a0,.u64 a1,.u64 a2,.u64 a3,.u64 a4,.u64 a5,.u64 a6,.u64 a7,.u64 a8,.u64 a9,.u64 a10,.u64 a11,.u64 a12,.u64 a13,.u64 a14,.u64 a15],.agg [.u64 b0,.u64 b1,.u64 b2,.u64 b3,.u64 b4,.u64 b5,.u64 b6,.u64 b7,.u64 b8,.u64 b9,.u64 b10,.u64 b11,.u64 b12,.u64 b13,.u64 b14,.u64 b15]]=>some (.pure (N16.av (φ.subN (N16.mk a0 a1 a2 a3 a4 a5 a6 a7 a8 a9 a10 a11 a12 a13 a14 a15) (N16.mk b0 b1 b2 b3 b4 b5 b6 b7 b8 b9 b10 b11 b12 b13 b14 b15))),(φ.ok (N16.mk a0 a1 a2 a3 a4 a5 a6 a7 a8 a9 a10 a11 a12 a13 a14 a15) && φ.ok (N16.mk b0 b1 b2 b3 b4 b5 b6 b7 b8 b9 b10 b11 b12 b13 b14 b15)))
 | _=>none
theorem l138_ok:CSOk Tryz.prog (csP (psOne 138 (l138 realFl))):=csP_one fun args v he=>by
 unfold l138 at he
 split at he
 ·rename_i a0 a1 a2 a3 a4 a5 a6 a7 a8 a9 a10 a11 a12 a13 a14 a15 b0 b1 b2 b3 b4 b5 b6 b7 b8 b9 b10 b11 b12 b13 b14 b15
  simp only [Option.some.injEq,Prod.mk.injEq] at he
  obtain ⟨rfl,h⟩:=he
  have h2:(realFl.ok (N16.mk a0 a1 a2 a3 a4 a5 a6 a7 a8 a9 a10 a11 a12 a13 a14 a15) && realFl.ok (N16.mk b0 b1 b2 b3 b4 b5 b6 b7 b8 b9 b10 b11 b12 b13 b14 b15))=true:=h
  refine p138_ok 138 [(N16.av (N16.mk a0 a1 a2 a3 a4 a5 a6 a7 a8 a9 a10 a11 a12 a13 a14 a15)),(N16.av (N16.mk b0 b1 b2 b3 b4 b5 b6 b7 b8 b9 b10 b11 b12 b13 b14 b15))] _ ?_
  show cond ((realFl.ok (N16.mk a0 a1 a2 a3 a4 a5 a6 a7 a8 a9 a10 a11 a12 a13 a14 a15) && realFl.ok (N16.mk b0 b1 b2 b3 b4 b5 b6 b7 b8 b9 b10 b11 b12 b13 b14 b15))) _ _=_
  rw [h2]; rfl
 ·cases he
def l110 (φ:Fl):List AVal→Option EffA
 | [.agg [.u64 a0,.u64 a1,.u64 a2,.u64 a3,.u64 a4],.agg [.u64 b0,.u64 b1,.u64 b2,.u64 b3,.u64 b4]]=>some (.pure (E5.av (φ.mul (E5.mk a0 a1 a2 a3 a4) (E5.mk b0 b1 b2 b3 b4))))
 | _=>none
theorem l110_ok:CSOk Tryz.prog (csOne 110 (l110 realFl)):=csOne_ok fun args e he=>by
 unfold l110 at he
 split at he
 ·rename_i a0 a1 a2 a3 a4 b0 b1 b2 b3 b4
  cases he
  exact g110_ok 110 [(E5.av (E5.mk a0 a1 a2 a3 a4)),(E5.av (E5.mk b0 b1 b2 b3 b4))] _ rfl
 ·cases he
def l137 (φ:Fl):List AVal→Option (EffA × Bool)
 | [.agg [.u64 a0,.u64 a1,.u64 a2,.u64 a3,.u64 a4,.u64 a5,.u64 a6,.u64 a7,.u64 a8,.u64 a9,.u64 a10,.u64 a11,.u64 a12,.u64 a13,.u64 a14,.u64 a15],.agg [.u64 b0,.u64 b1,.u64 b2,.u64 b3,.u64 b4,.u64 b5,.u64 b6,.u64 b7,.u64 b8,.u64 b9,.u64 b10,.u64 b11,.u64 b12,.u64 b13,.u64 b14,.u64 b15]]=>some (.pure (N16.av (φ.mulN (N16.mk a0 a1 a2 a3 a4 a5 a6 a7 a8 a9 a10 a11 a12 a13 a14 a15) (N16.mk b0 b1 b2 b3 b4 b5 b6 b7 b8 b9 b10 b11 b12 b13 b14 b15))),(φ.ok (N16.mk a0 a1 a2 a3 a4 a5 a6 a7 a8 a9 a10 a11 a12 a13 a14 a15) && φ.ok (N16.mk b0 b1 b2 b3 b4 b5 b6 b7 b8 b9 b10 b11 b12 b13 b14 b15)))
 | _=>none
theorem l137_ok:CSOk Tryz.prog (csP (psOne 137 (l137 realFl))):=csP_one fun args v he=>by
 unfold l137 at he
 split at he
 ·rename_i a0 a1 a2 a3 a4 a5 a6 a7 a8 a9 a10 a11 a12 a13 a14 a15 b0 b1 b2 b3 b4 b5 b6 b7 b8 b9 b10 b11 b12 b13 b14 b15
  simp only [Option.some.injEq,Prod.mk.injEq] at he
  obtain ⟨rfl,h⟩:=he
  have h2:(realFl.ok (N16.mk a0 a1 a2 a3 a4 a5 a6 a7 a8 a9 a10 a11 a12 a13 a14 a15) && realFl.ok (N16.mk b0 b1 b2 b3 b4 b5 b6 b7 b8 b9 b10 b11 b12 b13 b14 b15))=true:=h
  refine p137_ok 137 [(N16.av (N16.mk a0 a1 a2 a3 a4 a5 a6 a7 a8 a9 a10 a11 a12 a13 a14 a15)),(N16.av (N16.mk b0 b1 b2 b3 b4 b5 b6 b7 b8 b9 b10 b11 b12 b13 b14 b15))] _ ?_
  show cond ((realFl.ok (N16.mk a0 a1 a2 a3 a4 a5 a6 a7 a8 a9 a10 a11 a12 a13 a14 a15) && realFl.ok (N16.mk b0 b1 b2 b3 b4 b5 b6 b7 b8 b9 b10 b11 b12 b13 b14 b15))) _ _=_
  rw [h2]; rfl
 ·cases he
def l108 (φ:Fl):List AVal→Option EffA
 | [.u32 a]=>some (.pure (E5.av (φ.small a)))
 | _=>none
theorem l108_ok:CSOk Tryz.prog (csOne 108 (l108 realFl)):=csOne_ok fun args e he=>by
 unfold l108 at he
 split at he
 ·rename_i a
  cases he
  exact g108_ok 108 [(.u32 a)] _ rfl
 ·cases he
def l111 (φ:Fl):List AVal→Option EffA
 | [.agg [.u64 a0,.u64 a1,.u64 a2,.u64 a3,.u64 a4]]=>some (.pure (E5.av (φ.inv (E5.mk a0 a1 a2 a3 a4))))
 | _=>none
theorem l111_ok:CSOk Tryz.prog (csOne 111 (l111 realFl)):=csOne_ok fun args e he=>by
 unfold l111 at he
 split at he
 ·rename_i a0 a1 a2 a3 a4
  cases he
  exact g111_ok 111 [(E5.av (E5.mk a0 a1 a2 a3 a4))] _ rfl
 ·cases he
def l112 (φ:Fl):List AVal→Option EffA
 | [.agg [.u64 a0,.u64 a1,.u64 a2,.u64 a3,.u64 a4]]=>some (.pure (.str (φ.bytes (E5.mk a0 a1 a2 a3 a4))))
 | _=>none
theorem l112_ok:CSOk Tryz.prog (csOne 112 (l112 realFl)):=csOne_ok fun args e he=>by
 unfold l112 at he
 split at he
 ·rename_i a0 a1 a2 a3 a4
  cases he
  exact g112_ok 112 [(E5.av (E5.mk a0 a1 a2 a3 a4))] _ rfl
 ·cases he
def l107 (φ:Fl):List AVal→Option EffA
 | [.str a]=>some (.pure (.tup [(E5.av (φ.of a)),.int .i64 (φ.ofR a)]))
 | _=>none
theorem l107_ok:CSOk Tryz.prog (csOne 107 (l107 realFl)):=csOne_ok fun args e he=>by
 unfold l107 at he
 split at he
 ·rename_i a
  cases he
  exact g107_ok 107 [(.str a)] _ rfl
 ·cases he
def l135 (φ:Fl):List AVal→Option EffA
 | [.u32 a]=>some (.pure (N16.av (φ.smallN a)))
 | _=>none
theorem l135_ok:CSOk Tryz.prog (csOne 135 (l135 realFl)):=csOne_ok fun args e he=>by
 unfold l135 at he
 split at he
 ·rename_i a
  cases he
  exact g135_ok 135 [(.u32 a)] _ rfl
 ·cases he
def l139 (φ:Fl):List AVal→Option (EffA × Bool)
 | [.agg [.u64 a0,.u64 a1,.u64 a2,.u64 a3,.u64 a4,.u64 a5,.u64 a6,.u64 a7,.u64 a8,.u64 a9,.u64 a10,.u64 a11,.u64 a12,.u64 a13,.u64 a14,.u64 a15]]=>some (.pure (N16.av (φ.invN (N16.mk a0 a1 a2 a3 a4 a5 a6 a7 a8 a9 a10 a11 a12 a13 a14 a15))),φ.ok (N16.mk a0 a1 a2 a3 a4 a5 a6 a7 a8 a9 a10 a11 a12 a13 a14 a15))
 | _=>none
theorem l139_ok:CSOk Tryz.prog (csP (psOne 139 (l139 realFl))):=csP_one fun args v he=>by
 unfold l139 at he
 split at he
 ·rename_i a0 a1 a2 a3 a4 a5 a6 a7 a8 a9 a10 a11 a12 a13 a14 a15
  simp only [Option.some.injEq,Prod.mk.injEq] at he
  obtain ⟨rfl,h⟩:=he
  have h2:realFl.ok (N16.mk a0 a1 a2 a3 a4 a5 a6 a7 a8 a9 a10 a11 a12 a13 a14 a15)=true:=h
  refine p139_ok 139 [(N16.av (N16.mk a0 a1 a2 a3 a4 a5 a6 a7 a8 a9 a10 a11 a12 a13 a14 a15))] _ ?_
  show cond (realFl.ok (N16.mk a0 a1 a2 a3 a4 a5 a6 a7 a8 a9 a10 a11 a12 a13 a14 a15)) _ _=_
  rw [h2]; rfl
 ·cases he
def l140 (φ:Fl):List AVal→Option EffA
 | [.agg [.u64 a0,.u64 a1,.u64 a2,.u64 a3,.u64 a4,.u64 a5,.u64 a6,.u64 a7,.u64 a8,.u64 a9,.u64 a10,.u64 a11,.u64 a12,.u64 a13,.u64 a14,.u64 a15]]=>some (.pure (.str (φ.bytesN (N16.mk a0 a1 a2 a3 a4 a5 a6 a7 a8 a9 a10 a11 a12 a13 a14 a15))))
 | _=>none
theorem l140_ok:CSOk Tryz.prog (csOne 140 (l140 realFl)):=csOne_ok fun args e he=>by
 unfold l140 at he
 split at he
 ·rename_i a0 a1 a2 a3 a4 a5 a6 a7 a8 a9 a10 a11 a12 a13 a14 a15
  cases he
  exact g140_ok 140 [(N16.av (N16.mk a0 a1 a2 a3 a4 a5 a6 a7 a8 a9 a10 a11 a12 a13 a14 a15))] _ rfl
 ·cases he
def l134 (φ:Fl):List AVal→Option (EffA × Bool)
 | [.str a]=>some (.pure (N16.av (φ.ofN a)),φ.l32 a)
 | _=>none
theorem l134_ok:CSOk Tryz.prog (csP (psOne 134 (l134 realFl))):=csP_one fun args v he=>by
 unfold l134 at he
 split at he
 ·rename_i a
  simp only [Option.some.injEq,Prod.mk.injEq] at he
  obtain ⟨rfl,h⟩:=he
  have h2:realFl.l32 a=true:=h
  refine p134_ok 134 [(.str a)] _ ?_
  show cond (realFl.l32 a) _ _=_
  rw [h2]; rfl
 ·cases he
def l106 (φ:Fl):List AVal→Option (EffA × Bool)
 | [.str a]=>some (.pure (.tup [.str (φ.clamp a),.int .i64 0]),φ.l32 a)
 | _=>none
theorem l106_ok:CSOk Tryz.prog (csP (psOne 106 (l106 realFl))):=csP_one fun args v he=>by
 unfold l106 at he
 split at he
 ·rename_i a
  simp only [Option.some.injEq,Prod.mk.injEq] at he
  obtain ⟨rfl,h⟩:=he
  have h2:realFl.l32 a=true:=h
  refine p106_ok 106 [(.str a)] _ ?_
  show cond (realFl.l32 a) _ _=_
  rw [h2]; rfl
 ·cases he
def l133 (φ:Fl):List AVal→Option (EffA × Bool)
 | [.str a]=>some (.pure (.str (φ.clamp a)),φ.l32 a)
 | _=>none
theorem l133_ok:CSOk Tryz.prog (csP (psOne 133 (l133 realFl))):=csP_one fun args v he=>by
 unfold l133 at he
 split at he
 ·rename_i a
  simp only [Option.some.injEq,Prod.mk.injEq] at he
  obtain ⟨rfl,h⟩:=he
  have h2:realFl.l32 a=true:=h
  refine p133_ok 133 [(.str a)] _ ?_
  show cond (realFl.l32 a) _ _=_
  rw [h2]; rfl
 ·cases he
def l109 (φ:Fl):List AVal→Option EffA
 | [.agg [.u64 a0,.u64 a1,.u64 a2,.u64 a3,.u64 a4,.u64 a5,.u64 a6,.u64 a7,.u64 a8,.u64 a9],.agg [.u64 b0,.u64 b1,.u64 b2,.u64 b3,.u64 b4,.u64 b5,.u64 b6,.u64 b7,.u64 b8,.u64 b9],.agg [.u64 c0,.u64 c1,.u64 c2,.u64 c3,.u64 c4]]=>some (.pure (.tup [ptAv (φ.st1 (P2.mk (E5.mk a0 a1 a2 a3 a4) (E5.mk a5 a6 a7 a8 a9)) (P2.mk (E5.mk b0 b1 b2 b3 b4) (E5.mk b5 b6 b7 b8 b9)) (E5.mk c0 c1 c2 c3 c4)),ptAv (φ.st2 (P2.mk (E5.mk a0 a1 a2 a3 a4) (E5.mk a5 a6 a7 a8 a9)) (P2.mk (E5.mk b0 b1 b2 b3 b4) (E5.mk b5 b6 b7 b8 b9)) (E5.mk c0 c1 c2 c3 c4))]))
 | _=>none
theorem l109_ok:CSOk Tryz.prog (csOne 109 (l109 realFl)):=csOne_ok fun args e he=>by
 unfold l109 at he
 split at he
 ·rename_i a0 a1 a2 a3 a4 a5 a6 a7 a8 a9 b0 b1 b2 b3 b4 b5 b6 b7 b8 b9 c0 c1 c2 c3 c4
  cases he
  exact g109_ok 109 [(ptAv (P2.mk (E5.mk a0 a1 a2 a3 a4) (E5.mk a5 a6 a7 a8 a9))),(ptAv (P2.mk (E5.mk b0 b1 b2 b3 b4) (E5.mk b5 b6 b7 b8 b9))),(E5.av (E5.mk c0 c1 c2 c3 c4))] _ rfl
 ·cases he
def psnl (φ:Fl):PS:=(psAlt (psOne 136 (l136 φ)) (psAlt (psOne 138 (l138 φ)) (psAlt (psOne 137 (l137 φ)) (psAlt (psOne 139 (l139 φ)) (psAlt (psOne 134 (l134 φ)) (psAlt (psOne 106 (l106 φ)) (psOne 133 (l133 φ))))))))
theorem psnl_ok:CSOk Tryz.prog (csP (psnl realFl)):=(csP_alt l136_ok (csP_alt l138_ok (csP_alt l137_ok (csP_alt l139_ok (csP_alt l134_ok (csP_alt l106_ok l133_ok))))))
def chnl (φ:Fl):CS:=(csAlt (csOne 154 (l154 φ)) (csAlt (csOne 155 (l155 φ)) (csAlt (csOne 110 (l110 φ)) (csAlt (csOne 108 (l108 φ)) (csAlt (csOne 111 (l111 φ)) (csAlt (csOne 112 (l112 φ)) (csAlt (csOne 107 (l107 φ)) (csAlt (csOne 135 (l135 φ)) (csAlt (csOne 140 (l140 φ)) (csOne 109 (l109 φ)))))))))))
theorem chnl_ok:CSOk Tryz.prog (chnl realFl):=(csAlt_ok l154_ok (csAlt_ok l155_ok (csAlt_ok l110_ok (csAlt_ok l108_ok (csAlt_ok l111_ok (csAlt_ok l112_ok (csAlt_ok l107_ok (csAlt_ok l135_ok (csAlt_ok l140_ok l109_ok)))))))))
def nl (φ:Fl):CS:=csAlt (csP (psnl φ)) (chnl φ)
theorem nl_ok:CSOk Tryz.prog (nl realFl):=csAlt_ok psnl_ok chnl_ok
theorem nl_ps (φ:Fl):PSOk (psnl φ) (nl φ):=csP_ok
end Go.Proofs.YtanaackimepkdaaGreatDoor
namespace Go.Proofs.YtanaackimepkdaaGreatDoor
open Go Go.Eng Go.Num
def S14 (k u kk:List UInt8) (cb:List AVal) (x:E5) (p q:P2 E5) (i:Int):SA:=⟨[(0,.str k),(1,.str u),(4,.str []),(5,.str kk),(7,.slice 77 0 32 1),(8,.ptr 189 0),(10,.ptr 269 0),(11,.int .i64 i)],[(77,.cells false cb),(189,.cells false x.cells),(269,.cells false (ptCells p++ptCells q))],293⟩
noncomputable def cd14:List Code:=pieces (bodyOf Tryz.f74)
noncomputable def b14:Code:=loopOf (cd14.getD 7 .skip)
def S15 (k u kk:List UInt8) (cb:List AVal) (x:N16) (p q:P2 N16) (i:Int):SA:=⟨[(0,.str k),(1,.str u),(4,.str []),(5,.str kk),(6,.slice 45 0 32 1),(7,.ptr 141 0),(8,.ptr 165 0),(9,.ptr 189 0),(10,.ptr 213 0),(11,.ptr 237 0),(12,.int .i64 i)],[(45,.cells false cb),(141,.cells false x.cells),(165,.cells false p.x.cells),(189,.cells false p.z.cells),(213,.cells false q.x.cells),(237,.cells false q.z.cells)],261⟩
noncomputable def cd15:List Code:=pieces (bodyOf Tryz.f83)
noncomputable def b15:Code:=loopOf (cd15.getD 10 .skip)
end Go.Proofs.YtanaackimepkdaaGreatDoor
namespace Go.Proofs.YtanaackimepkdaaGreatDoor
open Go Go.Eng Go.Num
theorem bit_div (m:Nat) (hm:m < 1000000):IntKind.wrap .i64 (Int.tdiv (m:Int) 8)=((m / 8:Nat):Int):=by
 have e1:Int.tdiv (m:Int) 8=((m / 8:Nat):Int):=by rw [Int.tdiv_eq_ediv_of_nonneg (by omega)]; rfl
 rw [e1,wrapI _ (by omega) (by omega)]
theorem bit_rem (m:Nat) (hm:m < 1000000):UInt64.toNat (UInt64.ofInt (Int.tmod (m:Int) 8))=m % 8:=by
 have e2:Int.tmod (m:Int) 8=((m % 8:Nat):Int):=by rw [Int.tmod_eq_emod_of_nonneg (by omega)]; rfl
 rw [e2,ofInt_nat,UInt64.toNat_ofNat_of_lt']
 show _ < 18446744073709551616; omega
theorem bit_raw (kk:List UInt8) (m:Nat) (hm:m < 1000000):shr_u8 (List.getD kk (Int.toNat (IntKind.wrap IntKind.i64 (Int.tdiv (m:Int) 8))) 0) (UInt64.toNat (UInt64.ofInt (Int.tmod (m:Int) 8))) &&& 1=bitB kk m:=by
 rw [bit_div m hm,bit_rem m hm]; rfl
theorem bitB_cases (kk:List UInt8) (m:Nat):bitB kk m=0 ∨ bitB kk m=1:=by
 unfold bitB
 generalize shr_u8 (kk.getD (m / 8) 0) (m % 8)=x
 have h:(x &&& 1).toNat=x.toNat % 2:=by rw [UInt8.toNat_and]; exact Nat.and_one_is_mod _
 rcases Nat.mod_two_eq_zero_or_one x.toNat with e | e
 ·left; apply UInt8.toNat_inj.1; rw [h,e]; rfl
 ·right; apply UInt8.toNat_inj.1; rw [h,e]; rfl
theorem clamp_len {k:List UInt8}(h:isLen k 32=true):(clampL k).length=32:=by
 rw [isLen_eq] at h
 unfold clampL
 rw [List.length_set,List.length_set]; exact h
theorem pre14 (φ:Fl) (k:List UInt8) (u0 u1 u2 u3 u4 u5 u6 u7 u8 u9 u10 u11 u12 u13 u14 u15 u16 u17 u18 u19 u20 u21 u22 u23 u24 u25 u26 u27 u28 u29 u30 u31:UInt8):segO (evSO Tryz.prog (psnl φ) (nl φ) [15] 89 (mask 74) 1000 5 (cd14.take 7) ⟨startT [.str k,.str [u0,u1,u2,u3,u4,u5,u6,u7,u8,u9,u10,u11,u12,u13,u14,u15,u16,u17,u18,u19,u20,u21,u22,u23,u24,u25,u26,u27,u28,u29,u30,u31]] 0,[],5⟩ ⟨[],[],[]⟩)=some (S14 k [u0,u1,u2,u3,u4,u5,u6,u7,u8,u9,u10,u11,u12,u13,u14,u15,u16,u17,u18,u19,u20,u21,u22,u23,u24,u25,u26,u27,u28,u29,u30,u31] (φ.clamp k) [.u8 u0,.u8 u1,.u8 u2,.u8 u3,.u8 u4,.u8 u5,.u8 u6,.u8 u7,.u8 u8,.u8 u9,.u8 u10,.u8 u11,.u8 u12,.u8 u13,.u8 u14,.u8 u15,.u8 u16,.u8 u17,.u8 u18,.u8 u19,.u8 u20,.u8 u21,.u8 u22,.u8 u23,.u8 u24,.u8 u25,.u8 u26,.u8 u27,.u8 u28,.u8 u29,.u8 u30,.u8 (u31 &&& 127)] (φ.of [u0,u1,u2,u3,u4,u5,u6,u7,u8,u9,u10,u11,u12,u13,u14,u15,u16,u17,u18,u19,u20,u21,u22,u23,u24,u25,u26,u27,u28,u29,u30,u31 &&& 127]) ⟨φ.small 1,zeroE⟩ ⟨φ.of [u0,u1,u2,u3,u4,u5,u6,u7,u8,u9,u10,u11,u12,u13,u14,u15,u16,u17,u18,u19,u20,u21,u22,u23,u24,u25,u26,u27,u28,u29,u30,u31 &&& 127],φ.small 1⟩ 254,[φ.l32 k]):=by kernel_rfl
theorem end14 (φ:Fl) (k u kk:List UInt8) (cb:List AVal) (i:Int) (x:E5) (p q:P2 E5):endO Tryz.prog (psnl φ) (nl φ) [39] Tryz.f74 (mask 74) 1000 5 0 b14 (cd14.drop 8) (S14 k u kk cb x p q i) ⟨[false],[],[]⟩=some (.str (φ.bytes (φ.mul p.x (φ.inv p.z))),[!decide ((0:Int)≤i)]):=by kernel_rfl
theorem rnd14a (φ:Fl) (k u kk:List UInt8) (cb:List AVal) (i j:Int) (x:E5) (p p0 q q0:P2 E5):roundO2 Tryz.prog (psnl φ) (nl φ) [39,45,200050] [true] [.u8 0] 89 (mask 74) 1000 5 b14 (S14 k u kk cb x p0 q0 j) (S14 k u kk cb x p q i)=some (S14 k u kk cb x (φ.st1 p q x) (φ.st2 p q x) (IntKind.wrap .i64 (i - 1)),[eqS (.u8 (shr_u8 (List.getD kk (Int.toNat (IntKind.wrap IntKind.i64 (Int.tdiv i 8))) 0) (UInt64.toNat (UInt64.ofInt (Int.tmod i 8))) &&& 1)) (.u8 0),(decide ((0:Int)≤IntKind.wrap IntKind.i64 (Int.tdiv i 8)) && decide (IntKind.wrap IntKind.i64 (Int.tdiv i 8) < (kk.length:Int))),decide ((0:Int)≤i)]):=by kernel_rfl
theorem rnd14b (φ:Fl) (k u kk:List UInt8) (cb:List AVal) (i j:Int) (x:E5) (p p0 q q0:P2 E5):roundO2 Tryz.prog (psnl φ) (nl φ) [39,45,200050] [true] [.u8 1] 89 (mask 74) 1000 5 b14 (S14 k u kk cb x p0 q0 j) (S14 k u kk cb x p q i)=some (S14 k u kk cb x (φ.st2 q p x) (φ.st1 q p x) (IntKind.wrap .i64 (i - 1)),[eqS (.u8 (shr_u8 (List.getD kk (Int.toNat (IntKind.wrap IntKind.i64 (Int.tdiv i 8))) 0) (UInt64.toNat (UInt64.ofInt (Int.tmod i 8))) &&& 1)) (.u8 1),(decide ((0:Int)≤IntKind.wrap IntKind.i64 (Int.tdiv i 8)) && decide (IntKind.wrap IntKind.i64 (Int.tdiv i 8) < (kk.length:Int))),decide ((0:Int)≤i)]):=by kernel_rfl
theorem gl0:Tryz.prog.globals.size=5:=by kernel_rfl
theorem ok14 (k u kk c:List UInt8) (x:E5) (p q:P2 E5) (i:Int):okS Tryz.prog (S14 k u kk (c.map .u8) x p q i)=true:=by
 have h:∀ (m:Nat) (l:List UInt8),ltL m (l.map .u8)=true:=fun m l=>by
  induction l with
  | nil=>rfl
  | cons y l ih=>simp [ltL,ltS,ih]
 simp [okS,gl0,S14,ltT,ltH,ltV,ltS,ltL,h,E5.cells,ptCells,nble]
theorem stp14 (k u kk c:List UInt8) (hk:kk.length=32) (x:E5) (s s0:P2 E5 × P2 E5) (j:Int) (m:Nat) (hm:m≤254):roundA (evC Tryz.prog (nl realFl) 89 (mask 74) 1000 5 b14) (headA Tryz.prog 5 (S14 k u kk (c.map .u8) x s0.1 s0.2 j)) (S14 k u kk (c.map .u8) x s.1 s.2 m)=some (S14 k u kk (c.map .u8) x (rndO opsE x (bitK kk m) s).1 (rndO opsE x (bitK kk m) s).2 ((m:Int) - 1)):=by
 have hw:IntKind.wrap .i64 ((m:Int) - 1)=(m:Int) - 1:=wrapI _ (by omega) (by omega)
 have hb:=bit_raw kk m (by omega)
 have hd:=bit_div m (by omega)
 have h1:decide ((0:Int)≤((m / 8:Nat):Int))=true:=by rw [decide_eq_true_iff]; omega
 have h2:decide (((m / 8:Nat):Int) < (kk.length:Int))=true:=by rw [decide_eq_true_iff]; omega
 have h3:decide ((0:Int)≤(m:Int))=true:=by rw [decide_eq_true_iff]; omega
 rw [← hw]
 rcases bitB_cases kk m with e | e
 ·have hK:bitK kk m=false:=by unfold bitK; rw [e]; rfl
  rw [hK]
  exact roundO2_ok (nl_ps _) (rnd14a realFl k u kk (c.map .u8) m j x s.1 s0.1 s.2 s0.2) (by rw [hb,e,hd,h1,h2,h3]; rfl) (ok14 _ _ _ _ _ _ _ _)
 ·have hK:bitK kk m=true:=by unfold bitK; rw [e]; rfl
  rw [hK]
  exact roundO2_ok (nl_ps _) (rnd14b realFl k u kk (c.map .u8) m j x s.1 s0.1 s.2 s0.2) (by rw [hb,e,hd,h1,h2,h3]; rfl) (ok14 _ _ _ _ _ _ _ _)
theorem run74 (k u:List UInt8) (hk:isLen k 32=true) (hu:isLen u 32=true):(run1 Tryz.prog (nl realFl) (mask 74) 1000 74 [.str k,.str u] [] 5).map (·.1)=some (.str (ladE k u)):=by
 obtain ⟨u0,u1,u2,u3,u4,u5,u6,u7,u8,u9,u10,u11,u12,u13,u14,u15,u16,u17,u18,u19,u20,u21,u22,u23,u24,u25,u26,u27,u28,u29,u30,u31,rfl⟩:=len32 (isLen_eq.1 hu)
 refine run_loopO (nl_ps _) (fn:=Tryz.f74) (c:=bodyOf Tryz.f74) (by kernel_rfl) (by kernel_rfl) (by kernel_rfl) 7 (id:=0) (b:=b14) (by kernel_rfl) (fun j=>S14 k [u0,u1,u2,u3,u4,u5,u6,u7,u8,u9,u10,u11,u12,u13,u14,u15,u16,u17,u18,u19,u20,u21,u22,u23,u24,u25,u26,u27,u28,u29,u30,u31] (clampL k) ([u0,u1,u2,u3,u4,u5,u6,u7,u8,u9,u10,u11,u12,u13,u14,u15,u16,u17,u18,u19,u20,u21,u22,u23,u24,u25,u26,u27,u28,u29,u30,u31 &&& 127].map .u8) (ofEl [u0,u1,u2,u3,u4,u5,u6,u7,u8,u9,u10,u11,u12,u13,u14,u15,u16,u17,u18,u19,u20,u21,u22,u23,u24,u25,u26,u27,u28,u29,u30,u31 &&& 127]) (ladO opsE (clampL k) (ofEl [u0,u1,u2,u3,u4,u5,u6,u7,u8,u9,u10,u11,u12,u13,u14,u15,u16,u17,u18,u19,u20,u21,u22,u23,u24,u25,u26,u27,u28,u29,u30,u31 &&& 127]) j).1 (ladO opsE (clampL k) (ofEl [u0,u1,u2,u3,u4,u5,u6,u7,u8,u9,u10,u11,u12,u13,u14,u15,u16,u17,u18,u19,u20,u21,u22,u23,u24,u25,u26,u27,u28,u29,u30,u31 &&& 127]) j).2 (254 - (j:Int))) 255 (pre14 realFl k u0 u1 u2 u3 u4 u5 u6 u7 u8 u9 u10 u11 u12 u13 u14 u15 u16 u17 u18 u19 u20 u21 u22 u23 u24 u25 u26 u27 u28 u29 u30 u31) ?_ (fun j hj => ?_) (end14 realFl k [u0,u1,u2,u3,u4,u5,u6,u7,u8,u9,u10,u11,u12,u13,u14,u15,u16,u17,u18,u19,u20,u21,u22,u23,u24,u25,u26,u27,u28,u29,u30,u31] (clampL k) ([u0,u1,u2,u3,u4,u5,u6,u7,u8,u9,u10,u11,u12,u13,u14,u15,u16,u17,u18,u19,u20,u21,u22,u23,u24,u25,u26,u27,u28,u29,u30,u31 &&& 127].map .u8) _ (ofEl [u0,u1,u2,u3,u4,u5,u6,u7,u8,u9,u10,u11,u12,u13,u14,u15,u16,u17,u18,u19,u20,u21,u22,u23,u24,u25,u26,u27,u28,u29,u30,u31 &&& 127]) _ _) rfl (by omega)
 ·simp [allT,realFl,hk]
 ·have e1:(254:Int) - (j:Int)=((254 - j:Nat):Int):=by omega
  have e2:(254:Int) - ((j+1:Nat):Int)=((254 - j:Nat):Int) - 1:=by omega
  rw [e1,e2]
  exact stp14 k [u0,u1,u2,u3,u4,u5,u6,u7,u8,u9,u10,u11,u12,u13,u14,u15,u16,u17,u18,u19,u20,u21,u22,u23,u24,u25,u26,u27,u28,u29,u30,u31] (clampL k) [u0,u1,u2,u3,u4,u5,u6,u7,u8,u9,u10,u11,u12,u13,u14,u15,u16,u17,u18,u19,u20,u21,u22,u23,u24,u25,u26,u27,u28,u29,u30,u31 &&& 127] (clamp_len hk) (ofEl [u0,u1,u2,u3,u4,u5,u6,u7,u8,u9,u10,u11,u12,u13,u14,u15,u16,u17,u18,u19,u20,u21,u22,u23,u24,u25,u26,u27,u28,u29,u30,u31 &&& 127]) (ladO opsE (clampL k) (ofEl [u0,u1,u2,u3,u4,u5,u6,u7,u8,u9,u10,u11,u12,u13,u14,u15,u16,u17,u18,u19,u20,u21,u22,u23,u24,u25,u26,u27,u28,u29,u30,u31 &&& 127]) j) _ _ (254 - j) (by omega)
end Go.Proofs.YtanaackimepkdaaGreatDoor
namespace Go.Proofs.YtanaackimepkdaaGreatDoor
open Go Go.Eng Go.Num
theorem pre15 (φ:Fl) (k:List UInt8) (u0 u1 u2 u3 u4 u5 u6 u7 u8 u9 u10 u11 u12 u13 u14 u15 u16 u17 u18 u19 u20 u21 u22 u23 u24 u25 u26 u27 u28 u29 u30 u31:UInt8):segO (evSO Tryz.prog (psnl φ) (nl φ) [24,35] 118 (mask 83) 1000 5 (cd15.take 10) ⟨startT [.str k,.str [u0,u1,u2,u3,u4,u5,u6,u7,u8,u9,u10,u11,u12,u13,u14,u15,u16,u17,u18,u19,u20,u21,u22,u23,u24,u25,u26,u27,u28,u29,u30,u31]] 0,[],5⟩ ⟨[],[],[]⟩)=some (S15 k [u0,u1,u2,u3,u4,u5,u6,u7,u8,u9,u10,u11,u12,u13,u14,u15,u16,u17,u18,u19,u20,u21,u22,u23,u24,u25,u26,u27,u28,u29,u30,u31] (φ.clamp k) [.u8 u0,.u8 u1,.u8 u2,.u8 u3,.u8 u4,.u8 u5,.u8 u6,.u8 u7,.u8 u8,.u8 u9,.u8 u10,.u8 u11,.u8 u12,.u8 u13,.u8 u14,.u8 u15,.u8 u16,.u8 u17,.u8 u18,.u8 u19,.u8 u20,.u8 u21,.u8 u22,.u8 u23,.u8 u24,.u8 u25,.u8 u26,.u8 u27,.u8 u28,.u8 u29,.u8 u30,.u8 (u31 &&& 127)] (φ.ofN [u0,u1,u2,u3,u4,u5,u6,u7,u8,u9,u10,u11,u12,u13,u14,u15,u16,u17,u18,u19,u20,u21,u22,u23,u24,u25,u26,u27,u28,u29,u30,u31 &&& 127]) ⟨φ.smallN 1,zeroN⟩ ⟨φ.ofN [u0,u1,u2,u3,u4,u5,u6,u7,u8,u9,u10,u11,u12,u13,u14,u15,u16,u17,u18,u19,u20,u21,u22,u23,u24,u25,u26,u27,u28,u29,u30,u31 &&& 127],φ.smallN 1⟩ 254,[φ.l32 [u0,u1,u2,u3,u4,u5,u6,u7,u8,u9,u10,u11,u12,u13,u14,u15,u16,u17,u18,u19,u20,u21,u22,u23,u24,u25,u26,u27,u28,u29,u30,u31 &&& 127],φ.l32 k]):=by kernel_rfl
theorem end15 (φ:Fl) (k u kk:List UInt8) (cb:List AVal) (i:Int) (x:N16) (p q:P2 N16):endO Tryz.prog (psnl φ) (nl φ) [41,115,116] Tryz.f83 (mask 83) 1000 5 0 b15 (cd15.drop 11) (S15 k u kk cb x p q i) ⟨[false],[],[]⟩=some (.str (φ.bytesN (φ.mulN p.x (φ.invN p.z))),[φ.ok p.x && φ.ok (φ.invN p.z),φ.ok p.z,!decide ((0:Int)≤i)]):=by kernel_rfl
theorem rnd15a (φ:Fl) (k u kk:List UInt8) (cb:List AVal) (i j:Int) (x:N16) (p p0 q q0:P2 N16):roundO2 Tryz.prog (psnl φ) (nl φ) [41,47,53,61,64,67,70,73,76,78,81,83,86,89,92,96,97,100,105,106,107] [true,false] [] 118 (mask 83) 1000 5 b15 (S15 k u kk cb x p0 q0 j) (S15 k u kk cb x p q i)=some (S15 k u kk cb x ⟨φ.mulN (φ.mulN (φ.addN (p.x) (p.z)) (φ.addN (p.x) (p.z))) (φ.mulN (φ.subN (p.x) (p.z)) (φ.subN (p.x) (p.z))),φ.mulN (φ.subN (φ.mulN (φ.addN (p.x) (p.z)) (φ.addN (p.x) (p.z))) (φ.mulN (φ.subN (p.x) (p.z)) (φ.subN (p.x) (p.z)))) (φ.addN (φ.mulN (φ.addN (p.x) (p.z)) (φ.addN (p.x) (p.z))) (φ.mulN (φ.smallN 121665) (φ.subN (φ.mulN (φ.addN (p.x) (p.z)) (φ.addN (p.x) (p.z))) (φ.mulN (φ.subN (p.x) (p.z)) (φ.subN (p.x) (p.z))))))⟩ ⟨φ.mulN (φ.addN (φ.mulN (φ.subN (q.x) (q.z)) (φ.addN (p.x) (p.z))) (φ.mulN (φ.addN (q.x) (q.z)) (φ.subN (p.x) (p.z)))) (φ.addN (φ.mulN (φ.subN (q.x) (q.z)) (φ.addN (p.x) (p.z))) (φ.mulN (φ.addN (q.x) (q.z)) (φ.subN (p.x) (p.z)))),φ.mulN (x) (φ.mulN (φ.subN (φ.mulN (φ.subN (q.x) (q.z)) (φ.addN (p.x) (p.z))) (φ.mulN (φ.addN (q.x) (q.z)) (φ.subN (p.x) (p.z)))) (φ.subN (φ.mulN (φ.subN (q.x) (q.z)) (φ.addN (p.x) (p.z))) (φ.mulN (φ.addN (q.x) (q.z)) (φ.subN (p.x) (p.z)))))⟩ (IntKind.wrap .i64 (i - 1)),[φ.ok (φ.subN (φ.mulN (φ.addN (p.x) (p.z)) (φ.addN (p.x) (p.z))) (φ.mulN (φ.subN (p.x) (p.z)) (φ.subN (p.x) (p.z)))) && φ.ok (φ.addN (φ.mulN (φ.addN (p.x) (p.z)) (φ.addN (p.x) (p.z))) (φ.mulN (φ.smallN 121665) (φ.subN (φ.mulN (φ.addN (p.x) (p.z)) (φ.addN (p.x) (p.z))) (φ.mulN (φ.subN (p.x) (p.z)) (φ.subN (p.x) (p.z)))))),φ.ok (φ.mulN (φ.addN (p.x) (p.z)) (φ.addN (p.x) (p.z))) && φ.ok (φ.mulN (φ.smallN 121665) (φ.subN (φ.mulN (φ.addN (p.x) (p.z)) (φ.addN (p.x) (p.z))) (φ.mulN (φ.subN (p.x) (p.z)) (φ.subN (p.x) (p.z))))),φ.ok (φ.smallN 121665) && φ.ok (φ.subN (φ.mulN (φ.addN (p.x) (p.z)) (φ.addN (p.x) (p.z))) (φ.mulN (φ.subN (p.x) (p.z)) (φ.subN (p.x) (p.z)))),φ.ok (φ.mulN (φ.addN (p.x) (p.z)) (φ.addN (p.x) (p.z))) && φ.ok (φ.mulN (φ.subN (p.x) (p.z)) (φ.subN (p.x) (p.z))),φ.ok (x) && φ.ok (φ.mulN (φ.subN (φ.mulN (φ.subN (q.x) (q.z)) (φ.addN (p.x) (p.z))) (φ.mulN (φ.addN (q.x) (q.z)) (φ.subN (p.x) (p.z)))) (φ.subN (φ.mulN (φ.subN (q.x) (q.z)) (φ.addN (p.x) (p.z))) (φ.mulN (φ.addN (q.x) (q.z)) (φ.subN (p.x) (p.z))))),φ.ok (φ.subN (φ.mulN (φ.subN (q.x) (q.z)) (φ.addN (p.x) (p.z))) (φ.mulN (φ.addN (q.x) (q.z)) (φ.subN (p.x) (p.z)))) && φ.ok (φ.subN (φ.mulN (φ.subN (q.x) (q.z)) (φ.addN (p.x) (p.z))) (φ.mulN (φ.addN (q.x) (q.z)) (φ.subN (p.x) (p.z)))),φ.ok (φ.mulN (φ.subN (q.x) (q.z)) (φ.addN (p.x) (p.z))) && φ.ok (φ.mulN (φ.addN (q.x) (q.z)) (φ.subN (p.x) (p.z))),φ.ok (φ.addN (φ.mulN (φ.subN (q.x) (q.z)) (φ.addN (p.x) (p.z))) (φ.mulN (φ.addN (q.x) (q.z)) (φ.subN (p.x) (p.z)))) && φ.ok (φ.addN (φ.mulN (φ.subN (q.x) (q.z)) (φ.addN (p.x) (p.z))) (φ.mulN (φ.addN (q.x) (q.z)) (φ.subN (p.x) (p.z)))),φ.ok (φ.mulN (φ.subN (q.x) (q.z)) (φ.addN (p.x) (p.z))) && φ.ok (φ.mulN (φ.addN (q.x) (q.z)) (φ.subN (p.x) (p.z))),φ.ok (φ.addN (q.x) (q.z)) && φ.ok (φ.subN (p.x) (p.z)),φ.ok (q.x) && φ.ok (q.z),φ.ok (φ.subN (q.x) (q.z)) && φ.ok (φ.addN (p.x) (p.z)),φ.ok (q.x) && φ.ok (q.z),φ.ok (φ.mulN (φ.addN (p.x) (p.z)) (φ.addN (p.x) (p.z))) && φ.ok (φ.mulN (φ.subN (p.x) (p.z)) (φ.subN (p.x) (p.z))),φ.ok (φ.subN (p.x) (p.z)) && φ.ok (φ.subN (p.x) (p.z)),φ.ok (p.x) && φ.ok (p.z),φ.ok (φ.addN (p.x) (p.z)) && φ.ok (φ.addN (p.x) (p.z)),φ.ok (p.x) && φ.ok (p.z),!((shr_u8 (List.getD kk (Int.toNat (IntKind.wrap IntKind.i64 (Int.tdiv i 8))) 0) (UInt64.toNat (UInt64.ofInt (Int.tmod i 8))) &&& 1) == 1),(decide ((0:Int)≤IntKind.wrap IntKind.i64 (Int.tdiv i 8)) && decide (IntKind.wrap IntKind.i64 (Int.tdiv i 8) < (kk.length:Int))),decide ((0:Int)≤i)]):=by kernel_rfl
theorem rnd15b (φ:Fl) (k u kk:List UInt8) (cb:List AVal) (i j:Int) (x:N16) (p p0 q q0:P2 N16):roundO2 Tryz.prog (psnl φ) (nl φ) [41,47,53,61,64,67,70,73,76,78,81,83,86,89,92,96,97,100,105,106,107] [true,true] [] 118 (mask 83) 1000 5 b15 (S15 k u kk cb x p0 q0 j) (S15 k u kk cb x p q i)=some (S15 k u kk cb x ⟨φ.mulN (φ.addN (φ.mulN (φ.subN (p.x) (p.z)) (φ.addN (q.x) (q.z))) (φ.mulN (φ.addN (p.x) (p.z)) (φ.subN (q.x) (q.z)))) (φ.addN (φ.mulN (φ.subN (p.x) (p.z)) (φ.addN (q.x) (q.z))) (φ.mulN (φ.addN (p.x) (p.z)) (φ.subN (q.x) (q.z)))),φ.mulN (x) (φ.mulN (φ.subN (φ.mulN (φ.subN (p.x) (p.z)) (φ.addN (q.x) (q.z))) (φ.mulN (φ.addN (p.x) (p.z)) (φ.subN (q.x) (q.z)))) (φ.subN (φ.mulN (φ.subN (p.x) (p.z)) (φ.addN (q.x) (q.z))) (φ.mulN (φ.addN (p.x) (p.z)) (φ.subN (q.x) (q.z)))))⟩ ⟨φ.mulN (φ.mulN (φ.addN (q.x) (q.z)) (φ.addN (q.x) (q.z))) (φ.mulN (φ.subN (q.x) (q.z)) (φ.subN (q.x) (q.z))),φ.mulN (φ.subN (φ.mulN (φ.addN (q.x) (q.z)) (φ.addN (q.x) (q.z))) (φ.mulN (φ.subN (q.x) (q.z)) (φ.subN (q.x) (q.z)))) (φ.addN (φ.mulN (φ.addN (q.x) (q.z)) (φ.addN (q.x) (q.z))) (φ.mulN (φ.smallN 121665) (φ.subN (φ.mulN (φ.addN (q.x) (q.z)) (φ.addN (q.x) (q.z))) (φ.mulN (φ.subN (q.x) (q.z)) (φ.subN (q.x) (q.z))))))⟩ (IntKind.wrap .i64 (i - 1)),[φ.ok (φ.subN (φ.mulN (φ.addN (q.x) (q.z)) (φ.addN (q.x) (q.z))) (φ.mulN (φ.subN (q.x) (q.z)) (φ.subN (q.x) (q.z)))) && φ.ok (φ.addN (φ.mulN (φ.addN (q.x) (q.z)) (φ.addN (q.x) (q.z))) (φ.mulN (φ.smallN 121665) (φ.subN (φ.mulN (φ.addN (q.x) (q.z)) (φ.addN (q.x) (q.z))) (φ.mulN (φ.subN (q.x) (q.z)) (φ.subN (q.x) (q.z)))))),φ.ok (φ.mulN (φ.addN (q.x) (q.z)) (φ.addN (q.x) (q.z))) && φ.ok (φ.mulN (φ.smallN 121665) (φ.subN (φ.mulN (φ.addN (q.x) (q.z)) (φ.addN (q.x) (q.z))) (φ.mulN (φ.subN (q.x) (q.z)) (φ.subN (q.x) (q.z))))),φ.ok (φ.smallN 121665) && φ.ok (φ.subN (φ.mulN (φ.addN (q.x) (q.z)) (φ.addN (q.x) (q.z))) (φ.mulN (φ.subN (q.x) (q.z)) (φ.subN (q.x) (q.z)))),φ.ok (φ.mulN (φ.addN (q.x) (q.z)) (φ.addN (q.x) (q.z))) && φ.ok (φ.mulN (φ.subN (q.x) (q.z)) (φ.subN (q.x) (q.z))),φ.ok (x) && φ.ok (φ.mulN (φ.subN (φ.mulN (φ.subN (p.x) (p.z)) (φ.addN (q.x) (q.z))) (φ.mulN (φ.addN (p.x) (p.z)) (φ.subN (q.x) (q.z)))) (φ.subN (φ.mulN (φ.subN (p.x) (p.z)) (φ.addN (q.x) (q.z))) (φ.mulN (φ.addN (p.x) (p.z)) (φ.subN (q.x) (q.z))))),φ.ok (φ.subN (φ.mulN (φ.subN (p.x) (p.z)) (φ.addN (q.x) (q.z))) (φ.mulN (φ.addN (p.x) (p.z)) (φ.subN (q.x) (q.z)))) && φ.ok (φ.subN (φ.mulN (φ.subN (p.x) (p.z)) (φ.addN (q.x) (q.z))) (φ.mulN (φ.addN (p.x) (p.z)) (φ.subN (q.x) (q.z)))),φ.ok (φ.mulN (φ.subN (p.x) (p.z)) (φ.addN (q.x) (q.z))) && φ.ok (φ.mulN (φ.addN (p.x) (p.z)) (φ.subN (q.x) (q.z))),φ.ok (φ.addN (φ.mulN (φ.subN (p.x) (p.z)) (φ.addN (q.x) (q.z))) (φ.mulN (φ.addN (p.x) (p.z)) (φ.subN (q.x) (q.z)))) && φ.ok (φ.addN (φ.mulN (φ.subN (p.x) (p.z)) (φ.addN (q.x) (q.z))) (φ.mulN (φ.addN (p.x) (p.z)) (φ.subN (q.x) (q.z)))),φ.ok (φ.mulN (φ.subN (p.x) (p.z)) (φ.addN (q.x) (q.z))) && φ.ok (φ.mulN (φ.addN (p.x) (p.z)) (φ.subN (q.x) (q.z))),φ.ok (φ.addN (p.x) (p.z)) && φ.ok (φ.subN (q.x) (q.z)),φ.ok (p.x) && φ.ok (p.z),φ.ok (φ.subN (p.x) (p.z)) && φ.ok (φ.addN (q.x) (q.z)),φ.ok (p.x) && φ.ok (p.z),φ.ok (φ.mulN (φ.addN (q.x) (q.z)) (φ.addN (q.x) (q.z))) && φ.ok (φ.mulN (φ.subN (q.x) (q.z)) (φ.subN (q.x) (q.z))),φ.ok (φ.subN (q.x) (q.z)) && φ.ok (φ.subN (q.x) (q.z)),φ.ok (q.x) && φ.ok (q.z),φ.ok (φ.addN (q.x) (q.z)) && φ.ok (φ.addN (q.x) (q.z)),φ.ok (q.x) && φ.ok (q.z),((shr_u8 (List.getD kk (Int.toNat (IntKind.wrap IntKind.i64 (Int.tdiv i 8))) 0) (UInt64.toNat (UInt64.ofInt (Int.tmod i 8))) &&& 1) == 1),(decide ((0:Int)≤IntKind.wrap IntKind.i64 (Int.tdiv i 8)) && decide (IntKind.wrap IntKind.i64 (Int.tdiv i 8) < (kk.length:Int))),decide ((0:Int)≤i)]):=by kernel_rfl
theorem okB_add {a b:N16}(h:okB a=true) (k:okB b=true):okB (addP a b)=true:=okB_iff.2 (addP_val a b (okB_iff.1 h) (okB_iff.1 k)).1
theorem okB_sub {a b:N16}(h:okB a=true) (k:okB b=true):okB (subP a b)=true:=okB_add h (okB_iff.2 (negP_ok b (okB_iff.1 k)))
theorem okB_mul {a b:N16}(h:okB a=true) (k:okB b=true):okB (mulP a b)=true:=okB_iff.2 (mulP_val a b (okB_iff.1 h) (okB_iff.1 k)).1
theorem okB_small (n:UInt32):okB (smallN n)=true:=okB_iff.2 (smallN_val n).1
theorem okB_inv {a:N16}(h:okB a=true):okB (invP a)=true:=okB_iff.2 (powP_ok a (okB_iff.1 h) _)
theorem ok15 (k u kk c:List UInt8) (x:N16) (p q:P2 N16) (i:Int):okS Tryz.prog (S15 k u kk (c.map .u8) x p q i)=true:=by
 have h:∀ (m:Nat) (l:List UInt8),ltL m (l.map .u8)=true:=fun m l=>by
  induction l with
  | nil=>rfl
  | cons y l ih=>simp [ltL,ltS,ih]
 simp [okS,gl0,S15,ltT,ltH,ltV,ltS,ltL,h,N16.cells,nble]
def okP2 (s:P2 N16 × P2 N16):Prop:=(okB s.1.x=true∧okB s.1.z=true)∧(okB s.2.x=true∧okB s.2.z=true)
theorem ok_lad (k:List UInt8){u:List UInt8}(h:isLen u 32=true) (j:Nat):okP2 (ladO opsN k (ofP u) j):=by
 have r:=lad_keeps keeps_EN k (rel_of h) j
 exact ⟨⟨okB_iff.2 r.1.1.okP,okB_iff.2 r.1.2.okP⟩,⟨okB_iff.2 r.2.1.okP,okB_iff.2 r.2.2.okP⟩⟩
theorem stp15 (k u kk c:List UInt8) (hk:kk.length=32) (x:N16) (hx:okB x=true) (s s0:P2 N16 × P2 N16) (hs:okP2 s) (j:Int) (m:Nat) (hm:m≤254):roundA (evC Tryz.prog (nl realFl) 118 (mask 83) 1000 5 b15) (headA Tryz.prog 5 (S15 k u kk (c.map .u8) x s0.1 s0.2 j)) (S15 k u kk (c.map .u8) x s.1 s.2 m)=some (S15 k u kk (c.map .u8) x (rndO opsN x (bitK kk m) s).1 (rndO opsN x (bitK kk m) s).2 ((m:Int) - 1)):=by
 have hw:IntKind.wrap .i64 ((m:Int) - 1)=(m:Int) - 1:=wrapI _ (by omega) (by omega)
 have hb:=bit_raw kk m (by omega)
 have hd:=bit_div m (by omega)
 have h1:decide ((0:Int)≤((m / 8:Nat):Int))=true:=by rw [decide_eq_true_iff]; omega
 have h2:decide (((m / 8:Nat):Int) < (kk.length:Int))=true:=by rw [decide_eq_true_iff]; omega
 have h3:decide ((0:Int)≤(m:Int))=true:=by rw [decide_eq_true_iff]; omega
 obtain ⟨p,q⟩:=s
 obtain ⟨⟨o1,o2⟩,⟨o3,o4⟩⟩:=hs
 simp only at o1 o2 o3 o4
 rw [← hw]
 cases hK:bitK kk m
 ·have hK2:(bitB kk m == 1)=false:=hK
  exact roundO2_ok (nl_ps _) (rnd15a realFl k u kk (c.map .u8) m j x p s0.1 q s0.2) (by
   rw [hb,hK2,hd,h1,h2,h3]
   simp (maxDischargeDepth:=30) only [allT,realFl,okB_add,okB_sub,okB_mul,okB_small,o1,o2,o3,o4,hx,Bool.and_self,Bool.not_false,cond_true]) (ok15 _ _ _ _ _ _ _ _)
 ·have hK2:(bitB kk m == 1)=true:=hK
  exact roundO2_ok (nl_ps _) (rnd15b realFl k u kk (c.map .u8) m j x p s0.1 q s0.2) (by
   rw [hb,hK2,hd,h1,h2,h3]
   simp (maxDischargeDepth:=30) only [allT,realFl,okB_add,okB_sub,okB_mul,okB_small,o1,o2,o3,o4,hx,Bool.and_self,Bool.not_false,cond_true]) (ok15 _ _ _ _ _ _ _ _)
theorem run83 (k u:List UInt8) (hk:isLen k 32=true) (hu:isLen u 32=true):(run1 Tryz.prog (nl realFl) (mask 83) 1000 83 [.str k,.str u] [] 5).map (·.1)=some (.str (ladP k u)):=by
 obtain ⟨u0,u1,u2,u3,u4,u5,u6,u7,u8,u9,u10,u11,u12,u13,u14,u15,u16,u17,u18,u19,u20,u21,u22,u23,u24,u25,u26,u27,u28,u29,u30,u31,rfl⟩:=len32 (isLen_eq.1 hu)
 have hl:isLen [u0,u1,u2,u3,u4,u5,u6,u7,u8,u9,u10,u11,u12,u13,u14,u15,u16,u17,u18,u19,u20,u21,u22,u23,u24,u25,u26,u27,u28,u29,u30,u31 &&& 127] 32=true:=rfl
 have ol:=ok_lad (clampL k) hl
 refine run_loopO (nl_ps _) (fn:=Tryz.f83) (c:=bodyOf Tryz.f83) (by kernel_rfl) (by kernel_rfl) (by kernel_rfl) 10 (id:=0) (b:=b15) (by kernel_rfl) (fun j=>S15 k [u0,u1,u2,u3,u4,u5,u6,u7,u8,u9,u10,u11,u12,u13,u14,u15,u16,u17,u18,u19,u20,u21,u22,u23,u24,u25,u26,u27,u28,u29,u30,u31] (clampL k) ([u0,u1,u2,u3,u4,u5,u6,u7,u8,u9,u10,u11,u12,u13,u14,u15,u16,u17,u18,u19,u20,u21,u22,u23,u24,u25,u26,u27,u28,u29,u30,u31 &&& 127].map .u8) (ofP [u0,u1,u2,u3,u4,u5,u6,u7,u8,u9,u10,u11,u12,u13,u14,u15,u16,u17,u18,u19,u20,u21,u22,u23,u24,u25,u26,u27,u28,u29,u30,u31 &&& 127]) (ladO opsN (clampL k) (ofP [u0,u1,u2,u3,u4,u5,u6,u7,u8,u9,u10,u11,u12,u13,u14,u15,u16,u17,u18,u19,u20,u21,u22,u23,u24,u25,u26,u27,u28,u29,u30,u31 &&& 127]) j).1 (ladO opsN (clampL k) (ofP [u0,u1,u2,u3,u4,u5,u6,u7,u8,u9,u10,u11,u12,u13,u14,u15,u16,u17,u18,u19,u20,u21,u22,u23,u24,u25,u26,u27,u28,u29,u30,u31 &&& 127]) j).2 (254 - (j:Int))) 255 (pre15 realFl k u0 u1 u2 u3 u4 u5 u6 u7 u8 u9 u10 u11 u12 u13 u14 u15 u16 u17 u18 u19 u20 u21 u22 u23 u24 u25 u26 u27 u28 u29 u30 u31) ?_ (fun j hj => ?_) (end15 realFl k [u0,u1,u2,u3,u4,u5,u6,u7,u8,u9,u10,u11,u12,u13,u14,u15,u16,u17,u18,u19,u20,u21,u22,u23,u24,u25,u26,u27,u28,u29,u30,u31] (clampL k) ([u0,u1,u2,u3,u4,u5,u6,u7,u8,u9,u10,u11,u12,u13,u14,u15,u16,u17,u18,u19,u20,u21,u22,u23,u24,u25,u26,u27,u28,u29,u30,u31 &&& 127].map .u8) _ (ofP [u0,u1,u2,u3,u4,u5,u6,u7,u8,u9,u10,u11,u12,u13,u14,u15,u16,u17,u18,u19,u20,u21,u22,u23,u24,u25,u26,u27,u28,u29,u30,u31 &&& 127]) _ _) ?_ (by omega)
 ·simp only [allT,realFl,hk,hl,cond_true]
 ·have e1:(254:Int) - (j:Int)=((254 - j:Nat):Int):=by omega
  have e2:(254:Int) - ((j+1:Nat):Int)=((254 - j:Nat):Int) - 1:=by omega
  rw [e1,e2]
  exact stp15 k [u0,u1,u2,u3,u4,u5,u6,u7,u8,u9,u10,u11,u12,u13,u14,u15,u16,u17,u18,u19,u20,u21,u22,u23,u24,u25,u26,u27,u28,u29,u30,u31] (clampL k) [u0,u1,u2,u3,u4,u5,u6,u7,u8,u9,u10,u11,u12,u13,u14,u15,u16,u17,u18,u19,u20,u21,u22,u23,u24,u25,u26,u27,u28,u29,u30,u31 &&& 127] (clamp_len hk) (ofP [u0,u1,u2,u3,u4,u5,u6,u7,u8,u9,u10,u11,u12,u13,u14,u15,u16,u17,u18,u19,u20,u21,u22,u23,u24,u25,u26,u27,u28,u29,u30,u31 &&& 127]) (okB_iff.2 (rel_of hl).okP) (ladO opsN (clampL k) (ofP [u0,u1,u2,u3,u4,u5,u6,u7,u8,u9,u10,u11,u12,u13,u14,u15,u16,u17,u18,u19,u20,u21,u22,u23,u24,u25,u26,u27,u28,u29,u30,u31 &&& 127]) j) _ (ol j) _ (254 - j) (by omega)
 ·have o:=ol 255
  simp only [allT,realFl,okB_inv,o.1.1,o.1.2,Bool.and_self,cond_true]
  rfl
end Go.Proofs.YtanaackimepkdaaGreatDoor
namespace Go.Num
open Go Go.Eng
def zero32:List UInt8:=List.replicate 32 0
def nine32:List UInt8:=9::List.replicate 31 0
def p255:Nat:=57896044618658097711785492504343953926634992332820282019728792003956564819968
theorem leNat_app2:∀ (a b:List UInt8),leNat (a++b)=leNat a+256 ^ a.length * leNat b
 | [],b=>by simp [leNat]
 | x::a,b=>by
  have:=leNat_app2 a b
  simp only [List.cons_append,leNat,this,List.length_cons,Nat.pow_succ]
  rw [Nat.mul_add]
  have:256 * (256 ^ a.length * leNat b)=256 ^ a.length * 256 * leNat b:=by rw [← Nat.mul_assoc,Nat.mul_comm 256]
  omega
theorem leNat_bound:∀ (a:List UInt8),leNat a < 256 ^ a.length
 | []=>by simp [leNat]
 | x::a=>by
  have:=leNat_bound a
  have hx:=x.toNat_lt
  simp only [leNat,List.length_cons,Nat.pow_succ]
  omega
theorem and127 (x:UInt8):(x &&& 127).toNat=x.toNat % 128:=by
 rw [UInt8.toNat_and]
 exact Nat.and_two_pow_sub_one_eq_mod x.toNat 7
theorem topL_val {u:List UInt8}(h:isLen u 32=true):leNat (topL u)=leNat u % p255:=by
 rw [isLen_eq] at h
 have e:u=u.take 31++[u.getD 31 0]:=by
  have h1:u.drop 31=[u.getD 31 0]:=by
   rw [List.drop_eq_getElem_cons (by omega),List.drop_of_length_le (by omega)]
   rw [List.getD_eq_getElem?_getD,List.getElem?_eq_getElem (by omega)]; rfl
  rw [← h1,List.take_append_drop]
 have hl:(u.take 31).length=31:=by rw [List.length_take]; omega
 have e2:topL u=u.take 31++[u.getD 31 0 &&& 127]:=by
  unfold topL
  apply List.ext_getElem?
  intro i
  rw [List.getElem?_set]
  by_cases h1:31=i
  ·subst h1
   rw [if_pos rfl,if_pos (by omega),List.getElem?_append_right (by omega),hl]; rfl
  ·rw [if_neg h1]
   by_cases h2:i < 31
   ·rw [List.getElem?_append_left (by omega),List.getElem?_take_of_lt h2]
   ·rw [List.getElem?_eq_none (by omega),List.getElem?_eq_none (by rw [List.length_append,hl]; show 31+1≤i; omega)]
 have hb:=leNat_bound (u.take 31)
 rw [hl] at hb
 generalize hx:u.getD 31 0=x at e e2
 rw [e2]
 conv=>rhs; rw [e]
 rw [leNat_app2,leNat_app2,hl]
 have hx2:=x.toNat_lt
 have s1:∀ y:UInt8,leNat [y]=y.toNat:=fun y=>by simp [leNat]
 rw [s1,s1,and127]
 unfold p255
 simp only [Nat.reducePow] at hb ⊢
 omega
theorem ladE_nat (k:List UInt8){u:List UInt8}(h:isLen u 32=true):leNat (ladE k u)=quotM (ladM k (leNat u % p255 % Pq)):=by
 rw [ladE_val,ofEl_val (topL_len h),topL_val h]
theorem ladE_is (k:List UInt8){u:List UInt8}(h:isLen u 32=true){n m:Nat}(hn:leNat u=n) (hlt:n < Pq) (hm:quotM (ladM k n)=m):leNat (ladE k u)=m:=by
 rw [ladE_nat k h,hn]
 have hp:Pq < p255:=by decide
 rw [Nat.mod_eq_of_lt (show n < p255 by omega),Nat.mod_eq_of_lt hlt,hm]
theorem nine_val:leNat nine32=9:=by decide
end Go.Num
namespace Go.Proofs.YtanaackimepkdaaGreatDoor
open Go Go.Eng Go.Num
def p74:List AVal→Option (EffA × Bool)
 | [.str k,.str u]=>some (.pure (.str (ladE k u)),isLen k 32 && isLen u 32)
 | _=>none
theorem p74_ok:CSOk Tryz.prog (csP (psOne 74 p74)):=csP_one fun args v he=>by
 unfold p74 at he
 split at he
 ·simp only [Option.some.injEq,Prod.mk.injEq,Bool.and_eq_true] at he
  obtain ⟨rfl,h⟩:=he
  exact callOk_val nl_ok hmix (run74 _ _ h.1 h.2) rfl rfl
 ·cases he
def p83:List AVal→Option (EffA × Bool)
 | [.str k,.str u]=>some (.pure (.str (ladP k u)),isLen k 32 && isLen u 32)
 | _=>none
theorem p83_ok:CSOk Tryz.prog (csP (psOne 83 p83)):=csP_one fun args v he=>by
 unfold p83 at he
 split at he
 ·simp only [Option.some.injEq,Prod.mk.injEq,Bool.and_eq_true] at he
  obtain ⟨rfl,h⟩:=he
  exact callOk_val nl_ok hmix (run83 _ _ h.1 h.2) rfl rfl
 ·cases he
structure Fh where
 ladE:List UInt8→List UInt8→List UInt8
 ladP:List UInt8→List UInt8→List UInt8
 l32:List UInt8→Bool
def realFh:Fh:=⟨ladE,ladP,fun s=>isLen s 32⟩
def q74 (φ:Fh):List AVal→Option (EffA × Bool)
 | [.str a,.str b]=>some (.pure (.str (φ.ladE a b)),(φ.l32 a && φ.l32 b))
 | _=>none
theorem q74_ok:CSOk Tryz.prog (csP (psOne 74 (q74 realFh))):=csP_one fun args v he=>by
 unfold q74 at he
 split at he
 ·rename_i a b
  simp only [Option.some.injEq,Prod.mk.injEq] at he
  obtain ⟨rfl,h⟩:=he
  have h2:(realFh.l32 a && realFh.l32 b)=true:=h
  refine p74_ok 74 [(.str a),(.str b)] _ ?_
  show cond ((realFh.l32 a && realFh.l32 b)) _ _=_
  rw [h2]; rfl
 ·cases he
def q83 (φ:Fh):List AVal→Option (EffA × Bool)
 | [.str a,.str b]=>some (.pure (.str (φ.ladP a b)),(φ.l32 a && φ.l32 b))
 | _=>none
theorem q83_ok:CSOk Tryz.prog (csP (psOne 83 (q83 realFh))):=csP_one fun args v he=>by
 unfold q83 at he
 split at he
 ·rename_i a b
  simp only [Option.some.injEq,Prod.mk.injEq] at he
  obtain ⟨rfl,h⟩:=he
  have h2:(realFh.l32 a && realFh.l32 b)=true:=h
  refine p83_ok 83 [(.str a),(.str b)] _ ?_
  show cond ((realFh.l32 a && realFh.l32 b)) _ _=_
  rw [h2]; rfl
 ·cases he
def psnh (φ:Fh):PS:=(psAlt (psOne 74 (q74 φ)) (psOne 83 (q83 φ)))
theorem psnh_ok:CSOk Tryz.prog (csP (psnh realFh)):=(csP_alt q74_ok q83_ok)
def chnh (φ:Fh):CS:=cs0
theorem chnh_ok:CSOk Tryz.prog (chnh realFh):=cs0_ok
def nh (φ:Fh):CS:=csAlt (csP (psnh φ)) (chnh φ)
theorem nh_ok:CSOk Tryz.prog (nh realFh):=csAlt_ok psnh_ok chnh_ok
theorem nh_ps (φ:Fh):PSOk (psnh φ) (nh φ):=csP_ok
def shV (l:List UInt8→List UInt8→List UInt8) (k u:List UInt8):List UInt8:=cond (isLen k 32 && isLen u 32) (cond (l k u == zero32) [] (l k u)) []
def shR (l:List UInt8→List UInt8→List UInt8) (k u:List UInt8):Int:=cond (isLen k 32 && isLen u 32) (cond (l k u == zero32) 30 0) 2
def puV (l:List UInt8→List UInt8→List UInt8) (k:List UInt8):List UInt8:=cond (isLen k 32) (l k nine32) []
def puR (k:List UInt8):Int:=cond (isLen k 32) 0 2
theorem v72a (φ:Fh) (k u:List UInt8):ansO (run1O Tryz.prog (psnh φ) (nh φ) [9] [true] [] (mask 72) 200 72 [.str k,.str u] [] Tryz.prog.globals.size)=some (.tup [.str [],.int .i64 2],[((k.length:Int) != 32)]):=by kernel_rfl
theorem v72b (φ:Fh) (k u:List UInt8):ansO (run1O Tryz.prog (psnh φ) (nh φ) [9,13] [false,true] [] (mask 72) 200 72 [.str k,.str u] [] Tryz.prog.globals.size)=some (.tup [.str [],.int .i64 2],[((u.length:Int) != 32),!(((k.length:Int) != 32))]):=by kernel_rfl
theorem v72c (φ:Fh) (k u:List UInt8):ansO (run1O Tryz.prog (psnh φ) (nh φ) [9,13,17,21] [false,false,true] [] (mask 72) 200 72 [.str k,.str u] [] Tryz.prog.globals.size)=some (.tup [.str [],.int .i64 30],[φ.ladE k u == zero32,(φ.l32 k && φ.l32 u),!(((u.length:Int) != 32)),!(((k.length:Int) != 32))]):=by kernel_rfl
theorem v72d (φ:Fh) (k u:List UInt8):ansO (run1O Tryz.prog (psnh φ) (nh φ) [9,13,17,21] [false,false,false] [] (mask 72) 200 72 [.str k,.str u] [] Tryz.prog.globals.size)=some (.tup [.str (φ.ladE k u),.int .i64 0],[!(φ.ladE k u == zero32),(φ.l32 k && φ.l32 u),!(((u.length:Int) != 32)),!(((k.length:Int) != 32))]):=by kernel_rfl
theorem run72 (k u:List UInt8):(run1 Tryz.prog (nh realFh) (mask 72) 200 72 [.str k,.str u] [] Tryz.prog.globals.size).map (·.1)=some (.tup [.str (shV ladE k u),.int .i64 (shR ladE k u)]):=by
 unfold shV shR
 cases hk:isLen k 32
 ·exact ansO_run (nh_ps _) (v72a realFh k u) (by simp [allT,ne32 hk])
 cases hu:isLen u 32
 ·exact ansO_run (nh_ps _) (v72b realFh k u) (by simp [allT,to32 hk,ne32 hu])
 cases hz:(ladE k u == zero32)
 ·exact ansO_run (nh_ps _) (v72d realFh k u) (by simp only [allT,realFh,hk,hu,hz,to32 hk,to32 hu]; rfl)
 ·exact ansO_run (nh_ps _) (v72c realFh k u) (by simp only [allT,realFh,hk,hu,hz,to32 hk,to32 hu]; rfl)
def g72:List AVal→Option EffA
 | [.str a,.str b]=>some (.pure (.tup [.str (shV ladE a b),.int .i64 (shR ladE a b)]))
 | _=>none
theorem g72_ok:CSOk Tryz.prog (csOne 72 g72):=csOne_ok fun args e he=>by
 unfold g72 at he
 split at he
 ·rename_i a b
  cases he
  exact callOk_val nh_ok hmix (run72 a b) rfl rfl
 ·cases he
theorem v38a (φ:Fh) (k:List UInt8):ansO (run1O Tryz.prog (psnh φ) (nh φ) [7] [true] [] (mask 38) 200 38 [.str k] [] Tryz.prog.globals.size)=some (.tup [.str [],.int .i64 2],[((k.length:Int) != 32)]):=by kernel_rfl
theorem v38b (φ:Fh) (k:List UInt8):ansO (run1O Tryz.prog (psnh φ) (nh φ) [7,12] [false] [] (mask 38) 200 38 [.str k] [] Tryz.prog.globals.size)=some (.tup [.str (φ.ladE k nine32),.int .i64 0],[(φ.l32 k && φ.l32 nine32),!(((k.length:Int) != 32))]):=by kernel_rfl
theorem run38 (k:List UInt8):(run1 Tryz.prog (nh realFh) (mask 38) 200 38 [.str k] [] Tryz.prog.globals.size).map (·.1)=some (.tup [.str (puV ladE k),.int .i64 (puR k)]):=by
 unfold puV puR
 cases hk:isLen k 32
 ·exact ansO_run (nh_ps _) (v38a realFh k) (by simp [allT,ne32 hk])
 ·exact ansO_run (nh_ps _) (v38b realFh k) (by simp only [allT,realFh,hk,to32 hk]; rfl)
def g38:List AVal→Option EffA
 | [.str a]=>some (.pure (.tup [.str (puV ladE a),.int .i64 (puR a)]))
 | _=>none
theorem g38_ok:CSOk Tryz.prog (csOne 38 g38):=csOne_ok fun args e he=>by
 unfold g38 at he
 split at he
 ·rename_i a
  cases he
  exact callOk_val nh_ok hmix (run38 a) rfl rfl
 ·cases he
theorem v42a (φ:Fh) (k:List UInt8):ansO (run1O Tryz.prog (psnh φ) (nh φ) [7] [true] [] (mask 42) 200 42 [.str k] [] Tryz.prog.globals.size)=some (.tup [.str [],.int .i64 2],[((k.length:Int) != 32)]):=by kernel_rfl
theorem v42b (φ:Fh) (k:List UInt8):ansO (run1O Tryz.prog (psnh φ) (nh φ) [7,14] [false] [] (mask 42) 200 42 [.str k] [] Tryz.prog.globals.size)=some (.tup [.str (φ.ladP k nine32),.int .i64 0],[(φ.l32 k && φ.l32 nine32),!(((k.length:Int) != 32))]):=by kernel_rfl
theorem run42 (k:List UInt8):(run1 Tryz.prog (nh realFh) (mask 42) 200 42 [.str k] [] Tryz.prog.globals.size).map (·.1)=some (.tup [.str (puV ladP k),.int .i64 (puR k)]):=by
 unfold puV puR
 cases hk:isLen k 32
 ·exact ansO_run (nh_ps _) (v42a realFh k) (by simp [allT,ne32 hk])
 ·exact ansO_run (nh_ps _) (v42b realFh k) (by simp only [allT,realFh,hk,to32 hk]; rfl)
def g42:List AVal→Option EffA
 | [.str a]=>some (.pure (.tup [.str (puV ladP a),.int .i64 (puR a)]))
 | _=>none
theorem g42_ok:CSOk Tryz.prog (csOne 42 g42):=csOne_ok fun args e he=>by
 unfold g42 at he
 split at he
 ·rename_i a
  cases he
  exact callOk_val nh_ok hmix (run42 a) rfl rfl
 ·cases he
end Go.Proofs.YtanaackimepkdaaGreatDoor
namespace Go.Proofs.YtanaackimepkdaaGreatDoor
open Go Go.Eng Go.Num
structure Fk where
 shV:List UInt8→List UInt8→List UInt8
 shR:List UInt8→List UInt8→Int
 shVd:List UInt8→List UInt8→List UInt8
 shRd:List UInt8→List UInt8→Int
 puV:List UInt8→List UInt8
 puVd:List UInt8→List UInt8
 puR:List UInt8→Int
 l32:List UInt8→Bool
 ofN:List UInt8→N16
 bytesN:N16→List UInt8
def realFk:Fk:=⟨shV ladE,shR ladE,shV ladP,shR ladP,puV ladE,puV ladP,puR,fun s=>isLen s 32,ofP,bytesN⟩
def k72 (φ:Fk):List AVal→Option EffA
 | [.str a,.str b]=>some (.pure (.tup [.str (φ.shV a b),.int .i64 (φ.shR a b)]))
 | _=>none
theorem k72_ok:CSOk Tryz.prog (csOne 72 (k72 realFk)):=csOne_ok fun args e he=>by
 unfold k72 at he
 split at he
 ·rename_i a b
  cases he
  exact g72_ok 72 [(.str a),(.str b)] _ rfl
 ·cases he
def k38 (φ:Fk):List AVal→Option EffA
 | [.str a]=>some (.pure (.tup [.str (φ.puV a),.int .i64 (φ.puR a)]))
 | _=>none
theorem k38_ok:CSOk Tryz.prog (csOne 38 (k38 realFk)):=csOne_ok fun args e he=>by
 unfold k38 at he
 split at he
 ·rename_i a
  cases he
  exact g38_ok 38 [(.str a)] _ rfl
 ·cases he
def k42 (φ:Fk):List AVal→Option EffA
 | [.str a]=>some (.pure (.tup [.str (φ.puVd a),.int .i64 (φ.puR a)]))
 | _=>none
theorem k42_ok:CSOk Tryz.prog (csOne 42 (k42 realFk)):=csOne_ok fun args e he=>by
 unfold k42 at he
 split at he
 ·rename_i a
  cases he
  exact g42_ok 42 [(.str a)] _ rfl
 ·cases he
end Go.Proofs.YtanaackimepkdaaGreatDoor
namespace Go.Proofs.YtanaackimepkdaaGreatDoor
open Go Go.Eng Go.Num Go.Bla Bk
abbrev L8:=List UInt8
def kyL (c:UInt8):L8:=List.replicate 31 0++[c]
def vPA:L8:=[25,60,77,103,59,0,42,221,148,203,36,3,232,147,223,114,73,166,100,172,210,123,165,125,210,35,39,239,153,207,163,36]
def vPB:L8:=[79,27,96,151,118,98,90,116,181,78,149,199,95,183,95,149,127,246,209,76,9,226,24,247,86,158,8,170,51,97,144,8]
def vPC:L8:=[52,62,238,219,191,16,199,122,48,170,200,9,199,120,4,94,56,228,135,51,217,35,159,251,170,198,182,177,155,120,132,106]
def vX:L8:=[25,156,6,225,163,41,76,124,93,239,67,202,62,33,172,74,126,61,159,248,35,165,6,54,58,170,248,50,3,211,101,101]
def vY:L8:=[232,237,62,181,116,26,17,210,0,7,104,74,145,195,185,35,239,55,206,9,241,107,88,35,148,82,249,158,40,198,154,52]
def vK:L8:=[222,175,17,191,96,73,20,108,83,61,88,217,31,149,152,95,218,238,179,186,64,61,119,235,214,155,56,132,147,110,0,116]
def vKY:L8:=[49,234,113,176,164,120,224,167,52,187,137,221,138,10,110,138,70,239,11,121,166,213,212,186,152,90,74,169,32,46,82,111]
def vNO:L8:=[0,0,0,0,0,0,0,0,0,0,0,0]
def vMS:L8:=[20,79,27,96,151,118,98,90,116,181,78,149,199,95,183,95,149,127,246,209,76,9,226,24,247,86,158,8,170,51,97,144,8,0,0,0,0,0,0,0,0,0,0,0,0,0,0,0,1]
def vCT:L8:=[228,187,17,137,219,60,27,161,249,51,49,151,109,83,244,242,128,240,218,189,175,243,232,252,237,20,111,86,39,198,240,56,245,242,57,92,62,251,78,79,159,31,195,159,73,90,234,210,83]
def vTG:L8:=[124,40,205,231,67,138,58,66,32,74,40,172,30,6,166,0]
def vTY:L8:=[221,178,112,229,251,132,17,234,20,126,164,242,96,222,182,69]
def vB0:L8:=[47,214,140,49,68,118,114,75,56,148,63,71,138,90,236,118,44,145,249,103,245,208,169,53,2,171,66,231,13,11,32,51,182,153,138,136,159,208,140,198,169,125,41,58,159,187,190,143,146,96,199,211,183,74,124,75,126,234,61,161,234,113,31,145]
def vBY:L8:=[147,141,246,105,165,248,171,74,5,133,199,148,123,125,24,224,206,63,225,131,71,37,192,175,123,253,34,135,241,38,255,0,102,172,78,106,31,49,34,234,219,252,182,149,129,252,192,153,172,178,216,48,199,102,207,198,10,208,49,230,244,97,223,158]
def vB1:L8:=[240,244,10,233,76,74,121,251,141,134,127,2,170,12,67,173,21,143,44,108,227,250,10,228,26,66,241,94,141,245,145,168,253,242,57,92,62,251,78,79,159,31,195,159,73,90,234,210,82,146,49,103,97,58,218,14,237,197,33,218,213,241,181,214]
def vAD:L8:=[25,60,77,103,59,0,42,221,148,203,36,3,232,147,223,114,73,166,100,172,210,123,165,125,210,35,39,239,153,207,163,36,79,27,96,151,118,98,90,116,181,78,149,199,95,183,95,149,127,246,209,76,9,226,24,247,86,158,8,170,51,97,144,8]
def vAC:L8:=[25,60,77,103,59,0,42,221,148,203,36,3,232,147,223,114,73,166,100,172,210,123,165,125,210,35,39,239,153,207,163,36,52,62,238,219,191,16,199,122,48,170,200,9,199,120,4,94,56,228,135,51,217,35,159,251,170,198,182,177,155,120,132,106]
def vST:L8:=[228,187,17,137,219,60,27,161,249,51,49,151,109,83,244,242,128,240,218,189,175,243,232,252,237,20,111,86,39,198,240,56,245,242,57,92,62,251,78,79,159,31,195,159,73,90,234,210,83,124,40,205,231,67,138,58,66,32,74,40,172,30,6,166,0]
theorem lad_lit {k u L:L8}{n m:Nat}(hu:isLen u 32=true) (hn:leNat u=n) (hlt:n < Pq) (hm:quotM (ladM k n)=m) (hL:leNat L=m) (hl:L.length=32):ladE k u=L:=
 leNat_inj (by rw [ladE_len,hl]) ((ladE_is k hu hn hlt hm).trans hL.symm)
theorem qPA:quotM (ladM (kyL 97) 9)=16572691432107831290236438983220704641597839740724002177525024145463529258009:=by kernel_rfl
theorem lPA:ladE (kyL 97) nine32=vPA:=lad_lit rfl nine_val (by decide) qPA (by decide) rfl
theorem qPB:quotM (ladM (kyL 98) 9)=3873599628253772194686510826457445042224408612751331329672488392857300769615:=by kernel_rfl
theorem lPB:ladE (kyL 98) nine32=vPB:=lad_lit rfl nine_val (by decide) qPB (by decide) rfl
theorem qPC:quotM (ladM (kyL 99) 9)=48179218169445797504783556489658022201164322089810405915650369079614114774580:=by kernel_rfl
theorem lPC:ladE (kyL 99) nine32=vPC:=lad_lit rfl nine_val (by decide) qPC (by decide) rfl
theorem qX:quotM (ladM (kyL 97) 3873599628253772194686510826457445042224408612751331329672488392857300769615)=45863505615179444264250632754092809270636439140959747961807530266934234225689:=by kernel_rfl
theorem lX:ladE (kyL 97) vPB=vX:=lad_lit rfl (by decide) (by decide) qX (by decide) rfl
theorem qZ:quotM (ladM (kyL 98) 16572691432107831290236438983220704641597839740724002177525024145463529258009)=45863505615179444264250632754092809270636439140959747961807530266934234225689:=by kernel_rfl
theorem lZ:ladE (kyL 98) vPA=vX:=lad_lit rfl (by decide) (by decide) qZ (by decide) rfl
theorem qY:quotM (ladM (kyL 99) 16572691432107831290236438983220704641597839740724002177525024145463529258009)=23793730215222162040946821276262402017421235698409868517644041508986185248232:=by kernel_rfl
theorem lY:ladE (kyL 99) vPA=vY:=lad_lit rfl (by decide) (by decide) qY (by decide) rfl
theorem pu_lit {k L:L8}(hk:isLen k 32=true) (h:ladE k nine32=L):puV ladE k=L∧puV ladP k=L∧puR k=0:=by
 unfold puV puR
 rw [hk,← lad_same k (u:=nine32) rfl,h]
 exact ⟨rfl,rfl,rfl⟩
theorem sh_lit {k u L:L8}(hk:isLen k 32=true) (hu:isLen u 32=true) (h:ladE k u=L) (hz:(L == zero32)=false):shV ladE k u=L∧shR ladE k u=0:=by
 unfold shV shR
 rw [hk,hu,h,hz]
 exact ⟨rfl,rfl⟩
theorem kK:kcD wF vX=vK:=by kernel_rfl
theorem kKY:kcD wF vY=vKY:=by kernel_rfl
theorem kB0:Ae.bvR vK vNO 0=vB0:=by kernel_rfl
theorem kBY:Ae.bvR vKY vNO 0=vBY:=by kernel_rfl
theorem kB1:Ae.bvR vK vNO 1=vB1:=by kernel_rfl
theorem mayK:Cha.may vK vNO=true:=Go.Cha.may_true.2 ⟨by decide,rfl⟩
theorem tb1 (j:Nat) (h:j < 64):Cha.tb vK vNO 1 j=vB1.getD j 0:=by
 have e:Cha.tb vK vNO 1 j=Cha.byteAt vK vNO 1 j:=by
  unfold Cha.tb
  rw [Nat.div_eq_of_lt h,Nat.mod_eq_of_lt h]
  rfl
 rw [e,← kB1]
 unfold Ae.bvR
 rw [mayK,cond_true]
 unfold Cha.blkL
 rw [List.getD_eq_getElem?_getD,List.getElem?_map,List.getElem?_range h]
 rfl
theorem xr1:∀ j,j < 49→vMS.getD j 0 ^^^ vB1.getD j 0=vCT.getD j 0:=by decide
theorem kCt:Ae.ct vK vNO vMS=vCT:=by
 have lm:vMS.length=49:=by decide
 have lc:vCT.length=49:=by decide
 apply List.ext_getElem?
 intro j
 by_cases h:j < 49
 ·show (Cha.trn vK vNO 1 vMS)[j]? = _
  rw [Cha.trn_get _ _ _ _ (by rw [lm]; exact h),tb1 j (by omega),xr1 j h,List.getD_eq_getElem?_getD,List.getElem?_eq_getElem (by rw [lc]; exact h)]
  rfl
 ·rw [List.getElem?_eq_none (by rw [Ae.ct_len,lm]; omega),List.getElem?_eq_none (by rw [lc]; omega)]
theorem kTG:Pol.tvR (Ae.k0 vB0) (Bld.padT vAD vCT)=vTG:=by kernel_rfl
theorem kTY:Pol.tvR (Ae.k0 vBY) (Bld.padT vAC vCT)=vTY:=by kernel_rfl
theorem tgG:Ae.tagA vK vNO vAD vCT=vTG:=by unfold Ae.tagA; rw [kB0,kTG]
theorem tgY:Ae.tagA vKY vNO vAC vCT=vTY:=by unfold Ae.tagA; rw [kBY,kTY]
theorem may_k {k:L8}(h:k.length=32):Cha.may k vNO=true:=Go.Cha.may_true.2 ⟨h,rfl⟩
theorem se_okW {k n a s:L8}(hm:Cha.may k n=true) (ha:a.length≤65536) (hs:s.length≤65536):Ae.seF k n a s=(Ae.ct k n s++Ae.tagA k n a (Ae.ct k n s),0):=by
 unfold Ae.seF
 rw [hm,cond_true,if_neg (by omega)]
theorem op_openW {k n a c t:L8}(hm:Cha.may k n=true) (ha:a.length≤65536) (hc:c.length≤65536) (ht:t.length=16):Ae.opF k n a (c++t)=if Ae.tagA k n a c=t then (Ae.ct k n c,0) else ([],100):=by
 unfold Ae.opF
 have hl:(c++t).length=c.length+16:=by rw [List.length_append,ht]
 rw [hm,cond_true,hl,if_neg (by omega),if_neg (by omega),Nat.add_sub_cancel,List.take_left,List.drop_left]
theorem st_eq:vCT++vTG=vST:=by decide
theorem vK_len:vK.length=32:=by decide
theorem vKY_len:vKY.length=32:=by decide
theorem se1:Ae.seF vK vNO vAD vMS=(vST,0):=by
 rw [se_okW (may_k vK_len) (by decide) (by decide),kCt,tgG,st_eq]
theorem ct_back:Ae.ct vK vNO vCT=vMS:=by rw [← kCt]; exact Cha.trn_back vK vNO 1 vMS
theorem op1:Ae.opF vK vNO vAD vST=(vMS,0):=by
 rw [← st_eq,op_openW (may_k vK_len) (by decide) (by decide) (by decide),tgG,if_pos rfl,ct_back]
theorem op2:Ae.opF vKY vNO vAC vST=([],100):=by
 rw [← st_eq,op_openW (may_k vKY_len) (by decide) (by decide) (by decide),tgY,if_neg (by decide)]
end Go.Proofs.YtanaackimepkdaaGreatDoor
