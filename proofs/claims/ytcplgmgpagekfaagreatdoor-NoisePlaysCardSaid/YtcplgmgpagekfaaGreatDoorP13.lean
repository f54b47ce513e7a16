/- Texts Num10, Num11, Num12, Prime, NumF, Mo1, Wo2, Wo3, Wo4, Wo5, Wo6, Mo9, Wo7, Wo8, Eng69: what they show that this claim uses. -/
import Derived.Test.YtcplgmgpagekfaaGreatDoorP12
import Derived.WalkKit
import Derived.Test.YtcplgmgpagekfaaGreatDoorP11
import Derived.Test.YtcplgmgpagekfaaGreatDoorP6
import Derived.Test.YtcplgmgpagekfaaGreatDoorP7
set_option maxRecDepth 100000
set_option maxHeartbeats 1000000
set_option linter.unusedVariables false
set_option linter.unusedSimpArgs false
namespace Go.Num
open Go Go.Eng
def E5.red (a:E5):Prop:=a.x0.toNat < 2251799813685248∧a.x1.toNat < 2251799813685248∧a.x2.toNat < 2251799813685248∧a.x3.toNat < 2251799813685248∧a.x4.toNat < 2251799813685248
theorem E5.ext_val {a b:E5}(ha:a.red) (hb:b.red) (h:a.val=b.val):a=b:=by
 obtain ⟨a0,a1,a2,a3,a4⟩:=a
 obtain ⟨b0,b1,b2,b3,b4⟩:=b
 unfold E5.red at ha hb
 unfold E5.val at h
 simp only at ha hb h
 have e0:a0=b0:=UInt64.toNat_inj.1 (by omega)
 have e1:a1=b1:=UInt64.toNat_inj.1 (by omega)
 have e2:a2=b2:=UInt64.toNat_inj.1 (by omega)
 have e3:a3=b3:=UInt64.toNat_inj.1 (by omega)
 have e4:a4=b4:=UInt64.toNat_inj.1 (by omega)
 rw [e0,e1,e2,e3,e4]
theorem Zj (b:E5) (c:UInt64) (hc:c.toNat≤1) (h0:b.x0.toNat < 2251799813947392) (h1:b.x1.toNat < 2251799813947392) (h2:b.x2.toNat < 2251799813947392) (h3:b.x3.toNat < 2251799813947392) (h4:b.x4.toNat < 2251799813947392) :
  (TA b c).red∧(TA b c).val=(b.val+19 * c.toNat) % 57896044618658097711785492504343953926634992332820282019728792003956564819968:=by
 have e0:(b.x0+19 * c).toNat=b.x0.toNat+19 * c.toNat:=by
  rw [UInt64.toNat_add,UInt64.toNat_mul,n19]
  simp only [Nat.reducePow]
  omega
 have st:∀ x y:UInt64,x.toNat < 2251799813947392→(x+Ad y 51).toNat=x.toNat+y.toNat / 2251799813685248:=fun x y hx=>by
  have hy:=y.toNat_lt
  simp only [Nat.reducePow] at hy
  rw [CQ _ _ (by rw [Jz]; omega),Jz]
 have e1:=st b.x1 (b.x0+19 * c) h1
 have e2:=st b.x2 (b.x1+Ad (b.x0+19 * c) 51) h2
 have e3:=st b.x3 (b.x2+Ad (b.x1+Ad (b.x0+19 * c) 51) 51) h3
 have e4:=st b.x4 (b.x3+Ad (b.x2+Ad (b.x1+Ad (b.x0+19 * c) 51) 51) 51) h4
 unfold E5.red E5.val TA
 simp only [HZ]
 rw [e4,e3,e2,e1,e0]
 refine ⟨by omega,?_⟩
 omega
theorem aa7 (b:E5) (h0:b.x0.toNat < 2251799813947392) (h1:b.x1.toNat < 2251799813947392) (h2:b.x2.toNat < 2251799813947392) (h3:b.x3.toNat < 2251799813947392) (h4:b.x4.toNat < 2251799813947392) :
  (XX b).toNat=(b.val+19) / 57896044618658097711785492504343953926634992332820282019728792003956564819968:=by
 have e0:(b.x0+19).toNat=b.x0.toNat+19:=by
  rw [UInt64.toNat_add,n19]
  simp only [Nat.reducePow]
  omega
 have st:∀ x y:UInt64,x.toNat < 2251799813947392→(x+Ad y 51).toNat=x.toNat+y.toNat / 2251799813685248:=fun x y hx=>by
  have hy:=y.toNat_lt
  simp only [Nat.reducePow] at hy
  rw [CQ _ _ (by rw [Jz]; omega),Jz]
 unfold XX
 rw [Jz,st _ _ h4,st _ _ h3,st _ _ h2,st _ _ h1,e0]
 unfold E5.val
 omega
theorem Gb (a:E5):(CX a).red∧(CX a).val=a.val % Pq:=by
 have o1:=DO a
 obtain ⟨o2,v2⟩:=Ga (carriedE a)
 have m2:=CJ (carriedE a)
 have m1:=CJ a
 have hb:=KN (carriedE a).x0 (carriedE a).x4
 have hb1:=Dj (carriedE a).x1 (carriedE a).x0
 have hb2:=Dj (carriedE a).x2 (carriedE a).x1
 have hb3:=Dj (carriedE a).x3 (carriedE a).x2
 have hb4:=Dj (carriedE a).x4 (carriedE a).x3
 have hv:(carriedE (carriedE a)).val < 57896044618658097711785492504343953926634992332820282019728792003956564819968+57896044618658097711785492504343953926634992332820282019728792003956564819930:=by
  unfold E5.ok at o1
  have d:carriedE (carriedE a)=⟨((carriedE a).x0 &&& m51)+19 * Ad (carriedE a).x4 51,((carriedE a).x1 &&& m51)+Ad (carriedE a).x0 51,((carriedE a).x2 &&& m51)+Ad (carriedE a).x1 51,((carriedE a).x3 &&& m51)+Ad (carriedE a).x2 51,((carriedE a).x4 &&& m51)+Ad (carriedE a).x3 51⟩:=rfl
  rw [d]
  generalize carriedE a=u at *
  unfold E5.val
  simp only
  rw [hb,hb1,hb2,hb3,hb4]
  omega
 obtain ⟨q0,q1,q2,q3,q4⟩:=o2
 have ht:=aa7 _ q0 q1 q2 q3 q4
 have htop:(XX (carriedE (carriedE a))).toNat≤1:=by
  rw [ht]
  omega
 obtain ⟨r1,r2⟩:=Zj _ (XX (carriedE (carriedE a))) htop q0 q1 q2 q3 q4
 refine ⟨r1,?_⟩
 have hm:(carriedE (carriedE a)).val % Pq=a.val % Pq:=m2.trans m1
 rw [← hm]
 unfold CX
 simp only
 rw [r2,ht]
 generalize (carriedE (carriedE a)).val=v at *
 unfold Pq
 have h2:(v+19) / 57896044618658097711785492504343953926634992332820282019728792003956564819968=0 ∨ (v+19) / 57896044618658097711785492504343953926634992332820282019728792003956564819968=1:=by omega
 rcases h2 with h2 | h2 <;> rw [h2] <;> omega
theorem Jp (f:Nat→UInt8) (V:Nat):∀ n,(∀ i,i < n→(f i).toNat=V / 256 ^ i % 256)→leNat ((List.range n).map f)=V % 256 ^ n
 | 0,_=>by simp [leNat,Nat.mod_one]
 | n+1,h=>by
  rw [List.range_succ,List.map_append,NT,Jp f V n (fun i hi=>h i (by omega))]
  simp only [List.map_cons,List.map_nil,leNat,List.length_map,List.length_range]
  rw [h n (by omega),Nat.mul_zero,Nat.add_zero,Nat.pow_succ,Nat.mod_mul]
theorem Yv (x:UInt64) (n:Nat) (h:n < 64):((Ad x n).toUInt8).toNat=x.toNat / 2 ^ n % 256:=by
 rw [Im,Bw x n h]
theorem abl (x y:UInt64) (s:Nat) (hs:44≤s) (hs2:s < 51) (hx:x.toNat < 2251799813685248) (hy:y.toNat < 2251799813685248):((Ad x s).toUInt8 ||| (AI y (51 - s)).toUInt8).toNat=(x.toNat / 2 ^ s+y.toNat * 2 ^ (51 - s)) % 256:=by
 rw [UInt8.toNat_or,Im,Im,Bw x s (by omega),Dm y (51 - s) (by omega)]
 have h1:x.toNat / 2 ^ s < 2 ^ (51 - s):=by
  apply Nat.div_lt_of_lt_mul
  rw [← Nat.pow_add,show s+(51 - s)=51 by omega]
  simpa using hx
 have hc:s=44 ∨ s=45 ∨ s=46 ∨ s=47 ∨ s=48 ∨ s=49 ∨ s=50:=by omega
 have h2:(x.toNat / 2 ^ s) % 256=x.toNat / 2 ^ s:=Nat.mod_eq_of_lt (by rcases hc with rfl | rfl | rfl | rfl | rfl | rfl | rfl <;> simp only [Nat.reducePow,Nat.reduceSub] at h1 <;> omega)
 rw [h2]
 have h3:y.toNat * 2 ^ (51 - s) % 18446744073709551616 % 256=(y.toNat % 2 ^ (8 - (51 - s))) * 2 ^ (51 - s):=by
  rcases hc with rfl | rfl | rfl | rfl | rfl | rfl | rfl <;> simp only [Nat.reducePow,Nat.reduceSub] <;> omega
 rw [h3]
 have:=Nat.shiftLeft_add_eq_or_of_lt h1 (y.toNat % 2 ^ (8 - (51 - s)))
 rw [Nat.shiftLeft_eq] at this
 rw [Nat.or_comm,← this]
 rcases hc with rfl | rfl | rfl | rfl | rfl | rfl | rfl <;> simp only [Nat.reducePow,Nat.reduceSub] at * <;> omega
set_option maxHeartbeats 4000000 in
theorem U4 (r:E5) (h:r.red) (i:Nat) (hi:i < 32):(acE r i).toNat=r.val / 256 ^ i % 256:=by
 obtain ⟨r0,r1,r2,r3,r4⟩:=r
 unfold E5.red at h
 unfold E5.val
 simp only at h ⊢
 obtain ⟨h0,h1,h2,h3,h4⟩:=h
 have hc:i=0 ∨ i=1 ∨ i=2 ∨ i=3 ∨ i=4 ∨ i=5 ∨ i=6 ∨ i=7 ∨ i=8 ∨ i=9 ∨ i=10 ∨ i=11 ∨ i=12 ∨ i=13 ∨ i=14 ∨ i=15 ∨ i=16 ∨ i=17 ∨ i=18 ∨ i=19 ∨ i=20 ∨ i=21 ∨ i=22 ∨ i=23 ∨ i=24 ∨ i=25 ∨ i=26 ∨ i=27 ∨ i=28 ∨ i=29 ∨ i=30 ∨ i=31:=by omega
 have s:∀ (x:UInt64) (n:Nat),n < 64→((Ad x n).toUInt8).toNat=x.toNat / 2 ^ n % 256:=Yv
 have o:∀ (x y:UInt64) (n:Nat),44≤n→n < 51→x.toNat < 2251799813685248→y.toNat < 2251799813685248→((Ad x n).toUInt8 ||| (AI y (51 - n)).toUInt8).toNat=(x.toNat / 2 ^ n+y.toNat * 2 ^ (51 - n)) % 256:=abl
 rcases hc with rfl | rfl | rfl | rfl | rfl | rfl | rfl | rfl | rfl | rfl | rfl | rfl | rfl | rfl | rfl | rfl | rfl | rfl | rfl | rfl | rfl | rfl | rfl | rfl | rfl | rfl | rfl | rfl | rfl | rfl | rfl | rfl
 ·show ((Ad r0 0).toUInt8).toNat=_; rw [s _ 0 (by omega)]; simp only [Nat.reducePow]; omega
 ·show ((Ad r0 8).toUInt8).toNat=_; rw [s _ 8 (by omega)]; simp only [Nat.reducePow]; omega
 ·show ((Ad r0 16).toUInt8).toNat=_; rw [s _ 16 (by omega)]; simp only [Nat.reducePow]; omega
 ·show ((Ad r0 24).toUInt8).toNat=_; rw [s _ 24 (by omega)]; simp only [Nat.reducePow]; omega
 ·show ((Ad r0 32).toUInt8).toNat=_; rw [s _ 32 (by omega)]; simp only [Nat.reducePow]; omega
 ·show ((Ad r0 40).toUInt8).toNat=_; rw [s _ 40 (by omega)]; simp only [Nat.reducePow]; omega
 ·show ((Ad r0 48).toUInt8 ||| (AI r1 3).toUInt8).toNat=_; rw [o _ _ 48 (by omega) (by omega) h0 h1]; simp only [Nat.reducePow,Nat.reduceSub]; omega
 ·show ((Ad r1 5).toUInt8).toNat=_; rw [s _ 5 (by omega)]; simp only [Nat.reducePow]; omega
 ·show ((Ad r1 13).toUInt8).toNat=_; rw [s _ 13 (by omega)]; simp only [Nat.reducePow]; omega
 ·show ((Ad r1 21).toUInt8).toNat=_; rw [s _ 21 (by omega)]; simp only [Nat.reducePow]; omega
 ·show ((Ad r1 29).toUInt8).toNat=_; rw [s _ 29 (by omega)]; simp only [Nat.reducePow]; omega
 ·show ((Ad r1 37).toUInt8).toNat=_; rw [s _ 37 (by omega)]; simp only [Nat.reducePow]; omega
 ·show ((Ad r1 45).toUInt8 ||| (AI r2 6).toUInt8).toNat=_; rw [o _ _ 45 (by omega) (by omega) h1 h2]; simp only [Nat.reducePow,Nat.reduceSub]; omega
 ·show ((Ad r2 2).toUInt8).toNat=_; rw [s _ 2 (by omega)]; simp only [Nat.reducePow]; omega
 ·show ((Ad r2 10).toUInt8).toNat=_; rw [s _ 10 (by omega)]; simp only [Nat.reducePow]; omega
 ·show ((Ad r2 18).toUInt8).toNat=_; rw [s _ 18 (by omega)]; simp only [Nat.reducePow]; omega
 ·show ((Ad r2 26).toUInt8).toNat=_; rw [s _ 26 (by omega)]; simp only [Nat.reducePow]; omega
 ·show ((Ad r2 34).toUInt8).toNat=_; rw [s _ 34 (by omega)]; simp only [Nat.reducePow]; omega
 ·show ((Ad r2 42).toUInt8).toNat=_; rw [s _ 42 (by omega)]; simp only [Nat.reducePow]; omega
 ·show ((Ad r2 50).toUInt8 ||| (AI r3 1).toUInt8).toNat=_; rw [o _ _ 50 (by omega) (by omega) h2 h3]; simp only [Nat.reducePow,Nat.reduceSub]; omega
 ·show ((Ad r3 7).toUInt8).toNat=_; rw [s _ 7 (by omega)]; simp only [Nat.reducePow]; omega
 ·show ((Ad r3 15).toUInt8).toNat=_; rw [s _ 15 (by omega)]; simp only [Nat.reducePow]; omega
 ·show ((Ad r3 23).toUInt8).toNat=_; rw [s _ 23 (by omega)]; simp only [Nat.reducePow]; omega
 ·show ((Ad r3 31).toUInt8).toNat=_; rw [s _ 31 (by omega)]; simp only [Nat.reducePow]; omega
 ·show ((Ad r3 39).toUInt8).toNat=_; rw [s _ 39 (by omega)]; simp only [Nat.reducePow]; omega
 ·show ((Ad r3 47).toUInt8 ||| (AI r4 4).toUInt8).toNat=_; rw [o _ _ 47 (by omega) (by omega) h3 h4]; simp only [Nat.reducePow,Nat.reduceSub]; omega
 ·show ((Ad r4 4).toUInt8).toNat=_; rw [s _ 4 (by omega)]; simp only [Nat.reducePow]; omega
 ·show ((Ad r4 12).toUInt8).toNat=_; rw [s _ 12 (by omega)]; simp only [Nat.reducePow]; omega
 ·show ((Ad r4 20).toUInt8).toNat=_; rw [s _ 20 (by omega)]; simp only [Nat.reducePow]; omega
 ·show ((Ad r4 28).toUInt8).toNat=_; rw [s _ 28 (by omega)]; simp only [Nat.reducePow]; omega
 ·show ((Ad r4 36).toUInt8).toNat=_; rw [s _ 36 (by omega)]; simp only [Nat.reducePow]; omega
 ·show ((Ad r4 44).toUInt8).toNat=_; rw [s _ 44 (by omega)]; simp only [Nat.reducePow]; omega
theorem adu {a:E5}(h:a.red):a.val < 57896044618658097711785492504343953926634992332820282019728792003956564819968:=by
 unfold E5.red at h
 unfold E5.val
 omega
theorem Lw (a:E5):leNat (D8 a)=a.val % Pq:=by
 obtain ⟨h1,h2⟩:=Gb a
 unfold D8
 rw [Jp _ (CX a).val 32 (fun i hi=>U4 _ h1 i hi),Nat.mod_eq_of_lt (Nat.lt_of_lt_of_le (adu h1) (by decide)),h2]
theorem Lf (a:E5):(D8 a).length=32:=by unfold D8; simp
theorem Li (s:List UInt8) (k:Nat):leNat (s.drop k)=leNat s / 256 ^ k:=by
 induction k generalizing s with
 | zero=>simp
 | succ k ih =>
  cases s with
  | nil=>simp [leNat]
  | cons c l =>
   have hc:=c.toNat_lt
   simp only [Nat.reducePow] at hc
   rw [List.drop_succ_cons,ih,leNat,Nat.pow_succ,Nat.mul_comm (256 ^ k),← Nat.div_div_eq_div_mul]
   congr 1
   omega
theorem DA (s:List UInt8) (k:Nat):(s.getD k 0).toNat=leNat s / 256 ^ k % 256:=by
 rw [← Li]
 induction k generalizing s with
 | zero =>
  cases s with
  | nil=>rfl
  | cons c l =>
   have hc:=c.toNat_lt
   simp only [Nat.reducePow] at hc
   simp only [List.getD_cons_zero,List.drop_zero,leNat]
   omega
 | succ k ih =>
  cases s with
  | nil=>simp [leNat]
  | cons c l=>rw [List.getD_cons_succ,List.drop_succ_cons]; exact ih l
theorem D4 (x:UInt64) (b:UInt8) (n:Nat) (hn:n < 57) (h:x.toNat < 2 ^ n):(x ||| AI b.toUInt64 n).toNat=x.toNat+b.toNat * 2 ^ n:=by
 have hb:=b.toNat_lt
 rw [UInt64.toNat_or,Dm _ n (by omega),UInt8.toNat_toUInt64]
 have hlt:b.toNat * 2 ^ n < 18446744073709551616:=by
  have h1:2 ^ n≤2 ^ 56:=Nat.pow_le_pow_right (by omega) (by omega)
  have:=Nat.mul_le_mul (Nat.le_of_lt_succ hb) h1
  simp only [Nat.reducePow] at *
  omega
 rw [Nat.mod_eq_of_lt hlt]
 have:=Nat.shiftLeft_add_eq_or_of_lt h b.toNat
 rw [Nat.shiftLeft_eq] at this
 rw [Nat.or_comm,← this,Nat.add_comm]
theorem Ez (s:List UInt8):(Fi s).toNat=leNat s % 18446744073709551616:=by
 have b:∀ k,(s.getD k 0).toNat < 256:=fun k=>(s.getD k 0).toNat_lt
 have b0:=b 0; have b1:=b 1; have b2:=b 2; have b3:=b 3; have b4:=b 4; have b5:=b 5; have b6:=b 6; have b7:=b 7
 have hz:(0:UInt64).toNat=0:=rfl
 unfold Fi
 have e0:=D4 0 (s.getD 0 0) 0 (by omega) (by rw [hz]; decide)
 have e1:=D4 _ (s.getD 1 0) 8 (by omega) (by rw [e0,hz]; simp only [Nat.reducePow]; omega)
 have e2:=D4 _ (s.getD 2 0) 16 (by omega) (by rw [e1,e0,hz]; simp only [Nat.reducePow]; omega)
 have e3:=D4 _ (s.getD 3 0) 24 (by omega) (by rw [e2,e1,e0,hz]; simp only [Nat.reducePow]; omega)
 have e4:=D4 _ (s.getD 4 0) 32 (by omega) (by rw [e3,e2,e1,e0,hz]; simp only [Nat.reducePow]; omega)
 have e5:=D4 _ (s.getD 5 0) 40 (by omega) (by rw [e4,e3,e2,e1,e0,hz]; simp only [Nat.reducePow]; omega)
 have e6:=D4 _ (s.getD 6 0) 48 (by omega) (by rw [e5,e4,e3,e2,e1,e0,hz]; simp only [Nat.reducePow]; omega)
 have e7:=D4 _ (s.getD 7 0) 56 (by omega) (by rw [e6,e5,e4,e3,e2,e1,e0,hz]; simp only [Nat.reducePow]; omega)
 rw [e7,e6,e5,e4,e3,e2,e1,e0,hz,DA s 0,DA s 1,DA s 2,DA s 3,DA s 4,DA s 5,DA s 6,DA s 7]
 simp only [Nat.reducePow]
 omega
theorem Qx (V:Nat):V % 2251799813685248+19 * (V / 57896044618658097711785492504343953926634992332820282019728792003956564819968)+2251799813685248 * (V / 2251799813685248 % 2251799813685248)+5070602400912917605986812821504 * (V / 5070602400912917605986812821504 % 2251799813685248)+11417981541647679048466287755595961091061972992 * (V / 11417981541647679048466287755595961091061972992 % 2251799813685248)+25711008708143844408671393477458601640355247900524685364822016 * (V / 25711008708143844408671393477458601640355247900524685364822016 % 2251799813685248)+Pq * (V / 57896044618658097711785492504343953926634992332820282019728792003956564819968)=V:=by
 have d2:V / 5070602400912917605986812821504=V / 2251799813685248 / 2251799813685248:=by rw [Nat.div_div_eq_div_mul]
 have d3:V / 11417981541647679048466287755595961091061972992=V / 2251799813685248 / 2251799813685248 / 2251799813685248:=by rw [Nat.div_div_eq_div_mul,Nat.div_div_eq_div_mul]
 have d4:V / 25711008708143844408671393477458601640355247900524685364822016=V / 2251799813685248 / 2251799813685248 / 2251799813685248 / 2251799813685248:=by rw [Nat.div_div_eq_div_mul,Nat.div_div_eq_div_mul,Nat.div_div_eq_div_mul]
 have d5:V / 57896044618658097711785492504343953926634992332820282019728792003956564819968=V / 2251799813685248 / 2251799813685248 / 2251799813685248 / 2251799813685248 / 2251799813685248:=by rw [Nat.div_div_eq_div_mul,Nat.div_div_eq_div_mul,Nat.div_div_eq_div_mul,Nat.div_div_eq_div_mul]
 rw [d2,d3,d4,d5]
 unfold Pq
 omega
theorem HY:EC.ok:=⟨by decide,by decide,by decide,by decide,by decide⟩
theorem Xf (s:List UInt8) (h:s.length=32):(Vt s).val % Pq=leNat s % Pq:=by
 have hv:leNat s < 115792089237316195423570985008687907853269984665640564039457584007913129639936:=by
  have:=Pl s
  rw [h] at this
  simpa using this
 have w0:=Ez s
 have w6:=Ez (s.drop 6)
 have w12:=Ez (s.drop 12)
 have w19:=Ez (s.drop 19)
 have w24:=Ez (s.drop 24)
 rw [Li] at w6 w12 w19 w24
 have b31:=DA s 31
 have d:∀ m n:Nat,leNat s / m / n=leNat s / (m * n):=fun m n=>Nat.div_div_eq_div_mul _ _ _
 have q:∀ Q:Nat,Q % 18446744073709551616 / 8 % 2251799813685248=Q / 8 % 2251799813685248:=fun Q=>by omega
 have q6:∀ Q:Nat,Q % 18446744073709551616 / 64 % 2251799813685248=Q / 64 % 2251799813685248:=fun Q=>by omega
 have q1:∀ Q:Nat,Q % 18446744073709551616 / 2 % 2251799813685248=Q / 2 % 2251799813685248:=fun Q=>by omega
 have q12:∀ Q:Nat,Q % 18446744073709551616 / 4096 % 2251799813685248=Q / 4096 % 2251799813685248:=fun Q=>by omega
 have q0:∀ Q:Nat,Q % 18446744073709551616 % 2251799813685248=Q % 2251799813685248:=fun Q=>by omega
 have h31:leNat s / 256 ^ 31 < 256:=by
  apply Nat.div_lt_of_lt_mul
  rw [show (256:Nat) ^ 31 * 256=115792089237316195423570985008687907853269984665640564039457584007913129639936 by decide]
  exact hv
 have e0:((Fi s &&& m51)+19 * (shr_u8 (s.getD 31 0) 7).toUInt64).toNat=leNat s % 2251799813685248+19 * (leNat s / 57896044618658097711785492504343953926634992332820282019728792003956564819968):=by
  have ed:leNat s / 57896044618658097711785492504343953926634992332820282019728792003956564819968=leNat s / 256 ^ 31 / 128:=by
   rw [d]
  rw [UInt64.toNat_add,UInt64.toNat_mul,n19,UInt8.toNat_toUInt64,RI _ 7 (by omega),HZ,w0,b31,Nat.mod_eq_of_lt h31,ed,q0]
  generalize leNat s / 256 ^ 31=Q at *
  have:=Nat.mod_lt (leNat s) (show 0 < 2251799813685248 by omega)
  generalize leNat s % 2251799813685248=R at *
  simp only [Nat.reducePow]
  omega
 have e1:(Ad (Fi (s.drop 6)) 3 &&& m51).toNat=leNat s / 2251799813685248 % 2251799813685248:=by
  rw [HZ,Bw _ 3 (by omega),w6]
  show leNat s / 256 ^ 6 % 18446744073709551616 / 8 % 2251799813685248=_
  rw [q,d]
 have e2:(Ad (Fi (s.drop 12)) 6 &&& m51).toNat=leNat s / 5070602400912917605986812821504 % 2251799813685248:=by
  rw [HZ,Bw _ 6 (by omega),w12]
  show leNat s / 256 ^ 12 % 18446744073709551616 / 64 % 2251799813685248=_
  rw [q6,d]
 have e3:(Ad (Fi (s.drop 19)) 1 &&& m51).toNat=leNat s / 11417981541647679048466287755595961091061972992 % 2251799813685248:=by
  rw [HZ,Bw _ 1 (by omega),w19]
  show leNat s / 256 ^ 19 % 18446744073709551616 / 2 % 2251799813685248=_
  rw [q1,d]
 have e4:(Ad (Fi (s.drop 24)) 12 &&& m51).toNat=leNat s / 25711008708143844408671393477458601640355247900524685364822016 % 2251799813685248:=by
  rw [HZ,Bw _ 12 (by omega),w24]
  show leNat s / 256 ^ 24 % 18446744073709551616 / 4096 % 2251799813685248=_
  rw [q12,d]
 have ev:(Vt s).val+Pq * (leNat s / 57896044618658097711785492504343953926634992332820282019728792003956564819968)=leNat s:=by
  have ed:(Vt s).val=leNat s % 2251799813685248+19 * (leNat s / 57896044618658097711785492504343953926634992332820282019728792003956564819968)+2251799813685248 * (leNat s / 2251799813685248 % 2251799813685248)+5070602400912917605986812821504 * (leNat s / 5070602400912917605986812821504 % 2251799813685248)+11417981541647679048466287755595961091061972992 * (leNat s / 11417981541647679048466287755595961091061972992 % 2251799813685248)+25711008708143844408671393477458601640355247900524685364822016 * (leNat s / 25711008708143844408671393477458601640355247900524685364822016 % 2251799813685248):=by
   rw [← e0,← e1,← e2,← e3,← e4]
   rfl
  rw [ed]
  exact Qx _
 rw [← ev,Nat.add_mul_mod_self_left]
theorem Ud (s:List UInt8):(Dx s).ok:=by
 unfold Dx
 cases isLen s 32
 ·exact HY
 ·exact DO _
theorem PO {s:List UInt8}(h:isLen s 32=true):(Dx s).val % Pq=leNat s % Pq:=by
 unfold Dx
 rw [h,cond_true,CJ,Xf s (BK.1 h)]
theorem Jd:EC.val=0:=by decide
theorem He (n:UInt32):(D9 n).ok∧(D9 n).val=n.toNat:=by
 have h:=n.toNat_lt
 simp only [Nat.reducePow] at h
 have hz:(0:UInt64).toNat=0:=rfl
 unfold E5.ok E5.val D9
 simp only [UInt32.toNat_toUInt64,hz]
 omega
theorem agI (a b:E5):eqE a b=decide (a=b):=by
 obtain ⟨a0,a1,a2,a3,a4⟩:=a
 obtain ⟨b0,b1,b2,b3,b4⟩:=b
 rw [Bool.eq_iff_iff]
 simp [eqE]
theorem Wi (a b:E5):Wm a b=decide (a.val % Pq=b.val % Pq):=by
 obtain ⟨h1,h2⟩:=Gb a
 obtain ⟨k1,k2⟩:=Gb b
 unfold Wm
 rw [agI,decide_eq_decide,← h2,← k2]
 exact ⟨fun h=>by rw [h],fun h=>E5.ext_val h1 k1 h⟩
end Go.Num
namespace Go.Num
open Go Go.Eng
structure Rel (a:E5) (x:N16):Prop where
 ok:a.ok
 okP:x.ok
 val:x.val=a.val % Pq
theorem Rel.lt {a:E5}{x:N16}(h:Rel a x):x.val < Pq:=by rw [h.val]; exact Nat.mod_lt _ GS
theorem Rel.mod {a:E5}{x:N16}(h:Rel a x):a.val % Pq=x.val:=h.val.symm
theorem Rel.bytes {a:E5}{x:N16}(h:Rel a x):D8 a=bytesN x:=
 Jh (by rw [Lf,Ri]) (by rw [Lw,Qw x h.okP,h.val])
theorem QV {s:List UInt8}(h:isLen s 32=true):Rel (Dx s) (ofP s):=by
 obtain ⟨o,e⟩:=abC (BK.1 h)
 exact ⟨Ud s,o,by rw [e,PO h]⟩
theorem Y8:Rel EC BG:=⟨HY,ON,by rw [IR,Jd]; rfl⟩
theorem Uv (n:UInt32):Rel (D9 n) (smallN n):=by
 obtain ⟨o,e⟩:=C3 n
 obtain ⟨o2,e2⟩:=He n
 refine ⟨o2,o,?_⟩
 have h:=n.toNat_lt
 simp only [Nat.reducePow] at h
 rw [e,e2,Nat.mod_eq_of_lt (by unfold Pq; omega)]
theorem ZB {a b:E5}{x y:N16}(h:Rel a x) (k:Rel b y):Rel (LS a b) (JQ x y):=by
 obtain ⟨o,e⟩:=KS x y h.okP k.okP
 obtain ⟨o2,e2⟩:=Kj a b h.ok k.ok
 exact ⟨o2,o,by rw [e,e2,h.val,k.val,← Nat.add_mod]⟩
theorem SK {a b:E5}{x y:N16}(h:Rel a x) (k:Rel b y):Rel (Di a b) (B7 x y):=by
 obtain ⟨o,e⟩:=Dh x y h.okP k.okP
 obtain ⟨o2,e2⟩:=ID a b h.ok k.ok
 exact ⟨o2,o,by rw [e,e2,h.val,k.val,← Nat.mul_mod]⟩
theorem J5 (a b P:Nat) (hP:0 < P) (hb:b≤2 * P):(a+(2 * P - b)) % P=(a % P+(P - b % P)) % P:=by
 have h1:=Nat.div_add_mod b P
 have h2:=Nat.mod_lt b hP
 have h3:=Nat.div_add_mod a P
 have h4:b / P≤2:=Nat.div_le_of_le_mul (by rw [Nat.mul_comm]; exact hb)
 generalize b % P=r at *
 generalize hq:b / P=q at *
 have h5:q=0 ∨ q=1 ∨ q=2:=by omega
 have h6:(a % P+(P - r)) % P=(a+(P - r)) % P:=by rw [Nat.mod_add_mod]
 rw [h6]
 rcases h5 with rfl | rfl | rfl
 ·have e:a+(2 * P - b)=(a+(P - r))+P * 1:=by omega
  rw [e,Nat.add_mul_mod_self_left]
 ·have e:a+(2 * P - b)=a+(P - r):=by omega
  rw [e]
 ·have e:a+(P - r)=a+(2 * P - b)+P * 1:=by omega
  rw [e,Nat.add_mul_mod_self_left]
theorem abt {a b:E5}{x y:N16}(h:Rel a x) (k:Rel b y):Rel (K8 a b) (KK x y):=by
 obtain ⟨o,e⟩:=Yx x y h.okP k.okP k.lt
 obtain ⟨o2,e2,hle⟩:=HC a b h.ok k.ok
 exact ⟨o2,o,by rw [e,e2,h.val,k.val,J5 _ _ _ GS hle]⟩
structure PowE (a:E5) (n:Nat) (x:E5):Prop where
 ok:x.ok
 val:x.val % Pq=a.val ^ n % Pq
theorem pow_one {a:E5}(h:a.ok):PowE a 1 a:=⟨h,by rw [Nat.pow_one]⟩
theorem pow_mul {a x y:E5}{m n:Nat}(h:PowE a m x) (k:PowE a n y):PowE a (m+n) (Di x y):=by
 obtain ⟨o,e⟩:=ID x y h.ok k.ok
 exact ⟨o,by rw [e,Nat.mul_mod,h.val,k.val,← Nat.mul_mod,← Nat.pow_add]⟩
theorem K7 {a:E5}:∀ (n:Nat){x:E5}{m:Nat},PowE a m x→PowE a (m * 2 ^ n) (sqE x n)
 | 0,x,m,h=>by rw [Nat.pow_zero,Nat.mul_one]; exact h
 | n+1,x,m,h=>by
  have:=K7 n (pow_mul h h)
  have e:(m+m) * 2 ^ n=m * 2 ^ (n+1):=by rw [Nat.pow_succ,← Nat.mul_assoc,← Nat.two_mul,Nat.mul_comm 2 m,Nat.mul_assoc,Nat.mul_comm 2,← Nat.mul_assoc]
  rw [e] at this
  exact this
theorem Qk {a:E5}(ha:a.ok):∀ (f n:Nat),1≤n→n < 2 ^ f→PowE a (2 ^ n - 1) (Cw a f n)
 | 0,n,h1,h2=>by rw [Nat.pow_zero] at h2; omega
 | f+1,n,h1,h2=>by
  simp only [Cw]
  rcases beq_cases n 1 with ⟨e,hb⟩ | ⟨e,hb⟩
  ·rw [hb,cond_true,e]
   exact pow_one ha
  ·rw [hb,cond_false]
   have hm:1≤n / 2:=by omega
   have ih:=Qk ha f (n / 2) hm (by rw [Nat.pow_succ] at h2; omega)
   have p:=pow_mul (K7 (n / 2) ih) ih
   have hp:1≤2 ^ (n / 2):=Nat.one_le_two_pow
   have e1:(2 ^ (n / 2) - 1) * 2 ^ (n / 2)+(2 ^ (n / 2) - 1)=2 ^ (n / 2+n / 2) - 1:=by
    rw [Nat.pow_add,Nat.sub_mul,Nat.one_mul]
    have:2 ^ (n / 2)≤2 ^ (n / 2) * 2 ^ (n / 2):=Nat.le_mul_of_pos_left _ hp
    omega
   rw [e1] at p
   rcases beq_cases (n % 2) 1 with ⟨e2,hb2⟩ | ⟨e2,hb2⟩
   ·rw [hb2,cond_true]
    have p2:=pow_mul (K7 1 p) (pow_one ha)
    have e3:(2 ^ (n / 2+n / 2) - 1) * 2 ^ 1+1=2 ^ n - 1:=by
     have e4:n=n / 2+n / 2+1:=by omega
     have:1≤2 ^ (n / 2+n / 2):=Nat.one_le_two_pow
     conv=>rhs; rw [e4]
     rw [Nat.pow_succ]
     omega
    rw [e3] at p2
    exact p2
   ·rw [hb2,cond_false]
    have e4:n / 2+n / 2=n:=by omega
    rw [e4] at p
    exact p
def aew:Nat:=EV 0 (Jv 255 21)
theorem aa0:(2 ^ 250 - 1) * 2 ^ 5+(1+1+1+1 * 2 ^ 3)=aew:=by kernel_rfl
theorem Sy {a:E5}(ha:a.ok):PowE a aew (LV a):=by
 have h:=Qk ha 8 250 (by decide) (by decide)
 have p:=pow_mul (K7 5 h) (pow_mul (pow_mul (pow_mul (pow_one ha) (pow_one ha)) (pow_one ha)) (K7 3 (pow_one ha)))
 rw [aa0] at p
 have e:LV a=Di (sqE (Cw a 8 250) 5) (Di (Di (Di a a) a) (sqE a 3)):=by unfold LV acj; rfl
 rw [e]
 exact p
theorem aan {a b:E5}{x:N16}{l:List Bool}(h:Rel a x) (p:PowE a (EV 0 l) b):Rel b (Og x l):=by
 refine ⟨p.ok,S0 x h.okP l,?_⟩
 rw [WE x h.okP,p.val,h.val,← Nat.pow_mod]
theorem ZK {a:E5}{x:N16}(h:Rel a x):Rel (LV a) (O9 x):=aan h (Sy h.ok)
end Go.Num
namespace Go.Num
open Go Go.Eng
end Go.Num
namespace Go.Num
open Go Go.Eng
theorem ZD {a:E5}(ha:a.ok):(abL a).ok∧(abL a).val % Pq=(Pq - a.val % Pq) % Pq:=by
 obtain ⟨o,e,hle⟩:=HC EC a HY ha
 refine ⟨o,?_⟩
 unfold abL
 rw [e,J5 _ _ _ GS hle,Jd,Nat.zero_mod,Nat.zero_add]
theorem U8 (n:UInt32):(D9 n).val % Pq=n.toNat:=by
 have h:=n.toNat_lt
 simp only [Nat.reducePow] at h
 rw [(He n).2,Nat.mod_eq_of_lt (by unfold Pq; omega)]
end Go.Num
namespace Go.Num
def pwB (n a x:Nat):List Bool→Nat
 | []=>x
 | b::l=>pwB n a (cond b (x * x % n * a % n) (x * x % n)) l
def bN (k:Nat):List Bool→Nat
 | []=>k
 | b::l=>bN (cond b (k+k+1) (k+k)) l
theorem SG (n a:Nat):∀ (l:List Bool) (x k:Nat),x=a ^ k % n→pwB n a x l=a ^ (bN k l) % n
 | [],x,k,h=>h
 | b::l,x,k,h=>by
  unfold pwB bN
  refine SG n a l _ _ ?_
  have e:x * x % n=a ^ (k+k) % n:=by rw [h,Nat.pow_add,← Nat.mul_mod]
  cases b with
  | false=>exact e
  | true =>
   show x * x % n * a % n=a ^ (k+k+1) % n
   rw [e,Nat.pow_succ,Nat.mod_mul_mod]
def Qp (e:Nat):List Bool:=(List.range 256).map fun i=>e.testBit (255 - i)
def pwE (n a e:Nat):Nat:=pwB n a 1 (Qp e)
theorem aaK {n a e:Nat}(hn:1 < n) (h:bN 0 (Qp e)=e):a ^ e % n=pwE n a e:=by
 have:=SG n a (Qp e) 1 0 (by rw [Nat.pow_zero]; exact (Nat.mod_eq_of_lt hn).symm)
 unfold pwE
 rw [this,h]
end Go.Num
namespace Go.Num
open Go Go.Eng
theorem Ur {P a b:Nat}(h:a % P=b % P) (k:Nat):a ^ k % P=b ^ k % P:=by rw [Nat.pow_mod,h,← Nat.pow_mod]
theorem Mx {P a b c d:Nat}(h:a % P=b % P) (k:c % P=d % P):a * c % P=b * d % P:=by rw [Nat.mul_mod,h,k,← Nat.mul_mod]
structure Vm (x:E5) (n:Nat):Prop where
 ok:x.ok
 val:x.val % Pq=n % Pq
theorem Vm.self {x:E5}(h:x.ok):Vm x x.val:=⟨h,rfl⟩
theorem Vm.add {x y:E5}{n m:Nat}(h:Vm x n) (k:Vm y m):Vm (LS x y) (n+m):=by
 obtain ⟨o,e⟩:=Kj x y h.ok k.ok
 exact ⟨o,by rw [e,Nat.add_mod,h.val,k.val,← Nat.add_mod]⟩
theorem Vm.mul {x y:E5}{n m:Nat}(h:Vm x n) (k:Vm y m):Vm (Di x y) (n * m):=by
 obtain ⟨o,e⟩:=ID x y h.ok k.ok
 exact ⟨o,by rw [e]; exact Mx h.val k.val⟩
theorem Vm.sub {x y:E5}{n m:Nat}(h:Vm x n) (k:Vm y m):Vm (K8 x y) (n+(Pq - m % Pq)):=by
 obtain ⟨o,e,hle⟩:=HC x y h.ok k.ok
 refine ⟨o,?_⟩
 rw [e,J5 _ _ _ GS hle,k.val,h.val,← Nat.add_mod_mod,Nat.add_mod_mod,Nat.add_mod]
 rw [Nat.mod_mod,← Nat.add_mod]
theorem Vm.neg {x:E5}{n:Nat}(h:Vm x n):Vm (abL x) (Pq - n % Pq):=by
 obtain ⟨o,e⟩:=ZD h.ok
 exact ⟨o,by rw [e,h.val]⟩
theorem Vm.same {x y:E5}{n m:Nat}(h:Vm x n) (k:Vm y m):Wm x y=decide (n % Pq=m % Pq):=by rw [Wi,h.val,k.val]
theorem anl:aew=Pq - 2:=by kernel_rfl
theorem afR {a:E5}{n:Nat}(h:Vm a n):Vm (LV a) (n ^ (Pq - 2)):=by
 have p:=Sy h.ok
 refine ⟨p.ok,?_⟩
 rw [p.val,anl]
 generalize Pq - 2=e
 exact Ur h.val e
end Go.Num
namespace Go.Num
open Go Go.Eng
structure Ops (R:Type) where
 add:R→R→R
 sub:R→R→R
 mul:R→R→R
 small:UInt32→R
 zero:R
structure P2 (R:Type) where
 x:R
 z:R
def DJ {R:Type}(o:Ops R) (p q:P2 R) (u:R):P2 R × P2 R:=
  (⟨o.mul (o.mul (o.add p.x p.z) (o.add p.x p.z)) (o.mul (o.sub p.x p.z) (o.sub p.x p.z)),
    o.mul (o.sub (o.mul (o.add p.x p.z) (o.add p.x p.z)) (o.mul (o.sub p.x p.z) (o.sub p.x p.z))) (o.add (o.mul (o.add p.x p.z) (o.add p.x p.z)) (o.mul (o.small 121665) (o.sub (o.mul (o.add p.x p.z) (o.add p.x p.z)) (o.mul (o.sub p.x p.z) (o.sub p.x p.z)))))⟩,
   ⟨o.mul (o.add (o.mul (o.sub q.x q.z) (o.add p.x p.z)) (o.mul (o.add q.x q.z) (o.sub p.x p.z))) (o.add (o.mul (o.sub q.x q.z) (o.add p.x p.z)) (o.mul (o.add q.x q.z) (o.sub p.x p.z))),
    o.mul u (o.mul (o.sub (o.mul (o.sub q.x q.z) (o.add p.x p.z)) (o.mul (o.add q.x q.z) (o.sub p.x p.z))) (o.sub (o.mul (o.sub q.x q.z) (o.add p.x p.z)) (o.mul (o.add q.x q.z) (o.sub p.x p.z))))⟩)
def Vk {R:Type}(o:Ops R) (u:R) (b:Bool) (s:P2 R × P2 R):P2 R × P2 R:=
 cond b ((DJ o s.2 s.1 u).2,(DJ o s.2 s.1 u).1) (DJ o s.1 s.2 u)
def QU (k:List UInt8) (i:Nat):UInt8:=shr_u8 (k.getD (i / 8) 0) (i % 8) &&& 1
def bitK (k:List UInt8) (i:Nat):Bool:=QU k i == 1
def Gy {R:Type}(o:Ops R) (k:List UInt8) (u:R):Nat→P2 R × P2 R
 | 0=>(⟨o.small 1,o.zero⟩,⟨u,o.small 1⟩)
 | j+1=>Vk o u (bitK k (254 - j)) (Gy o k u j)
structure Keeps {R S:Type} (o:Ops R) (o':Ops S) (r:R→S→Prop):Prop where
 add:∀ {a b x y},r a x→r b y→r (o.add a b) (o'.add x y)
 sub:∀ {a b x y},r a x→r b y→r (o.sub a b) (o'.sub x y)
 mul:∀ {a b x y},r a x→r b y→r (o.mul a b) (o'.mul x y)
 small:∀ n,r (o.small n) (o'.small n)
 zero:r o.zero o'.zero
def R2 {R S:Type}(r:R→S→Prop) (p:P2 R) (q:P2 S):Prop:=r p.x q.x∧r p.z q.z
theorem LI {R S:Type}{o:Ops R}{o':Ops S}{r:R→S→Prop}(k:Keeps o o' r){p q:P2 R}{p' q':P2 S}{u:R}{u':S}(hp:R2 r p p') (hq:R2 r q q') (hu:r u u') :
  R2 r (DJ o p q u).1 (DJ o' p' q' u').1∧R2 r (DJ o p q u).2 (DJ o' p' q' u').2:=by
 have a:=k.add hp.1 hp.2
 have d:=k.sub hp.1 hp.2
 have aa:=k.mul a a
 have dd:=k.mul d d
 have e:=k.sub aa dd
 have da:=k.mul (k.sub hq.1 hq.2) a
 have cb:=k.mul (k.add hq.1 hq.2) d
 have s:=k.add da cb
 have t:=k.sub da cb
 exact ⟨⟨k.mul aa dd,k.mul e (k.add aa (k.mul (k.small _) e))⟩,⟨k.mul s s,k.mul hu (k.mul t t)⟩⟩
theorem Gl {R S:Type}{o:Ops R}{o':Ops S}{r:R→S→Prop}(k:Keeps o o' r) (l:List UInt8){u:R}{u':S}(hu:r u u') :
  ∀ j,R2 r (Gy o l u j).1 (Gy o' l u' j).1∧R2 r (Gy o l u j).2 (Gy o' l u' j).2
 | 0=>⟨⟨k.small 1,k.zero⟩,⟨hu,k.small 1⟩⟩
 | j+1=>by
  have ih:=Gl k l hu j
  unfold Gy Vk
  cases bitK l (254 - j) with
  | false=>exact LI k ih.1 ih.2 hu
  | true =>
   have:=LI k ih.2 ih.1 hu
   exact ⟨this.2,this.1⟩
def Hz:Ops E5:=⟨LS,K8,Di,D9,EC⟩
def Pt:Ops N16:=⟨JQ,KK,B7,smallN,BG⟩
def ahN:Ops Nat:=⟨fun a b=>(a+b) % Pq,fun a b=>(a+(Pq - b)) % Pq,fun a b=>a * b % Pq,fun n=>n.toNat,0⟩
theorem Ps:Keeps Hz Pt Rel:=⟨ZB,abt,SK,Uv,Y8⟩
structure RelM (a:E5) (n:Nat):Prop where
 ok:a.ok
 val:a.val % Pq=n
theorem alz (a:E5) (h:a.ok):RelM a (a.val % Pq):=⟨h,rfl⟩
theorem RelM.lt {a:E5}{n:Nat}(h:RelM a n):n < Pq:=by rw [← h.val]; exact Nat.mod_lt _ GS
theorem Zn:Keeps Hz ahN RelM where
 add {a b x y} h k:=by
  obtain ⟨o,e⟩:=Kj a b h.ok k.ok
  exact ⟨o,by show _=(x+y) % Pq; rw [← h.val,← k.val,← Nat.add_mod]; exact e⟩
 sub {a b x y} h k:=by
  obtain ⟨o,e,hle⟩:=HC a b h.ok k.ok
  refine ⟨o,?_⟩
  show _=(x+(Pq - y)) % Pq
  rw [← h.val,← k.val]
  exact e.trans (J5 _ _ _ GS hle)
 mul {a b x y} h k:=by
  obtain ⟨o,e⟩:=ID a b h.ok k.ok
  exact ⟨o,by show _=x * y % Pq; rw [← h.val,← k.val,← Nat.mul_mod]; exact e⟩
 small n:=⟨(He n).1,U8 n⟩
 zero:=⟨HY,show EC.val % Pq=0 by rw [Jd]; rfl⟩
def JJ (u:List UInt8):List UInt8:=u.set 31 (u.getD 31 0 &&& 127)
def ZG (k u:List UInt8):P2 E5:=(Gy Hz (Bp k) (Dx (JJ u)) 255).1
def ladE (k u:List UInt8):List UInt8:=D8 (Di (ZG k u).x (LV (ZG k u).z))
def ajX (k u:List UInt8):P2 N16:=(Gy Pt (Bp k) (ofP (JJ u)) 255).1
def ladP (k u:List UInt8):List UInt8:=bytesN (B7 (ajX k u).x (O9 (ajX k u).z))
theorem OT {u:List UInt8}{n:Nat}(h:isLen u n=true):isLen (JJ u) n=true:=by
 rw [BK] at h ⊢
 unfold JJ
 rw [List.length_set]; exact h
theorem Pk (k:List UInt8){u:List UInt8}(h:isLen u 32=true):ladE k u=ladP k u:=by
 have r:=(Gl Ps (Bp k) (QV (OT h)) 255).1
 exact (SK r.1 (ZK r.2)).bytes
def Fa (k:List UInt8) (u:Nat):P2 Nat:=(Gy ahN (Bp k) u 255).1
def Dn (p:P2 Nat):Nat:=p.x * pwE Pq p.z (Pq - 2) % Pq
theorem agZ (x:Nat):pwE Pq x (Pq - 2)=x ^ (Pq - 2) % Pq:=(aaK (by decide) (by kernel_rfl)).symm
theorem X1 (k:List UInt8){u:List UInt8}:leNat (ladE k u)=Dn (Fa k ((Dx (JJ u)).val % Pq)):=by
 have r:=(Gl Zn (Bp k) (alz _ (Ud (JJ u))) 255).1
 have vx:=Vm.self r.1.ok
 have vz:=afR (Vm.self r.2.ok)
 have e:=(vx.mul vz).val
 unfold ladE
 rw [Lw]
 refine e.trans ?_
 unfold Dn
 rw [agZ]
 generalize Pq - 2=n
 have h1:(ZG k u).x.val % Pq=(Fa k ((Dx (JJ u)).val % Pq)).x:=r.1.val
 have h2:(ZG k u).z.val % Pq=(Fa k ((Dx (JJ u)).val % Pq)).z:=r.2.val
 refine Mx (b:=(Fa k ((Dx (JJ u)).val % Pq)).x) ?_ ?_
 ·rw [← h1,Nat.mod_mod]; rfl
 ·rw [← h2,Nat.mod_mod]
  exact (Nat.pow_mod _ _ _).trans rfl
theorem HD (k u:List UInt8):(ladE k u).length=32:=Lf _
end Go.Num
namespace Go.Proofs.YtcplgmgpagekfaaGreatDoor
open Go Go.Eng Go.Num
def JW (p:P2 E5):List AVal:=[.u64 p.x.x0,.u64 p.x.x1,.u64 p.x.x2,.u64 p.x.x3,.u64 p.x.x4,.u64 p.z.x0,.u64 p.z.x1,.u64 p.z.x2,.u64 p.z.x3,.u64 p.z.x4]
def HI (p:P2 E5):AVal:=.agg (JW p)
theorem aeC (a0 a1 a2 a3 a4 a5 a6 a7 a8 a9 a10 a11 a12 a13 a14 a15 a16 a17 a18 a19 a20 a21 a22 a23 a24 a25 a26 a27 a28 a29 a30 a31:UInt8):(Au Tryz.prog cs0 (mask 61) 100 61 [.str [a0,a1,a2,a3,a4,a5,a6,a7,a8,a9,a10,a11,a12,a13,a14,a15,a16,a17,a18,a19,a20,a21,a22,a23,a24,a25,a26,a27,a28,a29,a30,a31]] [] Tryz.prog.globals.size).map (·.1)=some (.tup [.str (Bp [a0,a1,a2,a3,a4,a5,a6,a7,a8,a9,a10,a11,a12,a13,a14,a15,a16,a17,a18,a19,a20,a21,a22,a23,a24,a25,a26,a27,a28,a29,a30,a31]),.int .i64 0]):=by kernel_rfl
theorem afP (a0 a1 a2 a3 a4 a5 a6 a7 a8 a9 a10 a11 a12 a13 a14 a15 a16 a17 a18 a19 a20 a21 a22 a23 a24 a25 a26 a27 a28 a29 a30 a31:UInt8):(Au Tryz.prog cs0 (mask 32) 100 32 [.str [a0,a1,a2,a3,a4,a5,a6,a7,a8,a9,a10,a11,a12,a13,a14,a15,a16,a17,a18,a19,a20,a21,a22,a23,a24,a25,a26,a27,a28,a29,a30,a31]] [] Tryz.prog.globals.size).map (·.1)=some (.str (Bp [a0,a1,a2,a3,a4,a5,a6,a7,a8,a9,a10,a11,a12,a13,a14,a15,a16,a17,a18,a19,a20,a21,a22,a23,a24,a25,a26,a27,a28,a29,a30,a31])):=by kernel_rfl
theorem akq (s:List UInt8) (h:isLen s 32=true):(Au Tryz.prog cs0 (mask 61) 100 61 [.str s] [] Tryz.prog.globals.size).map (·.1)=some (.tup [.str (Bp s),.int .i64 0]):=by
 obtain ⟨a0,a1,a2,a3,a4,a5,a6,a7,a8,a9,a10,a11,a12,a13,a14,a15,a16,a17,a18,a19,a20,a21,a22,a23,a24,a25,a26,a27,a28,a29,a30,a31,rfl⟩:=L2 (BK.1 h)
 exact aeC a0 a1 a2 a3 a4 a5 a6 a7 a8 a9 a10 a11 a12 a13 a14 a15 a16 a17 a18 a19 a20 a21 a22 a23 a24 a25 a26 a27 a28 a29 a30 a31
def p61:List AVal→Option (EffA × Bool)
 | [.str s]=>some (.pure (.tup [.str (Bp s),.int .i64 0]),isLen s 32)
 | _=>none
theorem Wx:Ai Tryz.prog (csP (Al 61 p61)):=AT fun args v he=>by
 unfold p61 at he
 split at he
 ·simp only [Option.some.injEq,Prod.mk.injEq] at he
  obtain ⟨rfl,h⟩:=he
  exact Ac Cm AB (akq _ h) rfl rfl
 ·cases he
theorem ai9 (s:List UInt8) (h:isLen s 32=true):(Au Tryz.prog cs0 (mask 32) 100 32 [.str s] [] Tryz.prog.globals.size).map (·.1)=some (.str (Bp s)):=by
 obtain ⟨a0,a1,a2,a3,a4,a5,a6,a7,a8,a9,a10,a11,a12,a13,a14,a15,a16,a17,a18,a19,a20,a21,a22,a23,a24,a25,a26,a27,a28,a29,a30,a31,rfl⟩:=L2 (BK.1 h)
 exact afP a0 a1 a2 a3 a4 a5 a6 a7 a8 a9 a10 a11 a12 a13 a14 a15 a16 a17 a18 a19 a20 a21 a22 a23 a24 a25 a26 a27 a28 a29 a30 a31
def p32:List AVal→Option (EffA × Bool)
 | [.str s]=>some (.pure (.str (Bp s)),isLen s 32)
 | _=>none
theorem Yh:Ai Tryz.prog (csP (Al 32 p32)):=AT fun args v he=>by
 unfold p32 at he
 split at he
 ·simp only [Option.some.injEq,Prod.mk.injEq] at he
  obtain ⟨rfl,h⟩:=he
  exact Ac Cm AB (ai9 _ h) rfl rfl
 ·cases he
structure Fm where
 add:E5→E5→E5
 sub:E5→E5→E5
 mul:E5→E5→E5
 small:UInt32→E5
 inv:E5→E5
 bytes:E5→List UInt8
 of:List UInt8→E5
 ofR:List UInt8→Int
 addN:N16→N16→N16
 subN:N16→N16→N16
 mulN:N16→N16→N16
 smallN:UInt32→N16
 invN:N16→N16
 bytesN:N16→List UInt8
 ofN:List UInt8→N16
 ok:N16→Bool
 l32:List UInt8→Bool
 clamp:List UInt8→List UInt8
def Ar:Fm:=⟨LS,K8,Di,D9,LV,D8,Dx,Pv,JQ,KK,B7,smallN,O9,bytesN,ofP,Num.okB,fun s=>isLen s 32,Bp⟩
def q87 (φ:Fm):List AVal→Option EffA
 | [.agg [.u64 a0,.u64 a1,.u64 a2,.u64 a3,.u64 a4],.agg [.u64 b0,.u64 b1,.u64 b2,.u64 b3,.u64 b4]]=>some (.pure (E5.av (φ.add (E5.mk a0 a1 a2 a3 a4) (E5.mk b0 b1 b2 b3 b4))))
 | _=>none
theorem agk:Ai Tryz.prog (Ag 87 (q87 Ar)):=Ak fun args e he=>by
 unfold q87 at he
 split at he
 ·rename_i a0 a1 a2 a3 a4 b0 b1 b2 b3 b4
  cases he
  exact RC 87 [(E5.av (E5.mk a0 a1 a2 a3 a4)),(E5.av (E5.mk b0 b1 b2 b3 b4))] _ rfl
 ·cases he
def q35 (φ:Fm):List AVal→Option (EffA × Bool)
 | [.agg [.u64 a0,.u64 a1,.u64 a2,.u64 a3,.u64 a4,.u64 a5,.u64 a6,.u64 a7,.u64 a8,.u64 a9,.u64 a10,.u64 a11,.u64 a12,.u64 a13,.u64 a14,.u64 a15],.agg [.u64 b0,.u64 b1,.u64 b2,.u64 b3,.u64 b4,.u64 b5,.u64 b6,.u64 b7,.u64 b8,.u64 b9,.u64 b10,.u64 b11,.u64 b12,.u64 b13,.u64 b14,.u64 b15]]=>some (.pure (N16.av (φ.addN (N16.mk a0 a1 a2 a3 a4 a5 a6 a7 a8 a9 a10 a11 a12 a13 a14 a15) (N16.mk b0 b1 b2 b3 b4 b5 b6 b7 b8 b9 b10 b11 b12 b13 b14 b15))),(φ.ok (N16.mk a0 a1 a2 a3 a4 a5 a6 a7 a8 a9 a10 a11 a12 a13 a14 a15) && φ.ok (N16.mk b0 b1 b2 b3 b4 b5 b6 b7 b8 b9 b10 b11 b12 b13 b14 b15)))
 | _=>none
theorem ac5:Ai Tryz.prog (csP (Al 35 (q35 Ar))):=AT fun args v he=>by
 unfold q35 at he
 split at he
 ·rename_i a0 a1 a2 a3 a4 a5 a6 a7 a8 a9 a10 a11 a12 a13 a14 a15 b0 b1 b2 b3 b4 b5 b6 b7 b8 b9 b10 b11 b12 b13 b14 b15
  simp only [Option.some.injEq,Prod.mk.injEq] at he
  obtain ⟨rfl,h⟩:=he
  have h2:(Ar.ok (N16.mk a0 a1 a2 a3 a4 a5 a6 a7 a8 a9 a10 a11 a12 a13 a14 a15) && Ar.ok (N16.mk b0 b1 b2 b3 b4 b5 b6 b7 b8 b9 b10 b11 b12 b13 b14 b15))=true:=h
  refine Nm 35 [(N16.av (N16.mk a0 a1 a2 a3 a4 a5 a6 a7 a8 a9 a10 a11 a12 a13 a14 a15)),(N16.av (N16.mk b0 b1 b2 b3 b4 b5 b6 b7 b8 b9 b10 b11 b12 b13 b14 b15))] _ ?_
  show cond ((Ar.ok (N16.mk a0 a1 a2 a3 a4 a5 a6 a7 a8 a9 a10 a11 a12 a13 a14 a15) && Ar.ok (N16.mk b0 b1 b2 b3 b4 b5 b6 b7 b8 b9 b10 b11 b12 b13 b14 b15))) _ _=_
  rw [h2]; rfl
 ·cases he
def q88 (φ:Fm):List AVal→Option EffA
 | [.agg [.u64 a0,.u64 a1,.u64 a2,.u64 a3,.u64 a4],.agg [.u64 b0,.u64 b1,.u64 b2,.u64 b3,.u64 b4]]=>some (.pure (E5.av (φ.sub (E5.mk a0 a1 a2 a3 a4) (E5.mk b0 b1 b2 b3 b4))))
 | _=>none
theorem afl:Ai Tryz.prog (Ag 88 (q88 Ar)):=Ak fun args e he=>by
 unfold q88 at he
 split at he
 ·rename_i a0 a1 a2 a3 a4 b0 b1 b2 b3 b4
  cases he
  exact QG 88 [(E5.av (E5.mk a0 a1 a2 a3 a4)),(E5.av (E5.mk b0 b1 b2 b3 b4))] _ rfl
 ·cases he
def q37 (φ:Fm):List AVal→Option (EffA × Bool)
 | [.agg [.u64 a0,.u64 a1,.u64 a2,.u64 a3,.u64 a4,.u64 a5,.u64 a6,.u64 a7,.u64 a8,.u64 a9,.u64 a10,.u64 a11,.u64 a12,.u64 a13,.u64 a14,.u64 a15],.agg [.u64 b0,.u64 b1,.u64 b2,.u64 b3,.u64 b4,.u64 b5,.u64 b6,.u64 b7,.u64 b8,.u64 b9,.u64 b10,.u64 b11,.u64 b12,.u64 b13,.u64 b14,.u64 b15]]=>some (.pure (N16.av (φ.subN (N16.mk a0 a1 a2 a3 a4 a5 a6 a7 a8 a9 a10 a11 a12 a13 a14 a15) (N16.mk b0 b1 b2 b3 b4 b5 b6 b7 b8 b9 b10 b11 b12 b13 b14 b15))),(φ.ok (N16.mk a0 a1 a2 a3 a4 a5 a6 a7 a8 a9 a10 a11 a12 a13 a14 a15) && φ.ok (N16.mk b0 b1 b2 b3 b4 b5 b6 b7 b8 b9 b10 b11 b12 b13 b14 b15)))
 | _=>none
theorem afe:Ai Tryz.prog (csP (Al 37 (q37 Ar))):=AT fun args v he=>by
 unfold q37 at he
 split at he
 ·rename_i a0 a1 a2 a3 a4 a5 a6 a7 a8 a9 a10 a11 a12 a13 a14 a15 b0 b1 b2 b3 b4 b5 b6 b7 b8 b9 b10 b11 b12 b13 b14 b15
  simp only [Option.some.injEq,Prod.mk.injEq] at he
  obtain ⟨rfl,h⟩:=he
  have h2:(Ar.ok (N16.mk a0 a1 a2 a3 a4 a5 a6 a7 a8 a9 a10 a11 a12 a13 a14 a15) && Ar.ok (N16.mk b0 b1 b2 b3 b4 b5 b6 b7 b8 b9 b10 b11 b12 b13 b14 b15))=true:=h
  refine Si 37 [(N16.av (N16.mk a0 a1 a2 a3 a4 a5 a6 a7 a8 a9 a10 a11 a12 a13 a14 a15)),(N16.av (N16.mk b0 b1 b2 b3 b4 b5 b6 b7 b8 b9 b10 b11 b12 b13 b14 b15))] _ ?_
  show cond ((Ar.ok (N16.mk a0 a1 a2 a3 a4 a5 a6 a7 a8 a9 a10 a11 a12 a13 a14 a15) && Ar.ok (N16.mk b0 b1 b2 b3 b4 b5 b6 b7 b8 b9 b10 b11 b12 b13 b14 b15))) _ _=_
  rw [h2]; rfl
 ·cases he
def q65 (φ:Fm):List AVal→Option EffA
 | [.agg [.u64 a0,.u64 a1,.u64 a2,.u64 a3,.u64 a4],.agg [.u64 b0,.u64 b1,.u64 b2,.u64 b3,.u64 b4]]=>some (.pure (E5.av (φ.mul (E5.mk a0 a1 a2 a3 a4) (E5.mk b0 b1 b2 b3 b4))))
 | _=>none
theorem afq:Ai Tryz.prog (Ag 65 (q65 Ar)):=Ak fun args e he=>by
 unfold q65 at he
 split at he
 ·rename_i a0 a1 a2 a3 a4 b0 b1 b2 b3 b4
  cases he
  exact RT 65 [(E5.av (E5.mk a0 a1 a2 a3 a4)),(E5.av (E5.mk b0 b1 b2 b3 b4))] _ rfl
 ·cases he
def q36 (φ:Fm):List AVal→Option (EffA × Bool)
 | [.agg [.u64 a0,.u64 a1,.u64 a2,.u64 a3,.u64 a4,.u64 a5,.u64 a6,.u64 a7,.u64 a8,.u64 a9,.u64 a10,.u64 a11,.u64 a12,.u64 a13,.u64 a14,.u64 a15],.agg [.u64 b0,.u64 b1,.u64 b2,.u64 b3,.u64 b4,.u64 b5,.u64 b6,.u64 b7,.u64 b8,.u64 b9,.u64 b10,.u64 b11,.u64 b12,.u64 b13,.u64 b14,.u64 b15]]=>some (.pure (N16.av (φ.mulN (N16.mk a0 a1 a2 a3 a4 a5 a6 a7 a8 a9 a10 a11 a12 a13 a14 a15) (N16.mk b0 b1 b2 b3 b4 b5 b6 b7 b8 b9 b10 b11 b12 b13 b14 b15))),(φ.ok (N16.mk a0 a1 a2 a3 a4 a5 a6 a7 a8 a9 a10 a11 a12 a13 a14 a15) && φ.ok (N16.mk b0 b1 b2 b3 b4 b5 b6 b7 b8 b9 b10 b11 b12 b13 b14 b15)))
 | _=>none
theorem ahh:Ai Tryz.prog (csP (Al 36 (q36 Ar))):=AT fun args v he=>by
 unfold q36 at he
 split at he
 ·rename_i a0 a1 a2 a3 a4 a5 a6 a7 a8 a9 a10 a11 a12 a13 a14 a15 b0 b1 b2 b3 b4 b5 b6 b7 b8 b9 b10 b11 b12 b13 b14 b15
  simp only [Option.some.injEq,Prod.mk.injEq] at he
  obtain ⟨rfl,h⟩:=he
  have h2:(Ar.ok (N16.mk a0 a1 a2 a3 a4 a5 a6 a7 a8 a9 a10 a11 a12 a13 a14 a15) && Ar.ok (N16.mk b0 b1 b2 b3 b4 b5 b6 b7 b8 b9 b10 b11 b12 b13 b14 b15))=true:=h
  refine NH 36 [(N16.av (N16.mk a0 a1 a2 a3 a4 a5 a6 a7 a8 a9 a10 a11 a12 a13 a14 a15)),(N16.av (N16.mk b0 b1 b2 b3 b4 b5 b6 b7 b8 b9 b10 b11 b12 b13 b14 b15))] _ ?_
  show cond ((Ar.ok (N16.mk a0 a1 a2 a3 a4 a5 a6 a7 a8 a9 a10 a11 a12 a13 a14 a15) && Ar.ok (N16.mk b0 b1 b2 b3 b4 b5 b6 b7 b8 b9 b10 b11 b12 b13 b14 b15))) _ _=_
  rw [h2]; rfl
 ·cases he
def q63 (φ:Fm):List AVal→Option EffA
 | [.u32 a]=>some (.pure (E5.av (φ.small a)))
 | _=>none
theorem adZ:Ai Tryz.prog (Ag 63 (q63 Ar)):=Ak fun args e he=>by
 unfold q63 at he
 split at he
 ·rename_i a
  cases he
  exact QK 63 [(.u32 a)] _ rfl
 ·cases he
def q66 (φ:Fm):List AVal→Option EffA
 | [.agg [.u64 a0,.u64 a1,.u64 a2,.u64 a3,.u64 a4]]=>some (.pure (E5.av (φ.inv (E5.mk a0 a1 a2 a3 a4))))
 | _=>none
theorem ag1:Ai Tryz.prog (Ag 66 (q66 Ar)):=Ak fun args e he=>by
 unfold q66 at he
 split at he
 ·rename_i a0 a1 a2 a3 a4
  cases he
  exact X0 66 [(E5.av (E5.mk a0 a1 a2 a3 a4))] _ rfl
 ·cases he
def q67 (φ:Fm):List AVal→Option EffA
 | [.agg [.u64 a0,.u64 a1,.u64 a2,.u64 a3,.u64 a4]]=>some (.pure (.str (φ.bytes (E5.mk a0 a1 a2 a3 a4))))
 | _=>none
theorem agF:Ai Tryz.prog (Ag 67 (q67 Ar)):=Ak fun args e he=>by
 unfold q67 at he
 split at he
 ·rename_i a0 a1 a2 a3 a4
  cases he
  exact Sn 67 [(E5.av (E5.mk a0 a1 a2 a3 a4))] _ rfl
 ·cases he
def q62 (φ:Fm):List AVal→Option EffA
 | [.str a]=>some (.pure (.tup [(E5.av (φ.of a)),.int .i64 (φ.ofR a)]))
 | _=>none
theorem afc:Ai Tryz.prog (Ag 62 (q62 Ar)):=Ak fun args e he=>by
 unfold q62 at he
 split at he
 ·rename_i a
  cases he
  exact QI 62 [(.str a)] _ rfl
 ·cases he
def q34 (φ:Fm):List AVal→Option EffA
 | [.u32 a]=>some (.pure (N16.av (φ.smallN a)))
 | _=>none
theorem afJ:Ai Tryz.prog (Ag 34 (q34 Ar)):=Ak fun args e he=>by
 unfold q34 at he
 split at he
 ·rename_i a
  cases he
  exact R1 34 [(.u32 a)] _ rfl
 ·cases he
def q38 (φ:Fm):List AVal→Option (EffA × Bool)
 | [.agg [.u64 a0,.u64 a1,.u64 a2,.u64 a3,.u64 a4,.u64 a5,.u64 a6,.u64 a7,.u64 a8,.u64 a9,.u64 a10,.u64 a11,.u64 a12,.u64 a13,.u64 a14,.u64 a15]]=>some (.pure (N16.av (φ.invN (N16.mk a0 a1 a2 a3 a4 a5 a6 a7 a8 a9 a10 a11 a12 a13 a14 a15))),φ.ok (N16.mk a0 a1 a2 a3 a4 a5 a6 a7 a8 a9 a10 a11 a12 a13 a14 a15))
 | _=>none
theorem ad5:Ai Tryz.prog (csP (Al 38 (q38 Ar))):=AT fun args v he=>by
 unfold q38 at he
 split at he
 ·rename_i a0 a1 a2 a3 a4 a5 a6 a7 a8 a9 a10 a11 a12 a13 a14 a15
  simp only [Option.some.injEq,Prod.mk.injEq] at he
  obtain ⟨rfl,h⟩:=he
  have h2:Ar.ok (N16.mk a0 a1 a2 a3 a4 a5 a6 a7 a8 a9 a10 a11 a12 a13 a14 a15)=true:=h
  refine YE 38 [(N16.av (N16.mk a0 a1 a2 a3 a4 a5 a6 a7 a8 a9 a10 a11 a12 a13 a14 a15))] _ ?_
  show cond (Ar.ok (N16.mk a0 a1 a2 a3 a4 a5 a6 a7 a8 a9 a10 a11 a12 a13 a14 a15)) _ _=_
  rw [h2]; rfl
 ·cases he
def q39 (φ:Fm):List AVal→Option EffA
 | [.agg [.u64 a0,.u64 a1,.u64 a2,.u64 a3,.u64 a4,.u64 a5,.u64 a6,.u64 a7,.u64 a8,.u64 a9,.u64 a10,.u64 a11,.u64 a12,.u64 a13,.u64 a14,.u64 a15]]=>some (.pure (.str (φ.bytesN (N16.mk a0 a1 a2 a3 a4 a5 a6 a7 a8 a9 a10 a11 a12 a13 a14 a15))))
 | _=>none
theorem afs:Ai Tryz.prog (Ag 39 (q39 Ar)):=Ak fun args e he=>by
 unfold q39 at he
 split at he
 ·rename_i a0 a1 a2 a3 a4 a5 a6 a7 a8 a9 a10 a11 a12 a13 a14 a15
  cases he
  exact QQ 39 [(N16.av (N16.mk a0 a1 a2 a3 a4 a5 a6 a7 a8 a9 a10 a11 a12 a13 a14 a15))] _ rfl
 ·cases he
def q33 (φ:Fm):List AVal→Option (EffA × Bool)
 | [.str a]=>some (.pure (N16.av (φ.ofN a)),φ.l32 a)
 | _=>none
theorem agA:Ai Tryz.prog (csP (Al 33 (q33 Ar))):=AT fun args v he=>by
 unfold q33 at he
 split at he
 ·rename_i a
  simp only [Option.some.injEq,Prod.mk.injEq] at he
  obtain ⟨rfl,h⟩:=he
  have h2:Ar.l32 a=true:=h
  refine Ni 33 [(.str a)] _ ?_
  show cond (Ar.l32 a) _ _=_
  rw [h2]; rfl
 ·cases he
def q61 (φ:Fm):List AVal→Option (EffA × Bool)
 | [.str a]=>some (.pure (.tup [.str (φ.clamp a),.int .i64 0]),φ.l32 a)
 | _=>none
theorem afo:Ai Tryz.prog (csP (Al 61 (q61 Ar))):=AT fun args v he=>by
 unfold q61 at he
 split at he
 ·rename_i a
  simp only [Option.some.injEq,Prod.mk.injEq] at he
  obtain ⟨rfl,h⟩:=he
  have h2:Ar.l32 a=true:=h
  refine Wx 61 [(.str a)] _ ?_
  show cond (Ar.l32 a) _ _=_
  rw [h2]; rfl
 ·cases he
def q32 (φ:Fm):List AVal→Option (EffA × Bool)
 | [.str a]=>some (.pure (.str (φ.clamp a)),φ.l32 a)
 | _=>none
theorem afO:Ai Tryz.prog (csP (Al 32 (q32 Ar))):=AT fun args v he=>by
 unfold q32 at he
 split at he
 ·rename_i a
  simp only [Option.some.injEq,Prod.mk.injEq] at he
  obtain ⟨rfl,h⟩:=he
  have h2:Ar.l32 a=true:=h
  refine Yh 32 [(.str a)] _ ?_
  show cond (Ar.l32 a) _ _=_
  rw [h2]; rfl
 ·cases he
def akx (φ:Fm):PS:=(Bi (Al 35 (q35 φ)) (Bi (Al 37 (q37 φ)) (Bi (Al 36 (q36 φ)) (Bi (Al 38 (q38 φ)) (Bi (Al 33 (q33 φ)) (Bi (Al 61 (q61 φ)) (Al 32 (q32 φ))))))))
theorem abf:Ai Tryz.prog (csP (akx Ar)):=(AN ac5 (AN afe (AN ahh (AN ad5 (AN agA (AN afo afO))))))
def aib (φ:Fm):CS:=(At (Ag 87 (q87 φ)) (At (Ag 88 (q88 φ)) (At (Ag 65 (q65 φ)) (At (Ag 63 (q63 φ)) (At (Ag 66 (q66 φ)) (At (Ag 67 (q67 φ)) (At (Ag 62 (q62 φ)) (At (Ag 34 (q34 φ)) (Ag 39 (q39 φ))))))))))
theorem abu:Ai Tryz.prog (aib Ar):=(Af agk (Af afl (Af afq (Af adZ (Af ag1 (Af agF (Af afc (Af afJ afs))))))))
def nm (φ:Fm):CS:=At (csP (akx φ)) (aib φ)
theorem W6:Ai Tryz.prog (nm Ar):=Af abf abu
def acJ (φ:Fm):Ops E5:=⟨φ.add,φ.sub,φ.mul,φ.small,EC⟩
theorem ad9 (φ:Fm) (p q:P2 E5) (u:E5):(Au Tryz.prog (nm φ) (mask 64) 100 64 [HI p,HI q,u.av] [] Tryz.prog.globals.size).map (·.1)=some (.tup [HI (DJ (acJ φ) p q u).1,HI (DJ (acJ φ) p q u).2]):=by kernel_rfl
theorem akc (p q:P2 E5) (u:E5):(Au Tryz.prog (nm Ar) (mask 64) 100 64 [HI p,HI q,u.av] [] Tryz.prog.globals.size).map (·.1)=some (.tup [HI (DJ Hz p q u).1,HI (DJ Hz p q u).2]):=ad9 Ar p q u
def g64:List AVal→Option EffA
 | [.agg [.u64 a0,.u64 a1,.u64 a2,.u64 a3,.u64 a4,.u64 a5,.u64 a6,.u64 a7,.u64 a8,.u64 a9],.agg [.u64 b0,.u64 b1,.u64 b2,.u64 b3,.u64 b4,.u64 b5,.u64 b6,.u64 b7,.u64 b8,.u64 b9],.agg [.u64 c0,.u64 c1,.u64 c2,.u64 c3,.u64 c4]]=>some (.pure (.tup [HI (DJ Hz (P2.mk (E5.mk a0 a1 a2 a3 a4) (E5.mk a5 a6 a7 a8 a9)) (P2.mk (E5.mk b0 b1 b2 b3 b4) (E5.mk b5 b6 b7 b8 b9)) (E5.mk c0 c1 c2 c3 c4)).1,HI (DJ Hz (P2.mk (E5.mk a0 a1 a2 a3 a4) (E5.mk a5 a6 a7 a8 a9)) (P2.mk (E5.mk b0 b1 b2 b3 b4) (E5.mk b5 b6 b7 b8 b9)) (E5.mk c0 c1 c2 c3 c4)).2]))
 | _=>none
theorem afC:Ai Tryz.prog (Ag 64 g64):=Ak fun args e he=>by
 unfold g64 at he
 split at he
 ·rename_i a0 a1 a2 a3 a4 a5 a6 a7 a8 a9 b0 b1 b2 b3 b4 b5 b6 b7 b8 b9 c0 c1 c2 c3 c4
  cases he
  exact Ac W6 AB (akc (P2.mk (E5.mk a0 a1 a2 a3 a4) (E5.mk a5 a6 a7 a8 a9)) (P2.mk (E5.mk b0 b1 b2 b3 b4) (E5.mk b5 b6 b7 b8 b9)) (E5.mk c0 c1 c2 c3 c4)) rfl rfl
 ·cases he
end Go.Proofs.YtcplgmgpagekfaaGreatDoor
namespace Go.Proofs.YtcplgmgpagekfaaGreatDoor
open Go Go.Eng Go.Num
structure Fl where
 add:E5→E5→E5
 sub:E5→E5→E5
 mul:E5→E5→E5
 small:UInt32→E5
 inv:E5→E5
 bytes:E5→List UInt8
 of:List UInt8→E5
 ofR:List UInt8→Int
 addN:N16→N16→N16
 subN:N16→N16→N16
 mulN:N16→N16→N16
 smallN:UInt32→N16
 invN:N16→N16
 bytesN:N16→List UInt8
 ofN:List UInt8→N16
 ok:N16→Bool
 l32:List UInt8→Bool
 clamp:List UInt8→List UInt8
 st1:P2 E5→P2 E5→E5→P2 E5
 st2:P2 E5→P2 E5→E5→P2 E5
def Av:Fl:=⟨LS,K8,Di,D9,LV,D8,Dx,Pv,JQ,KK,B7,smallN,O9,bytesN,ofP,Num.okB,fun s=>isLen s 32,Bp,fun p q u=>(DJ Hz p q u).1,fun p q u=>(DJ Hz p q u).2⟩
def l87 (φ:Fl):List AVal→Option EffA
 | [.agg [.u64 a0,.u64 a1,.u64 a2,.u64 a3,.u64 a4],.agg [.u64 b0,.u64 b1,.u64 b2,.u64 b3,.u64 b4]]=>some (.pure (E5.av (φ.add (E5.mk a0 a1 a2 a3 a4) (E5.mk b0 b1 b2 b3 b4))))
 | _=>none
theorem agu:Ai Tryz.prog (Ag 87 (l87 Av)):=Ak fun args e he=>by
 unfold l87 at he
 split at he
 ·rename_i a0 a1 a2 a3 a4 b0 b1 b2 b3 b4
  cases he
  exact RC 87 [(E5.av (E5.mk a0 a1 a2 a3 a4)),(E5.av (E5.mk b0 b1 b2 b3 b4))] _ rfl
 ·cases he
def l35 (φ:Fl):List AVal→Option (EffA × Bool)
 | [.agg [.u64 a0,.u64 a1,.u64 a2,.u64 a3,.u64 a4,.u64 a5,.u64 a6,.u64 a7,.u64 a8,.u64 a9,.u64 a10,.u64 a11,.u64 a12,.u64 a13,.u64 a14,.u64 a15],.agg [.u64 b0,.u64 b1,.u64 b2,.u64 b3,.u64 b4,.u64 b5,.u64 b6,.u64 b7,.u64 b8,.u64 b9,.u64 b10,.u64 b11,.u64 b12,.u64 b13,.u64 b14,.u64 b15]]=>some (.pure (N16.av (φ.addN (N16.mk a0 a1 a2 a3 a4 a5 a6 a7 a8 a9 a10 a11 a12 a13 a14 a15) (N16.mk b0 b1 b2 b3 b4 b5 b6 b7 b8 b9 b10 b11 b12 b13 b14 b15))),(φ.ok (N16.mk a0 a1 a2 a3 a4 a5 a6 a7 a8 a9 a10 a11 a12 a13 a14 a15) && φ.ok (N16.mk b0 b1 b2 b3 b4 b5 b6 b7 b8 b9 b10 b11 b12 b13 b14 b15)))
 | _=>none
theorem ag4:Ai Tryz.prog (csP (Al 35 (l35 Av))):=AT fun args v he=>by
 unfold l35 at he
 split at he
 ·rename_i a0 a1 a2 a3 a4 a5 a6 a7 a8 a9 a10 a11 a12 a13 a14 a15 b0 b1 b2 b3 b4 b5 b6 b7 b8 b9 b10 b11 b12 b13 b14 b15
  simp only [Option.some.injEq,Prod.mk.injEq] at he
  obtain ⟨rfl,h⟩:=he
  have h2:(Av.ok (N16.mk a0 a1 a2 a3 a4 a5 a6 a7 a8 a9 a10 a11 a12 a13 a14 a15) && Av.ok (N16.mk b0 b1 b2 b3 b4 b5 b6 b7 b8 b9 b10 b11 b12 b13 b14 b15))=true:=h
  refine Nm 35 [(N16.av (N16.mk a0 a1 a2 a3 a4 a5 a6 a7 a8 a9 a10 a11 a12 a13 a14 a15)),(N16.av (N16.mk b0 b1 b2 b3 b4 b5 b6 b7 b8 b9 b10 b11 b12 b13 b14 b15))] _ ?_
  show cond ((Av.ok (N16.mk a0 a1 a2 a3 a4 a5 a6 a7 a8 a9 a10 a11 a12 a13 a14 a15) && Av.ok (N16.mk b0 b1 b2 b3 b4 b5 b6 b7 b8 b9 b10 b11 b12 b13 b14 b15))) _ _=_
  rw [h2]; rfl
 ·cases he
def l88 (φ:Fl):List AVal→Option EffA
 | [.agg [.u64 a0,.u64 a1,.u64 a2,.u64 a3,.u64 a4],.agg [.u64 b0,.u64 b1,.u64 b2,.u64 b3,.u64 b4]]=>some (.pure (E5.av (φ.sub (E5.mk a0 a1 a2 a3 a4) (E5.mk b0 b1 b2 b3 b4))))
 | _=>none
theorem afy:Ai Tryz.prog (Ag 88 (l88 Av)):=Ak fun args e he=>by
 unfold l88 at he
 split at he
 ·rename_i a0 a1 a2 a3 a4 b0 b1 b2 b3 b4
  cases he
  exact QG 88 [(E5.av (E5.mk a0 a1 a2 a3 a4)),(E5.av (E5.mk b0 b1 b2 b3 b4))] _ rfl
 ·cases he
def l37 (φ:Fl):List AVal→Option (EffA × Bool)
 | [.agg [.u64 a0,.u64 a1,.u64 a2,.u64 a3,.u64 a4,.u64 a5,.u64 a6,.u64 a7,.u64 a8,.u64 a9,.u64 a10,.u64 a11,.u64 a12,.u64 a13,.u64 a14,.u64 a15],.agg [.u64 b0,.u64 b1,.u64 b2,.u64 b3,.u64 b4,.u64 b5,.u64 b6,.u64 b7,.u64 b8,.u64 b9,.u64 b10,.u64 b11,.u64 b12,.u64 b13,.u64 b14,.u64 b15]]=>some (.pure (N16.av (φ.subN (N16.mk a0 a1 a2 a3 a4 a5 a6 a7 a8 a9 a10 a11 a12 a13 a14 a15) (N16.mk b0 b1 b2 b3 b4 b5 b6 b7 b8 b9 b10 b11 b12 b13 b14 b15))),(φ.ok (N16.mk a0 a1 a2 a3 a4 a5 a6 a7 a8 a9 a10 a11 a12 a13 a14 a15) && φ.ok (N16.mk b0 b1 b2 b3 b4 b5 b6 b7 b8 b9 b10 b11 b12 b13 b14 b15)))
 | _=>none
theorem af4:Ai Tryz.prog (csP (Al 37 (l37 Av))):=AT fun args v he=>by
 unfold l37 at he
 split at he
 ·rename_i a0 a1 a2 a3 a4 a5 a6 a7 a8 a9 a10 a11 a12 a13 a14 a15 b0 b1 b2 b3 b4 b5 b6 b7 b8 b9 b10 b11 b12 b13 b14 b15
  simp only [Option.some.injEq,Prod.mk.injEq] at he
  obtain ⟨rfl,h⟩:=he
  have h2:(Av.ok (N16.mk a0 a1 a2 a3 a4 a5 a6 a7 a8 a9 a10 a11 a12 a13 a14 a15) && Av.ok (N16.mk b0 b1 b2 b3 b4 b5 b6 b7 b8 b9 b10 b11 b12 b13 b14 b15))=true:=h
  refine Si 37 [(N16.av (N16.mk a0 a1 a2 a3 a4 a5 a6 a7 a8 a9 a10 a11 a12 a13 a14 a15)),(N16.av (N16.mk b0 b1 b2 b3 b4 b5 b6 b7 b8 b9 b10 b11 b12 b13 b14 b15))] _ ?_
  show cond ((Av.ok (N16.mk a0 a1 a2 a3 a4 a5 a6 a7 a8 a9 a10 a11 a12 a13 a14 a15) && Av.ok (N16.mk b0 b1 b2 b3 b4 b5 b6 b7 b8 b9 b10 b11 b12 b13 b14 b15))) _ _=_
  rw [h2]; rfl
 ·cases he
def l65 (φ:Fl):List AVal→Option EffA
 | [.agg [.u64 a0,.u64 a1,.u64 a2,.u64 a3,.u64 a4],.agg [.u64 b0,.u64 b1,.u64 b2,.u64 b3,.u64 b4]]=>some (.pure (E5.av (φ.mul (E5.mk a0 a1 a2 a3 a4) (E5.mk b0 b1 b2 b3 b4))))
 | _=>none
theorem af8:Ai Tryz.prog (Ag 65 (l65 Av)):=Ak fun args e he=>by
 unfold l65 at he
 split at he
 ·rename_i a0 a1 a2 a3 a4 b0 b1 b2 b3 b4
  cases he
  exact RT 65 [(E5.av (E5.mk a0 a1 a2 a3 a4)),(E5.av (E5.mk b0 b1 b2 b3 b4))] _ rfl
 ·cases he
def l36 (φ:Fl):List AVal→Option (EffA × Bool)
 | [.agg [.u64 a0,.u64 a1,.u64 a2,.u64 a3,.u64 a4,.u64 a5,.u64 a6,.u64 a7,.u64 a8,.u64 a9,.u64 a10,.u64 a11,.u64 a12,.u64 a13,.u64 a14,.u64 a15],.agg [.u64 b0,.u64 b1,.u64 b2,.u64 b3,.u64 b4,.u64 b5,.u64 b6,.u64 b7,.u64 b8,.u64 b9,.u64 b10,.u64 b11,.u64 b12,.u64 b13,.u64 b14,.u64 b15]]=>some (.pure (N16.av (φ.mulN (N16.mk a0 a1 a2 a3 a4 a5 a6 a7 a8 a9 a10 a11 a12 a13 a14 a15) (N16.mk b0 b1 b2 b3 b4 b5 b6 b7 b8 b9 b10 b11 b12 b13 b14 b15))),(φ.ok (N16.mk a0 a1 a2 a3 a4 a5 a6 a7 a8 a9 a10 a11 a12 a13 a14 a15) && φ.ok (N16.mk b0 b1 b2 b3 b4 b5 b6 b7 b8 b9 b10 b11 b12 b13 b14 b15)))
 | _=>none
theorem adI:Ai Tryz.prog (csP (Al 36 (l36 Av))):=AT fun args v he=>by
 unfold l36 at he
 split at he
 ·rename_i a0 a1 a2 a3 a4 a5 a6 a7 a8 a9 a10 a11 a12 a13 a14 a15 b0 b1 b2 b3 b4 b5 b6 b7 b8 b9 b10 b11 b12 b13 b14 b15
  simp only [Option.some.injEq,Prod.mk.injEq] at he
  obtain ⟨rfl,h⟩:=he
  have h2:(Av.ok (N16.mk a0 a1 a2 a3 a4 a5 a6 a7 a8 a9 a10 a11 a12 a13 a14 a15) && Av.ok (N16.mk b0 b1 b2 b3 b4 b5 b6 b7 b8 b9 b10 b11 b12 b13 b14 b15))=true:=h
  refine NH 36 [(N16.av (N16.mk a0 a1 a2 a3 a4 a5 a6 a7 a8 a9 a10 a11 a12 a13 a14 a15)),(N16.av (N16.mk b0 b1 b2 b3 b4 b5 b6 b7 b8 b9 b10 b11 b12 b13 b14 b15))] _ ?_
  show cond ((Av.ok (N16.mk a0 a1 a2 a3 a4 a5 a6 a7 a8 a9 a10 a11 a12 a13 a14 a15) && Av.ok (N16.mk b0 b1 b2 b3 b4 b5 b6 b7 b8 b9 b10 b11 b12 b13 b14 b15))) _ _=_
  rw [h2]; rfl
 ·cases he
def l63 (φ:Fl):List AVal→Option EffA
 | [.u32 a]=>some (.pure (E5.av (φ.small a)))
 | _=>none
theorem ac7:Ai Tryz.prog (Ag 63 (l63 Av)):=Ak fun args e he=>by
 unfold l63 at he
 split at he
 ·rename_i a
  cases he
  exact QK 63 [(.u32 a)] _ rfl
 ·cases he
def l66 (φ:Fl):List AVal→Option EffA
 | [.agg [.u64 a0,.u64 a1,.u64 a2,.u64 a3,.u64 a4]]=>some (.pure (E5.av (φ.inv (E5.mk a0 a1 a2 a3 a4))))
 | _=>none
theorem agX:Ai Tryz.prog (Ag 66 (l66 Av)):=Ak fun args e he=>by
 unfold l66 at he
 split at he
 ·rename_i a0 a1 a2 a3 a4
  cases he
  exact X0 66 [(E5.av (E5.mk a0 a1 a2 a3 a4))] _ rfl
 ·cases he
def l67 (φ:Fl):List AVal→Option EffA
 | [.agg [.u64 a0,.u64 a1,.u64 a2,.u64 a3,.u64 a4]]=>some (.pure (.str (φ.bytes (E5.mk a0 a1 a2 a3 a4))))
 | _=>none
theorem adn:Ai Tryz.prog (Ag 67 (l67 Av)):=Ak fun args e he=>by
 unfold l67 at he
 split at he
 ·rename_i a0 a1 a2 a3 a4
  cases he
  exact Sn 67 [(E5.av (E5.mk a0 a1 a2 a3 a4))] _ rfl
 ·cases he
def l62 (φ:Fl):List AVal→Option EffA
 | [.str a]=>some (.pure (.tup [(E5.av (φ.of a)),.int .i64 (φ.ofR a)]))
 | _=>none
theorem afB:Ai Tryz.prog (Ag 62 (l62 Av)):=Ak fun args e he=>by
 unfold l62 at he
 split at he
 ·rename_i a
  cases he
  exact QI 62 [(.str a)] _ rfl
 ·cases he
def l34 (φ:Fl):List AVal→Option EffA
 | [.u32 a]=>some (.pure (N16.av (φ.smallN a)))
 | _=>none
theorem adv:Ai Tryz.prog (Ag 34 (l34 Av)):=Ak fun args e he=>by
 unfold l34 at he
 split at he
 ·rename_i a
  cases he
  exact R1 34 [(.u32 a)] _ rfl
 ·cases he
def l38 (φ:Fl):List AVal→Option (EffA × Bool)
 | [.agg [.u64 a0,.u64 a1,.u64 a2,.u64 a3,.u64 a4,.u64 a5,.u64 a6,.u64 a7,.u64 a8,.u64 a9,.u64 a10,.u64 a11,.u64 a12,.u64 a13,.u64 a14,.u64 a15]]=>some (.pure (N16.av (φ.invN (N16.mk a0 a1 a2 a3 a4 a5 a6 a7 a8 a9 a10 a11 a12 a13 a14 a15))),φ.ok (N16.mk a0 a1 a2 a3 a4 a5 a6 a7 a8 a9 a10 a11 a12 a13 a14 a15))
 | _=>none
theorem afL:Ai Tryz.prog (csP (Al 38 (l38 Av))):=AT fun args v he=>by
 unfold l38 at he
 split at he
 ·rename_i a0 a1 a2 a3 a4 a5 a6 a7 a8 a9 a10 a11 a12 a13 a14 a15
  simp only [Option.some.injEq,Prod.mk.injEq] at he
  obtain ⟨rfl,h⟩:=he
  have h2:Av.ok (N16.mk a0 a1 a2 a3 a4 a5 a6 a7 a8 a9 a10 a11 a12 a13 a14 a15)=true:=h
  refine YE 38 [(N16.av (N16.mk a0 a1 a2 a3 a4 a5 a6 a7 a8 a9 a10 a11 a12 a13 a14 a15))] _ ?_
  show cond (Av.ok (N16.mk a0 a1 a2 a3 a4 a5 a6 a7 a8 a9 a10 a11 a12 a13 a14 a15)) _ _=_
  rw [h2]; rfl
 ·cases he
def l39 (φ:Fl):List AVal→Option EffA
 | [.agg [.u64 a0,.u64 a1,.u64 a2,.u64 a3,.u64 a4,.u64 a5,.u64 a6,.u64 a7,.u64 a8,.u64 a9,.u64 a10,.u64 a11,.u64 a12,.u64 a13,.u64 a14,.u64 a15]]=>some (.pure (.str (φ.bytesN (N16.mk a0 a1 a2 a3 a4 a5 a6 a7 a8 a9 a10 a11 a12 a13 a14 a15))))
 | _=>none
theorem afZ:Ai Tryz.prog (Ag 39 (l39 Av)):=Ak fun args e he=>by
 unfold l39 at he
 split at he
 ·rename_i a0 a1 a2 a3 a4 a5 a6 a7 a8 a9 a10 a11 a12 a13 a14 a15
  cases he
  exact QQ 39 [(N16.av (N16.mk a0 a1 a2 a3 a4 a5 a6 a7 a8 a9 a10 a11 a12 a13 a14 a15))] _ rfl
 ·cases he
def l33 (φ:Fl):List AVal→Option (EffA × Bool)
 | [.str a]=>some (.pure (N16.av (φ.ofN a)),φ.l32 a)
 | _=>none
theorem aef:Ai Tryz.prog (csP (Al 33 (l33 Av))):=AT fun args v he=>by
 unfold l33 at he
 split at he
 ·rename_i a
  simp only [Option.some.injEq,Prod.mk.injEq] at he
  obtain ⟨rfl,h⟩:=he
  have h2:Av.l32 a=true:=h
  refine Ni 33 [(.str a)] _ ?_
  show cond (Av.l32 a) _ _=_
  rw [h2]; rfl
 ·cases he
def l61 (φ:Fl):List AVal→Option (EffA × Bool)
 | [.str a]=>some (.pure (.tup [.str (φ.clamp a),.int .i64 0]),φ.l32 a)
 | _=>none
theorem afN:Ai Tryz.prog (csP (Al 61 (l61 Av))):=AT fun args v he=>by
 unfold l61 at he
 split at he
 ·rename_i a
  simp only [Option.some.injEq,Prod.mk.injEq] at he
  obtain ⟨rfl,h⟩:=he
  have h2:Av.l32 a=true:=h
  refine Wx 61 [(.str a)] _ ?_
  show cond (Av.l32 a) _ _=_
  rw [h2]; rfl
 ·cases he
def l32 (φ:Fl):List AVal→Option (EffA × Bool)
 | [.str a]=>some (.pure (.str (φ.clamp a)),φ.l32 a)
 | _=>none
theorem aet:Ai Tryz.prog (csP (Al 32 (l32 Av))):=AT fun args v he=>by
 unfold l32 at he
 split at he
 ·rename_i a
  simp only [Option.some.injEq,Prod.mk.injEq] at he
  obtain ⟨rfl,h⟩:=he
  have h2:Av.l32 a=true:=h
  refine Yh 32 [(.str a)] _ ?_
  show cond (Av.l32 a) _ _=_
  rw [h2]; rfl
 ·cases he
def l64 (φ:Fl):List AVal→Option EffA
 | [.agg [.u64 a0,.u64 a1,.u64 a2,.u64 a3,.u64 a4,.u64 a5,.u64 a6,.u64 a7,.u64 a8,.u64 a9],.agg [.u64 b0,.u64 b1,.u64 b2,.u64 b3,.u64 b4,.u64 b5,.u64 b6,.u64 b7,.u64 b8,.u64 b9],.agg [.u64 c0,.u64 c1,.u64 c2,.u64 c3,.u64 c4]]=>some (.pure (.tup [HI (φ.st1 (P2.mk (E5.mk a0 a1 a2 a3 a4) (E5.mk a5 a6 a7 a8 a9)) (P2.mk (E5.mk b0 b1 b2 b3 b4) (E5.mk b5 b6 b7 b8 b9)) (E5.mk c0 c1 c2 c3 c4)),HI (φ.st2 (P2.mk (E5.mk a0 a1 a2 a3 a4) (E5.mk a5 a6 a7 a8 a9)) (P2.mk (E5.mk b0 b1 b2 b3 b4) (E5.mk b5 b6 b7 b8 b9)) (E5.mk c0 c1 c2 c3 c4))]))
 | _=>none
theorem adH:Ai Tryz.prog (Ag 64 (l64 Av)):=Ak fun args e he=>by
 unfold l64 at he
 split at he
 ·rename_i a0 a1 a2 a3 a4 a5 a6 a7 a8 a9 b0 b1 b2 b3 b4 b5 b6 b7 b8 b9 c0 c1 c2 c3 c4
  cases he
  exact afC 64 [(HI (P2.mk (E5.mk a0 a1 a2 a3 a4) (E5.mk a5 a6 a7 a8 a9))),(HI (P2.mk (E5.mk b0 b1 b2 b3 b4) (E5.mk b5 b6 b7 b8 b9))),(E5.av (E5.mk c0 c1 c2 c3 c4))] _ rfl
 ·cases he
def KZ (φ:Fl):PS:=(Bi (Al 35 (l35 φ)) (Bi (Al 37 (l37 φ)) (Bi (Al 36 (l36 φ)) (Bi (Al 38 (l38 φ)) (Bi (Al 33 (l33 φ)) (Bi (Al 61 (l61 φ)) (Al 32 (l32 φ))))))))
theorem abM:Ai Tryz.prog (csP (KZ Av)):=(AN ag4 (AN af4 (AN adI (AN afL (AN aef (AN afN aet))))))
def akM (φ:Fl):CS:=(At (Ag 87 (l87 φ)) (At (Ag 88 (l88 φ)) (At (Ag 65 (l65 φ)) (At (Ag 63 (l63 φ)) (At (Ag 66 (l66 φ)) (At (Ag 67 (l67 φ)) (At (Ag 62 (l62 φ)) (At (Ag 34 (l34 φ)) (At (Ag 39 (l39 φ)) (Ag 64 (l64 φ)))))))))))
theorem ZL:Ai Tryz.prog (akM Av):=(Af agu (Af afy (Af af8 (Af ac7 (Af agX (Af adn (Af afB (Af adv (Af afZ adH)))))))))
def nl (φ:Fl):CS:=At (csP (KZ φ)) (akM φ)
theorem Ox:Ai Tryz.prog (nl Av):=Af abM ZL
theorem H5 (φ:Fl):Bt (KZ φ) (nl φ):=A4
end Go.Proofs.YtcplgmgpagekfaaGreatDoor
namespace Go.Proofs.YtcplgmgpagekfaaGreatDoor
open Go Go.Eng Go.Num
def S14 (k u kk:List UInt8) (cb:List AVal) (x:E5) (p q:P2 E5) (i:Int):SA:=⟨[(0,.str k),(1,.str u),(4,.str []),(5,.str kk),(7,.slice 73 0 32 1),(8,.ptr 185 0),(10,.ptr 265 0),(11,.int .i64 i)],[(73,.cells false cb),(185,.cells false x.cells),(265,.cells false (JW p++JW q))],289⟩
noncomputable def aeu:List Code:=Aw (AH Tryz.f41)
noncomputable def b14:Code:=A6 (aeu.getD 7 .skip)
def S15 (k u kk:List UInt8) (cb:List AVal) (x:N16) (p q:P2 N16) (i:Int):SA:=⟨[(0,.str k),(1,.str u),(4,.str []),(5,.str kk),(6,.slice 41 0 32 1),(7,.ptr 137 0),(8,.ptr 161 0),(9,.ptr 185 0),(10,.ptr 209 0),(11,.ptr 233 0),(12,.int .i64 i)],[(41,.cells false cb),(137,.cells false x.cells),(161,.cells false p.x.cells),(185,.cells false p.z.cells),(209,.cells false q.x.cells),(233,.cells false q.z.cells)],257⟩
noncomputable def ac3:List Code:=Aw (AH Tryz.f18)
noncomputable def b15:Code:=A6 (ac3.getD 10 .skip)
end Go.Proofs.YtcplgmgpagekfaaGreatDoor
namespace Go.Proofs.YtcplgmgpagekfaaGreatDoor
open Go Go.Eng Go.Num
theorem Nj (m:Nat) (hm:m < 1000000):IntKind.wrap .i64 (Int.tdiv (m:Int) 8)=((m / 8:Nat):Int):=by
 have e1:Int.tdiv (m:Int) 8=((m / 8:Nat):Int):=by rw [Int.tdiv_eq_ediv_of_nonneg (by omega)]; rfl
 rw [e1,CK _ (by omega) (by omega)]
theorem ZE (m:Nat) (hm:m < 1000000):UInt64.toNat (UInt64.ofInt (Int.tmod (m:Int) 8))=m % 8:=by
 have e2:Int.tmod (m:Int) 8=((m % 8:Nat):Int):=by rw [Int.tmod_eq_emod_of_nonneg (by omega)]; rfl
 rw [e2,Ef,UInt64.toNat_ofNat_of_lt']
 show _ < 18446744073709551616; omega
theorem Ua (kk:List UInt8) (m:Nat) (hm:m < 1000000):shr_u8 (List.getD kk (Int.toNat (IntKind.wrap IntKind.i64 (Int.tdiv (m:Int) 8))) 0) (UInt64.toNat (UInt64.ofInt (Int.tmod (m:Int) 8))) &&& 1=QU kk m:=by
 rw [Nj m hm,ZE m hm]; rfl
theorem bitB_cases (kk:List UInt8) (m:Nat):QU kk m=0 ∨ QU kk m=1:=by
 unfold QU
 generalize shr_u8 (kk.getD (m / 8) 0) (m % 8)=x
 have h:(x &&& 1).toNat=x.toNat % 2:=by rw [UInt8.toNat_and]; exact Nat.and_one_is_mod _
 rcases Nat.mod_two_eq_zero_or_one x.toNat with e | e
 ·left; apply UInt8.toNat_inj.1; rw [h,e]; rfl
 ·right; apply UInt8.toNat_inj.1; rw [h,e]; rfl
theorem Mm {k:List UInt8}(h:isLen k 32=true):(Bp k).length=32:=by
 rw [BK] at h
 unfold Bp
 rw [List.length_set,List.length_set]; exact h
theorem ajz (φ:Fl) (k:List UInt8) (u0 u1 u2 u3 u4 u5 u6 u7 u8 u9 u10 u11 u12 u13 u14 u15 u16 u17 u18 u19 u20 u21 u22 u23 u24 u25 u26 u27 u28 u29 u30 u31:UInt8):CF (Bl Tryz.prog (KZ φ) (nl φ) [15] 89 (mask 41) 1000 1 (aeu.take 7) ⟨AY [.str k,.str [u0,u1,u2,u3,u4,u5,u6,u7,u8,u9,u10,u11,u12,u13,u14,u15,u16,u17,u18,u19,u20,u21,u22,u23,u24,u25,u26,u27,u28,u29,u30,u31]] 0,[],1⟩ ⟨[],[],[]⟩)=some (S14 k [u0,u1,u2,u3,u4,u5,u6,u7,u8,u9,u10,u11,u12,u13,u14,u15,u16,u17,u18,u19,u20,u21,u22,u23,u24,u25,u26,u27,u28,u29,u30,u31] (φ.clamp k) [.u8 u0,.u8 u1,.u8 u2,.u8 u3,.u8 u4,.u8 u5,.u8 u6,.u8 u7,.u8 u8,.u8 u9,.u8 u10,.u8 u11,.u8 u12,.u8 u13,.u8 u14,.u8 u15,.u8 u16,.u8 u17,.u8 u18,.u8 u19,.u8 u20,.u8 u21,.u8 u22,.u8 u23,.u8 u24,.u8 u25,.u8 u26,.u8 u27,.u8 u28,.u8 u29,.u8 u30,.u8 (u31 &&& 127)] (φ.of [u0,u1,u2,u3,u4,u5,u6,u7,u8,u9,u10,u11,u12,u13,u14,u15,u16,u17,u18,u19,u20,u21,u22,u23,u24,u25,u26,u27,u28,u29,u30,u31 &&& 127]) ⟨φ.small 1,EC⟩ ⟨φ.of [u0,u1,u2,u3,u4,u5,u6,u7,u8,u9,u10,u11,u12,u13,u14,u15,u16,u17,u18,u19,u20,u21,u22,u23,u24,u25,u26,u27,u28,u29,u30,u31 &&& 127],φ.small 1⟩ 254,[φ.l32 k]):=by kernel_rfl
theorem aj6 (φ:Fl) (k u kk:List UInt8) (cb:List AVal) (i:Int) (x:E5) (p q:P2 E5):Vr Tryz.prog (KZ φ) (nl φ) [39] Tryz.f41 (mask 41) 1000 1 0 b14 (aeu.drop 8) (S14 k u kk cb x p q i) ⟨[false],[],[]⟩=some (.str (φ.bytes (φ.mul p.x (φ.inv p.z))),[!decide ((0:Int)≤i)]):=by kernel_rfl
theorem afg (φ:Fl) (k u kk:List UInt8) (cb:List AVal) (i j:Int) (x:E5) (p p0 q q0:P2 E5):AV Tryz.prog (KZ φ) (nl φ) [39,45,200050] [true] [.u8 0] 89 (mask 41) 1000 1 b14 (S14 k u kk cb x p0 q0 j) (S14 k u kk cb x p q i)=some (S14 k u kk cb x (φ.st1 p q x) (φ.st2 p q x) (IntKind.wrap .i64 (i - 1)),[eqS (.u8 (shr_u8 (List.getD kk (Int.toNat (IntKind.wrap IntKind.i64 (Int.tdiv i 8))) 0) (UInt64.toNat (UInt64.ofInt (Int.tmod i 8))) &&& 1)) (.u8 0),(decide ((0:Int)≤IntKind.wrap IntKind.i64 (Int.tdiv i 8)) && decide (IntKind.wrap IntKind.i64 (Int.tdiv i 8) < (kk.length:Int))),decide ((0:Int)≤i)]):=by kernel_rfl
theorem aez (φ:Fl) (k u kk:List UInt8) (cb:List AVal) (i j:Int) (x:E5) (p p0 q q0:P2 E5):AV Tryz.prog (KZ φ) (nl φ) [39,45,200050] [true] [.u8 1] 89 (mask 41) 1000 1 b14 (S14 k u kk cb x p0 q0 j) (S14 k u kk cb x p q i)=some (S14 k u kk cb x (φ.st2 q p x) (φ.st1 q p x) (IntKind.wrap .i64 (i - 1)),[eqS (.u8 (shr_u8 (List.getD kk (Int.toNat (IntKind.wrap IntKind.i64 (Int.tdiv i 8))) 0) (UInt64.toNat (UInt64.ofInt (Int.tmod i 8))) &&& 1)) (.u8 1),(decide ((0:Int)≤IntKind.wrap IntKind.i64 (Int.tdiv i 8)) && decide (IntKind.wrap IntKind.i64 (Int.tdiv i 8) < (kk.length:Int))),decide ((0:Int)≤i)]):=by kernel_rfl
theorem gl0:Tryz.prog.globals.size=1:=by kernel_rfl
theorem ab7 (k u kk c:List UInt8) (x:E5) (p q:P2 E5) (i:Int):okS Tryz.prog (S14 k u kk (c.map .u8) x p q i)=true:=by
 have h:∀ (m:Nat) (l:List UInt8),ltL m (l.map .u8)=true:=fun m l=>by
  induction l with
  | nil=>rfl
  | cons y l ih=>simp [ltL,ltS,ih]
 simp [okS,gl0,S14,ltT,ltH,ltV,ltS,ltL,h,E5.cells,JW,afI]
theorem ahB (k u kk c:List UInt8) (hk:kk.length=32) (x:E5) (s s0:P2 E5 × P2 E5) (j:Int) (m:Nat) (hm:m≤254):AU (evC Tryz.prog (nl Av) 89 (mask 41) 1000 1 b14) (AW Tryz.prog 1 (S14 k u kk (c.map .u8) x s0.1 s0.2 j)) (S14 k u kk (c.map .u8) x s.1 s.2 m)=some (S14 k u kk (c.map .u8) x (Vk Hz x (bitK kk m) s).1 (Vk Hz x (bitK kk m) s).2 ((m:Int) - 1)):=by
 have hw:IntKind.wrap .i64 ((m:Int) - 1)=(m:Int) - 1:=CK _ (by omega) (by omega)
 have hb:=Ua kk m (by omega)
 have hd:=Nj m (by omega)
 have h1:decide ((0:Int)≤((m / 8:Nat):Int))=true:=by rw [decide_eq_true_iff]; omega
 have h2:decide (((m / 8:Nat):Int) < (kk.length:Int))=true:=by rw [decide_eq_true_iff]; omega
 have h3:decide ((0:Int)≤(m:Int))=true:=by rw [decide_eq_true_iff]; omega
 rw [← hw]
 rcases bitB_cases kk m with e | e
 ·have hK:bitK kk m=false:=by unfold bitK; rw [e]; rfl
  rw [hK]
  exact Bg (H5 _) (afg Av k u kk (c.map .u8) m j x s.1 s0.1 s.2 s0.2) (by rw [hb,e,hd,h1,h2,h3]; rfl) (ab7 _ _ _ _ _ _ _ _)
 ·have hK:bitK kk m=true:=by unfold bitK; rw [e]; rfl
  rw [hK]
  exact Bg (H5 _) (aez Av k u kk (c.map .u8) m j x s.1 s0.1 s.2 s0.2) (by rw [hb,e,hd,h1,h2,h3]; rfl) (ab7 _ _ _ _ _ _ _ _)
theorem ahw (k u:List UInt8) (hk:isLen k 32=true) (hu:isLen u 32=true):(Au Tryz.prog (nl Av) (mask 41) 1000 41 [.str k,.str u] [] 1).map (·.1)=some (.str (ladE k u)):=by
 obtain ⟨u0,u1,u2,u3,u4,u5,u6,u7,u8,u9,u10,u11,u12,u13,u14,u15,u16,u17,u18,u19,u20,u21,u22,u23,u24,u25,u26,u27,u28,u29,u30,u31,rfl⟩:=L2 (BK.1 hu)
 refine Gs (H5 _) (fn:=Tryz.f41) (c:=AH Tryz.f41) (by kernel_rfl) (by kernel_rfl) (by kernel_rfl) 7 (id:=0) (b:=b14) (by kernel_rfl) (fun j=>S14 k [u0,u1,u2,u3,u4,u5,u6,u7,u8,u9,u10,u11,u12,u13,u14,u15,u16,u17,u18,u19,u20,u21,u22,u23,u24,u25,u26,u27,u28,u29,u30,u31] (Bp k) ([u0,u1,u2,u3,u4,u5,u6,u7,u8,u9,u10,u11,u12,u13,u14,u15,u16,u17,u18,u19,u20,u21,u22,u23,u24,u25,u26,u27,u28,u29,u30,u31 &&& 127].map .u8) (Dx [u0,u1,u2,u3,u4,u5,u6,u7,u8,u9,u10,u11,u12,u13,u14,u15,u16,u17,u18,u19,u20,u21,u22,u23,u24,u25,u26,u27,u28,u29,u30,u31 &&& 127]) (Gy Hz (Bp k) (Dx [u0,u1,u2,u3,u4,u5,u6,u7,u8,u9,u10,u11,u12,u13,u14,u15,u16,u17,u18,u19,u20,u21,u22,u23,u24,u25,u26,u27,u28,u29,u30,u31 &&& 127]) j).1 (Gy Hz (Bp k) (Dx [u0,u1,u2,u3,u4,u5,u6,u7,u8,u9,u10,u11,u12,u13,u14,u15,u16,u17,u18,u19,u20,u21,u22,u23,u24,u25,u26,u27,u28,u29,u30,u31 &&& 127]) j).2 (254 - (j:Int))) 255 (ajz Av k u0 u1 u2 u3 u4 u5 u6 u7 u8 u9 u10 u11 u12 u13 u14 u15 u16 u17 u18 u19 u20 u21 u22 u23 u24 u25 u26 u27 u28 u29 u30 u31) ?_ (fun j hj => ?_) (aj6 Av k [u0,u1,u2,u3,u4,u5,u6,u7,u8,u9,u10,u11,u12,u13,u14,u15,u16,u17,u18,u19,u20,u21,u22,u23,u24,u25,u26,u27,u28,u29,u30,u31] (Bp k) ([u0,u1,u2,u3,u4,u5,u6,u7,u8,u9,u10,u11,u12,u13,u14,u15,u16,u17,u18,u19,u20,u21,u22,u23,u24,u25,u26,u27,u28,u29,u30,u31 &&& 127].map .u8) _ (Dx [u0,u1,u2,u3,u4,u5,u6,u7,u8,u9,u10,u11,u12,u13,u14,u15,u16,u17,u18,u19,u20,u21,u22,u23,u24,u25,u26,u27,u28,u29,u30,u31 &&& 127]) _ _) rfl (by omega)
 ·simp [Am,Av,hk]
 ·have e1:(254:Int) - (j:Int)=((254 - j:Nat):Int):=by omega
  have e2:(254:Int) - ((j+1:Nat):Int)=((254 - j:Nat):Int) - 1:=by omega
  rw [e1,e2]
  exact ahB k [u0,u1,u2,u3,u4,u5,u6,u7,u8,u9,u10,u11,u12,u13,u14,u15,u16,u17,u18,u19,u20,u21,u22,u23,u24,u25,u26,u27,u28,u29,u30,u31] (Bp k) [u0,u1,u2,u3,u4,u5,u6,u7,u8,u9,u10,u11,u12,u13,u14,u15,u16,u17,u18,u19,u20,u21,u22,u23,u24,u25,u26,u27,u28,u29,u30,u31 &&& 127] (Mm hk) (Dx [u0,u1,u2,u3,u4,u5,u6,u7,u8,u9,u10,u11,u12,u13,u14,u15,u16,u17,u18,u19,u20,u21,u22,u23,u24,u25,u26,u27,u28,u29,u30,u31 &&& 127]) (Gy Hz (Bp k) (Dx [u0,u1,u2,u3,u4,u5,u6,u7,u8,u9,u10,u11,u12,u13,u14,u15,u16,u17,u18,u19,u20,u21,u22,u23,u24,u25,u26,u27,u28,u29,u30,u31 &&& 127]) j) _ _ (254 - j) (by omega)
end Go.Proofs.YtcplgmgpagekfaaGreatDoor
namespace Go.Proofs.YtcplgmgpagekfaaGreatDoor
open Go Go.Eng Go.Num
theorem aiQ (φ:Fl) (k:List UInt8) (u0 u1 u2 u3 u4 u5 u6 u7 u8 u9 u10 u11 u12 u13 u14 u15 u16 u17 u18 u19 u20 u21 u22 u23 u24 u25 u26 u27 u28 u29 u30 u31:UInt8):CF (Bl Tryz.prog (KZ φ) (nl φ) [24,35] 118 (mask 18) 1000 1 (ac3.take 10) ⟨AY [.str k,.str [u0,u1,u2,u3,u4,u5,u6,u7,u8,u9,u10,u11,u12,u13,u14,u15,u16,u17,u18,u19,u20,u21,u22,u23,u24,u25,u26,u27,u28,u29,u30,u31]] 0,[],1⟩ ⟨[],[],[]⟩)=some (S15 k [u0,u1,u2,u3,u4,u5,u6,u7,u8,u9,u10,u11,u12,u13,u14,u15,u16,u17,u18,u19,u20,u21,u22,u23,u24,u25,u26,u27,u28,u29,u30,u31] (φ.clamp k) [.u8 u0,.u8 u1,.u8 u2,.u8 u3,.u8 u4,.u8 u5,.u8 u6,.u8 u7,.u8 u8,.u8 u9,.u8 u10,.u8 u11,.u8 u12,.u8 u13,.u8 u14,.u8 u15,.u8 u16,.u8 u17,.u8 u18,.u8 u19,.u8 u20,.u8 u21,.u8 u22,.u8 u23,.u8 u24,.u8 u25,.u8 u26,.u8 u27,.u8 u28,.u8 u29,.u8 u30,.u8 (u31 &&& 127)] (φ.ofN [u0,u1,u2,u3,u4,u5,u6,u7,u8,u9,u10,u11,u12,u13,u14,u15,u16,u17,u18,u19,u20,u21,u22,u23,u24,u25,u26,u27,u28,u29,u30,u31 &&& 127]) ⟨φ.smallN 1,BG⟩ ⟨φ.ofN [u0,u1,u2,u3,u4,u5,u6,u7,u8,u9,u10,u11,u12,u13,u14,u15,u16,u17,u18,u19,u20,u21,u22,u23,u24,u25,u26,u27,u28,u29,u30,u31 &&& 127],φ.smallN 1⟩ 254,[φ.l32 [u0,u1,u2,u3,u4,u5,u6,u7,u8,u9,u10,u11,u12,u13,u14,u15,u16,u17,u18,u19,u20,u21,u22,u23,u24,u25,u26,u27,u28,u29,u30,u31 &&& 127],φ.l32 k]):=by kernel_rfl
theorem aiw (φ:Fl) (k u kk:List UInt8) (cb:List AVal) (i:Int) (x:N16) (p q:P2 N16):Vr Tryz.prog (KZ φ) (nl φ) [41,115,116] Tryz.f18 (mask 18) 1000 1 0 b15 (ac3.drop 11) (S15 k u kk cb x p q i) ⟨[false],[],[]⟩=some (.str (φ.bytesN (φ.mulN p.x (φ.invN p.z))),[φ.ok p.x && φ.ok (φ.invN p.z),φ.ok p.z,!decide ((0:Int)≤i)]):=by kernel_rfl
theorem agK (φ:Fl) (k u kk:List UInt8) (cb:List AVal) (i j:Int) (x:N16) (p p0 q q0:P2 N16):AV Tryz.prog (KZ φ) (nl φ) [41,47,53,61,64,67,70,73,76,78,81,83,86,89,92,96,97,100,105,106,107] [true,false] [] 118 (mask 18) 1000 1 b15 (S15 k u kk cb x p0 q0 j) (S15 k u kk cb x p q i)=some (S15 k u kk cb x ⟨φ.mulN (φ.mulN (φ.addN (p.x) (p.z)) (φ.addN (p.x) (p.z))) (φ.mulN (φ.subN (p.x) (p.z)) (φ.subN (p.x) (p.z))),φ.mulN (φ.subN (φ.mulN (φ.addN (p.x) (p.z)) (φ.addN (p.x) (p.z))) (φ.mulN (φ.subN (p.x) (p.z)) (φ.subN (p.x) (p.z)))) (φ.addN (φ.mulN (φ.addN (p.x) (p.z)) (φ.addN (p.x) (p.z))) (φ.mulN (φ.smallN 121665) (φ.subN (φ.mulN (φ.addN (p.x) (p.z)) (φ.addN (p.x) (p.z))) (φ.mulN (φ.subN (p.x) (p.z)) (φ.subN (p.x) (p.z))))))⟩ ⟨φ.mulN (φ.addN (φ.mulN (φ.subN (q.x) (q.z)) (φ.addN (p.x) (p.z))) (φ.mulN (φ.addN (q.x) (q.z)) (φ.subN (p.x) (p.z)))) (φ.addN (φ.mulN (φ.subN (q.x) (q.z)) (φ.addN (p.x) (p.z))) (φ.mulN (φ.addN (q.x) (q.z)) (φ.subN (p.x) (p.z)))),φ.mulN (x) (φ.mulN (φ.subN (φ.mulN (φ.subN (q.x) (q.z)) (φ.addN (p.x) (p.z))) (φ.mulN (φ.addN (q.x) (q.z)) (φ.subN (p.x) (p.z)))) (φ.subN (φ.mulN (φ.subN (q.x) (q.z)) (φ.addN (p.x) (p.z))) (φ.mulN (φ.addN (q.x) (q.z)) (φ.subN (p.x) (p.z)))))⟩ (IntKind.wrap .i64 (i - 1)),[φ.ok (φ.subN (φ.mulN (φ.addN (p.x) (p.z)) (φ.addN (p.x) (p.z))) (φ.mulN (φ.subN (p.x) (p.z)) (φ.subN (p.x) (p.z)))) && φ.ok (φ.addN (φ.mulN (φ.addN (p.x) (p.z)) (φ.addN (p.x) (p.z))) (φ.mulN (φ.smallN 121665) (φ.subN (φ.mulN (φ.addN (p.x) (p.z)) (φ.addN (p.x) (p.z))) (φ.mulN (φ.subN (p.x) (p.z)) (φ.subN (p.x) (p.z)))))),φ.ok (φ.mulN (φ.addN (p.x) (p.z)) (φ.addN (p.x) (p.z))) && φ.ok (φ.mulN (φ.smallN 121665) (φ.subN (φ.mulN (φ.addN (p.x) (p.z)) (φ.addN (p.x) (p.z))) (φ.mulN (φ.subN (p.x) (p.z)) (φ.subN (p.x) (p.z))))),φ.ok (φ.smallN 121665) && φ.ok (φ.subN (φ.mulN (φ.addN (p.x) (p.z)) (φ.addN (p.x) (p.z))) (φ.mulN (φ.subN (p.x) (p.z)) (φ.subN (p.x) (p.z)))),φ.ok (φ.mulN (φ.addN (p.x) (p.z)) (φ.addN (p.x) (p.z))) && φ.ok (φ.mulN (φ.subN (p.x) (p.z)) (φ.subN (p.x) (p.z))),φ.ok (x) && φ.ok (φ.mulN (φ.subN (φ.mulN (φ.subN (q.x) (q.z)) (φ.addN (p.x) (p.z))) (φ.mulN (φ.addN (q.x) (q.z)) (φ.subN (p.x) (p.z)))) (φ.subN (φ.mulN (φ.subN (q.x) (q.z)) (φ.addN (p.x) (p.z))) (φ.mulN (φ.addN (q.x) (q.z)) (φ.subN (p.x) (p.z))))),φ.ok (φ.subN (φ.mulN (φ.subN (q.x) (q.z)) (φ.addN (p.x) (p.z))) (φ.mulN (φ.addN (q.x) (q.z)) (φ.subN (p.x) (p.z)))) && φ.ok (φ.subN (φ.mulN (φ.subN (q.x) (q.z)) (φ.addN (p.x) (p.z))) (φ.mulN (φ.addN (q.x) (q.z)) (φ.subN (p.x) (p.z)))),φ.ok (φ.mulN (φ.subN (q.x) (q.z)) (φ.addN (p.x) (p.z))) && φ.ok (φ.mulN (φ.addN (q.x) (q.z)) (φ.subN (p.x) (p.z))),φ.ok (φ.addN (φ.mulN (φ.subN (q.x) (q.z)) (φ.addN (p.x) (p.z))) (φ.mulN (φ.addN (q.x) (q.z)) (φ.subN (p.x) (p.z)))) && φ.ok (φ.addN (φ.mulN (φ.subN (q.x) (q.z)) (φ.addN (p.x) (p.z))) (φ.mulN (φ.addN (q.x) (q.z)) (φ.subN (p.x) (p.z)))),φ.ok (φ.mulN (φ.subN (q.x) (q.z)) (φ.addN (p.x) (p.z))) && φ.ok (φ.mulN (φ.addN (q.x) (q.z)) (φ.subN (p.x) (p.z))),φ.ok (φ.addN (q.x) (q.z)) && φ.ok (φ.subN (p.x) (p.z)),φ.ok (q.x) && φ.ok (q.z),φ.ok (φ.subN (q.x) (q.z)) && φ.ok (φ.addN (p.x) (p.z)),φ.ok (q.x) && φ.ok (q.z),φ.ok (φ.mulN (φ.addN (p.x) (p.z)) (φ.addN (p.x) (p.z))) && φ.ok (φ.mulN (φ.subN (p.x) (p.z)) (φ.subN (p.x) (p.z))),φ.ok (φ.subN (p.x) (p.z)) && φ.ok (φ.subN (p.x) (p.z)),φ.ok (p.x) && φ.ok (p.z),φ.ok (φ.addN (p.x) (p.z)) && φ.ok (φ.addN (p.x) (p.z)),φ.ok (p.x) && φ.ok (p.z),!((shr_u8 (List.getD kk (Int.toNat (IntKind.wrap IntKind.i64 (Int.tdiv i 8))) 0) (UInt64.toNat (UInt64.ofInt (Int.tmod i 8))) &&& 1) == 1),(decide ((0:Int)≤IntKind.wrap IntKind.i64 (Int.tdiv i 8)) && decide (IntKind.wrap IntKind.i64 (Int.tdiv i 8) < (kk.length:Int))),decide ((0:Int)≤i)]):=by kernel_rfl
theorem afx (φ:Fl) (k u kk:List UInt8) (cb:List AVal) (i j:Int) (x:N16) (p p0 q q0:P2 N16):AV Tryz.prog (KZ φ) (nl φ) [41,47,53,61,64,67,70,73,76,78,81,83,86,89,92,96,97,100,105,106,107] [true,true] [] 118 (mask 18) 1000 1 b15 (S15 k u kk cb x p0 q0 j) (S15 k u kk cb x p q i)=some (S15 k u kk cb x ⟨φ.mulN (φ.addN (φ.mulN (φ.subN (p.x) (p.z)) (φ.addN (q.x) (q.z))) (φ.mulN (φ.addN (p.x) (p.z)) (φ.subN (q.x) (q.z)))) (φ.addN (φ.mulN (φ.subN (p.x) (p.z)) (φ.addN (q.x) (q.z))) (φ.mulN (φ.addN (p.x) (p.z)) (φ.subN (q.x) (q.z)))),φ.mulN (x) (φ.mulN (φ.subN (φ.mulN (φ.subN (p.x) (p.z)) (φ.addN (q.x) (q.z))) (φ.mulN (φ.addN (p.x) (p.z)) (φ.subN (q.x) (q.z)))) (φ.subN (φ.mulN (φ.subN (p.x) (p.z)) (φ.addN (q.x) (q.z))) (φ.mulN (φ.addN (p.x) (p.z)) (φ.subN (q.x) (q.z)))))⟩ ⟨φ.mulN (φ.mulN (φ.addN (q.x) (q.z)) (φ.addN (q.x) (q.z))) (φ.mulN (φ.subN (q.x) (q.z)) (φ.subN (q.x) (q.z))),φ.mulN (φ.subN (φ.mulN (φ.addN (q.x) (q.z)) (φ.addN (q.x) (q.z))) (φ.mulN (φ.subN (q.x) (q.z)) (φ.subN (q.x) (q.z)))) (φ.addN (φ.mulN (φ.addN (q.x) (q.z)) (φ.addN (q.x) (q.z))) (φ.mulN (φ.smallN 121665) (φ.subN (φ.mulN (φ.addN (q.x) (q.z)) (φ.addN (q.x) (q.z))) (φ.mulN (φ.subN (q.x) (q.z)) (φ.subN (q.x) (q.z))))))⟩ (IntKind.wrap .i64 (i - 1)),[φ.ok (φ.subN (φ.mulN (φ.addN (q.x) (q.z)) (φ.addN (q.x) (q.z))) (φ.mulN (φ.subN (q.x) (q.z)) (φ.subN (q.x) (q.z)))) && φ.ok (φ.addN (φ.mulN (φ.addN (q.x) (q.z)) (φ.addN (q.x) (q.z))) (φ.mulN (φ.smallN 121665) (φ.subN (φ.mulN (φ.addN (q.x) (q.z)) (φ.addN (q.x) (q.z))) (φ.mulN (φ.subN (q.x) (q.z)) (φ.subN (q.x) (q.z)))))),φ.ok (φ.mulN (φ.addN (q.x) (q.z)) (φ.addN (q.x) (q.z))) && φ.ok (φ.mulN (φ.smallN 121665) (φ.subN (φ.mulN (φ.addN (q.x) (q.z)) (φ.addN (q.x) (q.z))) (φ.mulN (φ.subN (q.x) (q.z)) (φ.subN (q.x) (q.z))))),φ.ok (φ.smallN 121665) && φ.ok (φ.subN (φ.mulN (φ.addN (q.x) (q.z)) (φ.addN (q.x) (q.z))) (φ.mulN (φ.subN (q.x) (q.z)) (φ.subN (q.x) (q.z)))),φ.ok (φ.mulN (φ.addN (q.x) (q.z)) (φ.addN (q.x) (q.z))) && φ.ok (φ.mulN (φ.subN (q.x) (q.z)) (φ.subN (q.x) (q.z))),φ.ok (x) && φ.ok (φ.mulN (φ.subN (φ.mulN (φ.subN (p.x) (p.z)) (φ.addN (q.x) (q.z))) (φ.mulN (φ.addN (p.x) (p.z)) (φ.subN (q.x) (q.z)))) (φ.subN (φ.mulN (φ.subN (p.x) (p.z)) (φ.addN (q.x) (q.z))) (φ.mulN (φ.addN (p.x) (p.z)) (φ.subN (q.x) (q.z))))),φ.ok (φ.subN (φ.mulN (φ.subN (p.x) (p.z)) (φ.addN (q.x) (q.z))) (φ.mulN (φ.addN (p.x) (p.z)) (φ.subN (q.x) (q.z)))) && φ.ok (φ.subN (φ.mulN (φ.subN (p.x) (p.z)) (φ.addN (q.x) (q.z))) (φ.mulN (φ.addN (p.x) (p.z)) (φ.subN (q.x) (q.z)))),φ.ok (φ.mulN (φ.subN (p.x) (p.z)) (φ.addN (q.x) (q.z))) && φ.ok (φ.mulN (φ.addN (p.x) (p.z)) (φ.subN (q.x) (q.z))),φ.ok (φ.addN (φ.mulN (φ.subN (p.x) (p.z)) (φ.addN (q.x) (q.z))) (φ.mulN (φ.addN (p.x) (p.z)) (φ.subN (q.x) (q.z)))) && φ.ok (φ.addN (φ.mulN (φ.subN (p.x) (p.z)) (φ.addN (q.x) (q.z))) (φ.mulN (φ.addN (p.x) (p.z)) (φ.subN (q.x) (q.z)))),φ.ok (φ.mulN (φ.subN (p.x) (p.z)) (φ.addN (q.x) (q.z))) && φ.ok (φ.mulN (φ.addN (p.x) (p.z)) (φ.subN (q.x) (q.z))),φ.ok (φ.addN (p.x) (p.z)) && φ.ok (φ.subN (q.x) (q.z)),φ.ok (p.x) && φ.ok (p.z),φ.ok (φ.subN (p.x) (p.z)) && φ.ok (φ.addN (q.x) (q.z)),φ.ok (p.x) && φ.ok (p.z),φ.ok (φ.mulN (φ.addN (q.x) (q.z)) (φ.addN (q.x) (q.z))) && φ.ok (φ.mulN (φ.subN (q.x) (q.z)) (φ.subN (q.x) (q.z))),φ.ok (φ.subN (q.x) (q.z)) && φ.ok (φ.subN (q.x) (q.z)),φ.ok (q.x) && φ.ok (q.z),φ.ok (φ.addN (q.x) (q.z)) && φ.ok (φ.addN (q.x) (q.z)),φ.ok (q.x) && φ.ok (q.z),((shr_u8 (List.getD kk (Int.toNat (IntKind.wrap IntKind.i64 (Int.tdiv i 8))) 0) (UInt64.toNat (UInt64.ofInt (Int.tmod i 8))) &&& 1) == 1),(decide ((0:Int)≤IntKind.wrap IntKind.i64 (Int.tdiv i 8)) && decide (IntKind.wrap IntKind.i64 (Int.tdiv i 8) < (kk.length:Int))),decide ((0:Int)≤i)]):=by kernel_rfl
theorem N1 {a b:N16}(h:Num.okB a=true) (k:Num.okB b=true):Num.okB (JQ a b)=true:=Be.2 (KS a b (Be.1 h) (Be.1 k)).1
theorem TC {a b:N16}(h:Num.okB a=true) (k:Num.okB b=true):Num.okB (KK a b)=true:=N1 h (Be.2 (Np b (Be.1 k)))
theorem SB {a b:N16}(h:Num.okB a=true) (k:Num.okB b=true):Num.okB (B7 a b)=true:=Be.2 (Dh a b (Be.1 h) (Be.1 k)).1
theorem MR (n:UInt32):Num.okB (smallN n)=true:=Be.2 (C3 n).1
theorem aaT {a:N16}(h:Num.okB a=true):Num.okB (O9 a)=true:=Be.2 (S0 a (Be.1 h) _)
theorem aiV (k u kk c:List UInt8) (x:N16) (p q:P2 N16) (i:Int):okS Tryz.prog (S15 k u kk (c.map .u8) x p q i)=true:=by
 have h:∀ (m:Nat) (l:List UInt8),ltL m (l.map .u8)=true:=fun m l=>by
  induction l with
  | nil=>rfl
  | cons y l ih=>simp [ltL,ltS,ih]
 simp [okS,gl0,S15,ltT,ltH,ltV,ltS,ltL,h,N16.cells,afI]
def akp (s:P2 N16 × P2 N16):Prop:=(Num.okB s.1.x=true∧Num.okB s.1.z=true)∧(Num.okB s.2.x=true∧Num.okB s.2.z=true)
theorem agM (k:List UInt8){u:List UInt8}(h:isLen u 32=true) (j:Nat):akp (Gy Pt k (ofP u) j):=by
 have r:=Gl Ps k (QV h) j
 exact ⟨⟨Be.2 r.1.1.okP,Be.2 r.1.2.okP⟩,⟨Be.2 r.2.1.okP,Be.2 r.2.2.okP⟩⟩
theorem aju (k u kk c:List UInt8) (hk:kk.length=32) (x:N16) (hx:Num.okB x=true) (s s0:P2 N16 × P2 N16) (hs:akp s) (j:Int) (m:Nat) (hm:m≤254):AU (evC Tryz.prog (nl Av) 118 (mask 18) 1000 1 b15) (AW Tryz.prog 1 (S15 k u kk (c.map .u8) x s0.1 s0.2 j)) (S15 k u kk (c.map .u8) x s.1 s.2 m)=some (S15 k u kk (c.map .u8) x (Vk Pt x (bitK kk m) s).1 (Vk Pt x (bitK kk m) s).2 ((m:Int) - 1)):=by
 have hw:IntKind.wrap .i64 ((m:Int) - 1)=(m:Int) - 1:=CK _ (by omega) (by omega)
 have hb:=Ua kk m (by omega)
 have hd:=Nj m (by omega)
 have h1:decide ((0:Int)≤((m / 8:Nat):Int))=true:=by rw [decide_eq_true_iff]; omega
 have h2:decide (((m / 8:Nat):Int) < (kk.length:Int))=true:=by rw [decide_eq_true_iff]; omega
 have h3:decide ((0:Int)≤(m:Int))=true:=by rw [decide_eq_true_iff]; omega
 obtain ⟨p,q⟩:=s
 obtain ⟨⟨o1,o2⟩,⟨o3,o4⟩⟩:=hs
 simp only at o1 o2 o3 o4
 rw [← hw]
 cases hK:bitK kk m
 ·have hK2:(QU kk m == 1)=false:=hK
  exact Bg (H5 _) (agK Av k u kk (c.map .u8) m j x p s0.1 q s0.2) (by
   rw [hb,hK2,hd,h1,h2,h3]
   simp (maxDischargeDepth:=30) only [Am,Av,N1,TC,SB,MR,o1,o2,o3,o4,hx,Bool.and_self,Bool.not_false,cond_true]) (aiV _ _ _ _ _ _ _ _)
 ·have hK2:(QU kk m == 1)=true:=hK
  exact Bg (H5 _) (afx Av k u kk (c.map .u8) m j x p s0.1 q s0.2) (by
   rw [hb,hK2,hd,h1,h2,h3]
   simp (maxDischargeDepth:=30) only [Am,Av,N1,TC,SB,MR,o1,o2,o3,o4,hx,Bool.and_self,Bool.not_false,cond_true]) (aiV _ _ _ _ _ _ _ _)
theorem ajF (k u:List UInt8) (hk:isLen k 32=true) (hu:isLen u 32=true):(Au Tryz.prog (nl Av) (mask 18) 1000 18 [.str k,.str u] [] 1).map (·.1)=some (.str (ladP k u)):=by
 obtain ⟨u0,u1,u2,u3,u4,u5,u6,u7,u8,u9,u10,u11,u12,u13,u14,u15,u16,u17,u18,u19,u20,u21,u22,u23,u24,u25,u26,u27,u28,u29,u30,u31,rfl⟩:=L2 (BK.1 hu)
 have hl:isLen [u0,u1,u2,u3,u4,u5,u6,u7,u8,u9,u10,u11,u12,u13,u14,u15,u16,u17,u18,u19,u20,u21,u22,u23,u24,u25,u26,u27,u28,u29,u30,u31 &&& 127] 32=true:=rfl
 have ol:=agM (Bp k) hl
 refine Gs (H5 _) (fn:=Tryz.f18) (c:=AH Tryz.f18) (by kernel_rfl) (by kernel_rfl) (by kernel_rfl) 10 (id:=0) (b:=b15) (by kernel_rfl) (fun j=>S15 k [u0,u1,u2,u3,u4,u5,u6,u7,u8,u9,u10,u11,u12,u13,u14,u15,u16,u17,u18,u19,u20,u21,u22,u23,u24,u25,u26,u27,u28,u29,u30,u31] (Bp k) ([u0,u1,u2,u3,u4,u5,u6,u7,u8,u9,u10,u11,u12,u13,u14,u15,u16,u17,u18,u19,u20,u21,u22,u23,u24,u25,u26,u27,u28,u29,u30,u31 &&& 127].map .u8) (ofP [u0,u1,u2,u3,u4,u5,u6,u7,u8,u9,u10,u11,u12,u13,u14,u15,u16,u17,u18,u19,u20,u21,u22,u23,u24,u25,u26,u27,u28,u29,u30,u31 &&& 127]) (Gy Pt (Bp k) (ofP [u0,u1,u2,u3,u4,u5,u6,u7,u8,u9,u10,u11,u12,u13,u14,u15,u16,u17,u18,u19,u20,u21,u22,u23,u24,u25,u26,u27,u28,u29,u30,u31 &&& 127]) j).1 (Gy Pt (Bp k) (ofP [u0,u1,u2,u3,u4,u5,u6,u7,u8,u9,u10,u11,u12,u13,u14,u15,u16,u17,u18,u19,u20,u21,u22,u23,u24,u25,u26,u27,u28,u29,u30,u31 &&& 127]) j).2 (254 - (j:Int))) 255 (aiQ Av k u0 u1 u2 u3 u4 u5 u6 u7 u8 u9 u10 u11 u12 u13 u14 u15 u16 u17 u18 u19 u20 u21 u22 u23 u24 u25 u26 u27 u28 u29 u30 u31) ?_ (fun j hj => ?_) (aiw Av k [u0,u1,u2,u3,u4,u5,u6,u7,u8,u9,u10,u11,u12,u13,u14,u15,u16,u17,u18,u19,u20,u21,u22,u23,u24,u25,u26,u27,u28,u29,u30,u31] (Bp k) ([u0,u1,u2,u3,u4,u5,u6,u7,u8,u9,u10,u11,u12,u13,u14,u15,u16,u17,u18,u19,u20,u21,u22,u23,u24,u25,u26,u27,u28,u29,u30,u31 &&& 127].map .u8) _ (ofP [u0,u1,u2,u3,u4,u5,u6,u7,u8,u9,u10,u11,u12,u13,u14,u15,u16,u17,u18,u19,u20,u21,u22,u23,u24,u25,u26,u27,u28,u29,u30,u31 &&& 127]) _ _) ?_ (by omega)
 ·simp only [Am,Av,hk,hl,cond_true]
 ·have e1:(254:Int) - (j:Int)=((254 - j:Nat):Int):=by omega
  have e2:(254:Int) - ((j+1:Nat):Int)=((254 - j:Nat):Int) - 1:=by omega
  rw [e1,e2]
  exact aju k [u0,u1,u2,u3,u4,u5,u6,u7,u8,u9,u10,u11,u12,u13,u14,u15,u16,u17,u18,u19,u20,u21,u22,u23,u24,u25,u26,u27,u28,u29,u30,u31] (Bp k) [u0,u1,u2,u3,u4,u5,u6,u7,u8,u9,u10,u11,u12,u13,u14,u15,u16,u17,u18,u19,u20,u21,u22,u23,u24,u25,u26,u27,u28,u29,u30,u31 &&& 127] (Mm hk) (ofP [u0,u1,u2,u3,u4,u5,u6,u7,u8,u9,u10,u11,u12,u13,u14,u15,u16,u17,u18,u19,u20,u21,u22,u23,u24,u25,u26,u27,u28,u29,u30,u31 &&& 127]) (Be.2 (QV hl).okP) (Gy Pt (Bp k) (ofP [u0,u1,u2,u3,u4,u5,u6,u7,u8,u9,u10,u11,u12,u13,u14,u15,u16,u17,u18,u19,u20,u21,u22,u23,u24,u25,u26,u27,u28,u29,u30,u31 &&& 127]) j) _ (ol j) _ (254 - j) (by omega)
 ·have o:=ol 255
  simp only [Am,Av,aaT,o.1.1,o.1.2,Bool.and_self,cond_true]
  rfl
end Go.Proofs.YtcplgmgpagekfaaGreatDoor
namespace Go.Num
open Go Go.Eng
def Dq:List UInt8:=List.replicate 32 0
def C7:List UInt8:=9::List.replicate 31 0
def WI:Nat:=57896044618658097711785492504343953926634992332820282019728792003956564819968
theorem GO:∀ (a b:List UInt8),leNat (a++b)=leNat a+256 ^ a.length * leNat b
 | [],b=>by simp [leNat]
 | x::a,b=>by
  have:=GO a b
  simp only [List.cons_append,leNat,this,List.length_cons,Nat.pow_succ]
  rw [Nat.mul_add]
  have:256 * (256 ^ a.length * leNat b)=256 ^ a.length * 256 * leNat b:=by rw [← Nat.mul_assoc,Nat.mul_comm 256]
  omega
theorem JE:∀ (a:List UInt8),leNat a < 256 ^ a.length
 | []=>by simp [leNat]
 | x::a=>by
  have:=JE a
  have hx:=x.toNat_lt
  simp only [leNat,List.length_cons,Nat.pow_succ]
  omega
theorem afW (x:UInt8):(x &&& 127).toNat=x.toNat % 128:=by
 rw [UInt8.toNat_and]
 exact Nat.and_two_pow_sub_one_eq_mod x.toNat 7
theorem YG {u:List UInt8}(h:isLen u 32=true):leNat (JJ u)=leNat u % WI:=by
 rw [BK] at h
 have e:u=u.take 31++[u.getD 31 0]:=by
  have h1:u.drop 31=[u.getD 31 0]:=by
   rw [List.drop_eq_getElem_cons (by omega),List.drop_of_length_le (by omega)]
   rw [List.getD_eq_getElem?_getD,List.getElem?_eq_getElem (by omega)]; rfl
  rw [← h1,List.take_append_drop]
 have hl:(u.take 31).length=31:=by rw [List.length_take]; omega
 have e2:JJ u=u.take 31++[u.getD 31 0 &&& 127]:=by
  unfold JJ
  apply List.ext_getElem?
  intro i
  rw [List.getElem?_set]
  by_cases h1:31=i
  ·subst h1
   rw [if_pos rfl,if_pos (by omega),List.getElem?_append_right (by omega),hl]; rfl
  ·rw [if_neg h1]
   by_cases h2:i < 31
   ·rw [List.getElem?_append_left (by omega),List.getElem?_take_of_lt h2]
   ·rw [List.getElem?_eq_none (by omega),List.getElem?_eq_none (by rw [List.length_append,hl]; show 31+1≤i; omega)]
 have hb:=JE (u.take 31)
 rw [hl] at hb
 generalize hx:u.getD 31 0=x at e e2
 rw [e2]
 conv=>rhs; rw [e]
 rw [GO,GO,hl]
 have hx2:=x.toNat_lt
 have s1:∀ y:UInt8,leNat [y]=y.toNat:=fun y=>by simp [leNat]
 rw [s1,s1,afW]
 unfold WI
 simp only [Nat.reducePow] at hb ⊢
 omega
theorem YW (k:List UInt8){u:List UInt8}(h:isLen u 32=true):leNat (ladE k u)=Dn (Fa k (leNat u % WI % Pq)):=by
 rw [X1,PO (OT h),YG h]
theorem aau (k:List UInt8){u:List UInt8}(h:isLen u 32=true){n m:Nat}(hn:leNat u=n) (hlt:n < Pq) (hm:Dn (Fa k n)=m):leNat (ladE k u)=m:=by
 rw [YW k h,hn]
 have hp:Pq < WI:=by decide
 rw [Nat.mod_eq_of_lt (show n < WI by omega),Nat.mod_eq_of_lt hlt,hm]
theorem Ip:leNat C7=9:=by decide
end Go.Num
namespace Go.Proofs.YtcplgmgpagekfaaGreatDoor
open Go Go.Eng Go.Num
def p41:List AVal→Option (EffA × Bool)
 | [.str k,.str u]=>some (.pure (.str (ladE k u)),isLen k 32 && isLen u 32)
 | _=>none
theorem afz:Ai Tryz.prog (csP (Al 41 p41)):=AT fun args v he=>by
 unfold p41 at he
 split at he
 ·simp only [Option.some.injEq,Prod.mk.injEq,Bool.and_eq_true] at he
  obtain ⟨rfl,h⟩:=he
  exact Ac Ox AB (ahw _ _ h.1 h.2) rfl rfl
 ·cases he
def p18:List AVal→Option (EffA × Bool)
 | [.str k,.str u]=>some (.pure (.str (ladP k u)),isLen k 32 && isLen u 32)
 | _=>none
theorem aeN:Ai Tryz.prog (csP (Al 18 p18)):=AT fun args v he=>by
 unfold p18 at he
 split at he
 ·simp only [Option.some.injEq,Prod.mk.injEq,Bool.and_eq_true] at he
  obtain ⟨rfl,h⟩:=he
  exact Ac Ox AB (ajF _ _ h.1 h.2) rfl rfl
 ·cases he
structure Fh where
 ladE:List UInt8→List UInt8→List UInt8
 ladP:List UInt8→List UInt8→List UInt8
 l32:List UInt8→Bool
def Bf:Fh:=⟨ladE,ladP,fun s=>isLen s 32⟩
def q41 (φ:Fh):List AVal→Option (EffA × Bool)
 | [.str a,.str b]=>some (.pure (.str (φ.ladE a b)),(φ.l32 a && φ.l32 b))
 | _=>none
theorem age:Ai Tryz.prog (csP (Al 41 (q41 Bf))):=AT fun args v he=>by
 unfold q41 at he
 split at he
 ·rename_i a b
  simp only [Option.some.injEq,Prod.mk.injEq] at he
  obtain ⟨rfl,h⟩:=he
  have h2:(Bf.l32 a && Bf.l32 b)=true:=h
  refine afz 41 [(.str a),(.str b)] _ ?_
  show cond ((Bf.l32 a && Bf.l32 b)) _ _=_
  rw [h2]; rfl
 ·cases he
def q18 (φ:Fh):List AVal→Option (EffA × Bool)
 | [.str a,.str b]=>some (.pure (.str (φ.ladP a b)),(φ.l32 a && φ.l32 b))
 | _=>none
theorem ag0:Ai Tryz.prog (csP (Al 18 (q18 Bf))):=AT fun args v he=>by
 unfold q18 at he
 split at he
 ·rename_i a b
  simp only [Option.some.injEq,Prod.mk.injEq] at he
  obtain ⟨rfl,h⟩:=he
  have h2:(Bf.l32 a && Bf.l32 b)=true:=h
  refine aeN 18 [(.str a),(.str b)] _ ?_
  show cond ((Bf.l32 a && Bf.l32 b)) _ _=_
  rw [h2]; rfl
 ·cases he
def GR (φ:Fh):PS:=(Bi (Al 41 (q41 φ)) (Al 18 (q18 φ)))
theorem aa6:Ai Tryz.prog (csP (GR Bf)):=(AN age ag0)
def ajA (φ:Fh):CS:=cs0
theorem ab4:Ai Tryz.prog (ajA Bf):=Cm
def nh (φ:Fh):CS:=At (csP (GR φ)) (ajA φ)
theorem SM:Ai Tryz.prog (nh Bf):=Af aa6 ab4
theorem Fs (φ:Fh):Bt (GR φ) (nh φ):=A4
def shV (l:List UInt8→List UInt8→List UInt8) (k u:List UInt8):List UInt8:=cond (isLen k 32 && isLen u 32) (cond (l k u == Dq) [] (l k u)) []
def shR (l:List UInt8→List UInt8→List UInt8) (k u:List UInt8):Int:=cond (isLen k 32 && isLen u 32) (cond (l k u == Dq) 30 0) 2
def puV (l:List UInt8→List UInt8→List UInt8) (k:List UInt8):List UInt8:=cond (isLen k 32) (l k C7) []
def puR (k:List UInt8):Int:=cond (isLen k 32) 0 2
theorem amK (φ:Fh) (k u:List UInt8):AL (An Tryz.prog (GR φ) (nh φ) [9] [true] [] (mask 42) 200 42 [.str k,.str u] [] Tryz.prog.globals.size)=some (.tup [.str [],.int .i64 2],[((k.length:Int) != 32)]):=by kernel_rfl
theorem anj (φ:Fh) (k u:List UInt8):AL (An Tryz.prog (GR φ) (nh φ) [9,13] [false,true] [] (mask 42) 200 42 [.str k,.str u] [] Tryz.prog.globals.size)=some (.tup [.str [],.int .i64 2],[((u.length:Int) != 32),!(((k.length:Int) != 32))]):=by kernel_rfl
theorem ant (φ:Fh) (k u:List UInt8):AL (An Tryz.prog (GR φ) (nh φ) [9,13,17,21] [false,false,true] [] (mask 42) 200 42 [.str k,.str u] [] Tryz.prog.globals.size)=some (.tup [.str [],.int .i64 30],[φ.ladE k u == Dq,(φ.l32 k && φ.l32 u),!(((u.length:Int) != 32)),!(((k.length:Int) != 32))]):=by kernel_rfl
theorem alY (φ:Fh) (k u:List UInt8):AL (An Tryz.prog (GR φ) (nh φ) [9,13,17,21] [false,false,false] [] (mask 42) 200 42 [.str k,.str u] [] Tryz.prog.globals.size)=some (.tup [.str (φ.ladE k u),.int .i64 0],[!(φ.ladE k u == Dq),(φ.l32 k && φ.l32 u),!(((u.length:Int) != 32)),!(((k.length:Int) != 32))]):=by kernel_rfl
theorem akm (k u:List UInt8):(Au Tryz.prog (nh Bf) (mask 42) 200 42 [.str k,.str u] [] Tryz.prog.globals.size).map (·.1)=some (.tup [.str (shV ladE k u),.int .i64 (shR ladE k u)]):=by
 unfold shV shR
 cases hk:isLen k 32
 ·exact Aj (Fs _) (amK Bf k u) (by simp [Am,Rg hk])
 cases hu:isLen u 32
 ·exact Aj (Fs _) (anj Bf k u) (by simp [Am,JN hk,Rg hu])
 cases hz:(ladE k u == Dq)
 ·exact Aj (Fs _) (alY Bf k u) (by simp only [Am,Bf,hk,hu,hz,JN hk,JN hu]; rfl)
 ·exact Aj (Fs _) (ant Bf k u) (by simp only [Am,Bf,hk,hu,hz,JN hk,JN hu]; rfl)
def g42:List AVal→Option EffA
 | [.str a,.str b]=>some (.pure (.tup [.str (shV ladE a b),.int .i64 (shR ladE a b)]))
 | _=>none
theorem ag6:Ai Tryz.prog (Ag 42 g42):=Ak fun args e he=>by
 unfold g42 at he
 split at he
 ·rename_i a b
  cases he
  exact Ac SM AB (akm a b) rfl rfl
 ·cases he
theorem anA (φ:Fh) (k u:List UInt8):AL (An Tryz.prog (GR φ) (nh φ) [9] [true] [] (mask 47) 200 47 [.str k,.str u] [] Tryz.prog.globals.size)=some (.tup [.str [],.int .i64 2],[((k.length:Int) != 32)]):=by kernel_rfl
theorem amq (φ:Fh) (k u:List UInt8):AL (An Tryz.prog (GR φ) (nh φ) [9,13] [false,true] [] (mask 47) 200 47 [.str k,.str u] [] Tryz.prog.globals.size)=some (.tup [.str [],.int .i64 2],[((u.length:Int) != 32),!(((k.length:Int) != 32))]):=by kernel_rfl
theorem amJ (φ:Fh) (k u:List UInt8):AL (An Tryz.prog (GR φ) (nh φ) [9,13,17,21] [false,false,true] [] (mask 47) 200 47 [.str k,.str u] [] Tryz.prog.globals.size)=some (.tup [.str [],.int .i64 30],[φ.ladP k u == Dq,(φ.l32 k && φ.l32 u),!(((u.length:Int) != 32)),!(((k.length:Int) != 32))]):=by kernel_rfl
theorem amN (φ:Fh) (k u:List UInt8):AL (An Tryz.prog (GR φ) (nh φ) [9,13,17,21] [false,false,false] [] (mask 47) 200 47 [.str k,.str u] [] Tryz.prog.globals.size)=some (.tup [.str (φ.ladP k u),.int .i64 0],[!(φ.ladP k u == Dq),(φ.l32 k && φ.l32 u),!(((u.length:Int) != 32)),!(((k.length:Int) != 32))]):=by kernel_rfl
theorem akQ (k u:List UInt8):(Au Tryz.prog (nh Bf) (mask 47) 200 47 [.str k,.str u] [] Tryz.prog.globals.size).map (·.1)=some (.tup [.str (shV ladP k u),.int .i64 (shR ladP k u)]):=by
 unfold shV shR
 cases hk:isLen k 32
 ·exact Aj (Fs _) (anA Bf k u) (by simp [Am,Rg hk])
 cases hu:isLen u 32
 ·exact Aj (Fs _) (amq Bf k u) (by simp [Am,JN hk,Rg hu])
 cases hz:(ladP k u == Dq)
 ·exact Aj (Fs _) (amN Bf k u) (by simp only [Am,Bf,hk,hu,hz,JN hk,JN hu]; rfl)
 ·exact Aj (Fs _) (amJ Bf k u) (by simp only [Am,Bf,hk,hu,hz,JN hk,JN hu]; rfl)
def g47:List AVal→Option EffA
 | [.str a,.str b]=>some (.pure (.tup [.str (shV ladP a b),.int .i64 (shR ladP a b)]))
 | _=>none
theorem aec:Ai Tryz.prog (Ag 47 g47):=Ak fun args e he=>by
 unfold g47 at he
 split at he
 ·rename_i a b
  cases he
  exact Ac SM AB (akQ a b) rfl rfl
 ·cases he
theorem al1 (φ:Fh) (k:List UInt8):AL (An Tryz.prog (GR φ) (nh φ) [7] [true] [] (mask 20) 200 20 [.str k] [] Tryz.prog.globals.size)=some (.tup [.str [],.int .i64 2],[((k.length:Int) != 32)]):=by kernel_rfl
theorem alE (φ:Fh) (k:List UInt8):AL (An Tryz.prog (GR φ) (nh φ) [7,12] [false] [] (mask 20) 200 20 [.str k] [] Tryz.prog.globals.size)=some (.tup [.str (φ.ladE k C7),.int .i64 0],[(φ.l32 k && φ.l32 C7),!(((k.length:Int) != 32))]):=by kernel_rfl
theorem Wa (k:List UInt8):(Au Tryz.prog (nh Bf) (mask 20) 200 20 [.str k] [] Tryz.prog.globals.size).map (·.1)=some (.tup [.str (puV ladE k),.int .i64 (puR k)]):=by
 unfold puV puR
 cases hk:isLen k 32
 ·exact Aj (Fs _) (al1 Bf k) (by simp [Am,Rg hk])
 ·exact Aj (Fs _) (alE Bf k) (by simp only [Am,Bf,hk,JN hk]; rfl)
def g20:List AVal→Option EffA
 | [.str a]=>some (.pure (.tup [.str (puV ladE a),.int .i64 (puR a)]))
 | _=>none
theorem M9:Ai Tryz.prog (Ag 20 g20):=Ak fun args e he=>by
 unfold g20 at he
 split at he
 ·rename_i a
  cases he
  exact Ac SM AB (Wa a) rfl rfl
 ·cases he
theorem v7a (φ:Fh) (k:List UInt8):AL (An Tryz.prog (GR φ) (nh φ) [7] [true] [] (mask 7) 200 7 [.str k] [] Tryz.prog.globals.size)=some (.tup [.str [],.int .i64 2],[((k.length:Int) != 32)]):=by kernel_rfl
theorem v7b (φ:Fh) (k:List UInt8):AL (An Tryz.prog (GR φ) (nh φ) [7,14] [false] [] (mask 7) 200 7 [.str k] [] Tryz.prog.globals.size)=some (.tup [.str (φ.ladP k C7),.int .i64 0],[(φ.l32 k && φ.l32 C7),!(((k.length:Int) != 32))]):=by kernel_rfl
theorem aes (k:List UInt8):(Au Tryz.prog (nh Bf) (mask 7) 200 7 [.str k] [] Tryz.prog.globals.size).map (·.1)=some (.tup [.str (puV ladP k),.int .i64 (puR k)]):=by
 unfold puV puR
 cases hk:isLen k 32
 ·exact Aj (Fs _) (v7a Bf k) (by simp [Am,Rg hk])
 ·exact Aj (Fs _) (v7b Bf k) (by simp only [Am,Bf,hk,JN hk]; rfl)
def g7:List AVal→Option EffA
 | [.str a]=>some (.pure (.tup [.str (puV ladP a),.int .i64 (puR a)]))
 | _=>none
theorem aiI:Ai Tryz.prog (Ag 7 g7):=Ak fun args e he=>by
 unfold g7 at he
 split at he
 ·rename_i a
  cases he
  exact Ac SM AB (aes a) rfl rfl
 ·cases he
end Go.Proofs.YtcplgmgpagekfaaGreatDoor
namespace Go.Proofs.YtcplgmgpagekfaaGreatDoor
open Go Go.Eng Go.Num
structure Fk where
 shV:List UInt8→List UInt8→List UInt8
 shR:List UInt8→List UInt8→Int
 shVd:List UInt8→List UInt8→List UInt8
 shRd:List UInt8→List UInt8→Int
 puV:List UInt8→List UInt8
 puVd:List UInt8→List UInt8
 puR:List UInt8→Int
 l32:List UInt8→Bool
 ofN:List UInt8→N16
 bytesN:N16→List UInt8
def NI:Fk:=⟨shV ladE,shR ladE,shV ladP,shR ladP,puV ladE,puV ladP,puR,fun s=>isLen s 32,ofP,bytesN⟩
def k42 (φ:Fk):List AVal→Option EffA
 | [.str a,.str b]=>some (.pure (.tup [.str (φ.shV a b),.int .i64 (φ.shR a b)]))
 | _=>none
theorem aev:Ai Tryz.prog (Ag 42 (k42 NI)):=Ak fun args e he=>by
 unfold k42 at he
 split at he
 ·rename_i a b
  cases he
  exact ag6 42 [(.str a),(.str b)] _ rfl
 ·cases he
def k47 (φ:Fk):List AVal→Option EffA
 | [.str a,.str b]=>some (.pure (.tup [.str (φ.shVd a b),.int .i64 (φ.shRd a b)]))
 | _=>none
theorem ag2:Ai Tryz.prog (Ag 47 (k47 NI)):=Ak fun args e he=>by
 unfold k47 at he
 split at he
 ·rename_i a b
  cases he
  exact aec 47 [(.str a),(.str b)] _ rfl
 ·cases he
def k20 (φ:Fk):List AVal→Option EffA
 | [.str a]=>some (.pure (.tup [.str (φ.puV a),.int .i64 (φ.puR a)]))
 | _=>none
theorem ahm:Ai Tryz.prog (Ag 20 (k20 NI)):=Ak fun args e he=>by
 unfold k20 at he
 split at he
 ·rename_i a
  cases he
  exact M9 20 [(.str a)] _ rfl
 ·cases he
def k7 (φ:Fk):List AVal→Option EffA
 | [.str a]=>some (.pure (.tup [.str (φ.puVd a),.int .i64 (φ.puR a)]))
 | _=>none
theorem Wl:Ai Tryz.prog (Ag 7 (k7 NI)):=Ak fun args e he=>by
 unfold k7 at he
 split at he
 ·rename_i a
  cases he
  exact aiI 7 [(.str a)] _ rfl
 ·cases he
end Go.Proofs.YtcplgmgpagekfaaGreatDoor
namespace Go.Eng
open Go
theorem UW {v:AVal}(h:ltS 0 v=true):nmV v=[]:=by
 have h0:∀ n:Nat,Nat.ble (n+1) 0=false:=fun n=>rfl
 cases v <;> first | rfl | (simp only [ltS,h0] at h; done) | skip
 all_goals simp only [ltS,h0] at h
 all_goals first | cases h | skip
 all_goals (rename_i cs; cases cs <;> first | rfl | cases h)
theorem IQ:∀ {c:List AVal},ltL 0 c=true→c.flatMap nmV=[]
 | [],_=>rfl
 | v::c,h=>by
  simp only [ltL] at h
  cases hv:ltS 0 v <;> rw [hv] at h <;> simp only [cond_true,cond_false] at h
  ·cases h
  ·rw [List.flatMap_cons,UW hv,IQ h]; rfl
theorem Vb {G:Nat}{ns:List Nat}{v:AVal}(h:ltS 0 v=true):cnV G ns v=some v:=by
 have h0:∀ n:Nat,Nat.ble (n+1) 0=false:=fun n=>rfl
 cases v <;> first | rfl | (simp only [ltS,h0] at h; done) | skip
 all_goals simp only [ltS,h0] at h
 all_goals first | cases h | skip
 all_goals (rename_i cs; cases cs <;> first | rfl | cases h)
theorem IJ {G:Nat}{ns:List Nat}:∀ {c:List AVal},ltL 0 c=true→cnW G ns c=some c
 | [],_=>rfl
 | v::c,h=>by
  simp only [ltL] at h
  cases hv:ltS 0 v <;> rw [hv] at h <;> simp only [cond_true,cond_false] at h
  ·cases h
  ·simp only [cnW,Vb hv,IJ h]
theorem UC {G:Nat}{ns:List Nat}{v:AVal}(h:ltS 0 v=true):unS G ns v=some v:=by
 have h0:∀ n:Nat,Nat.ble (n+1) 0=false:=fun n=>rfl
 cases v <;> first | rfl | (simp only [ltS,h0] at h; done) | skip
 all_goals simp only [ltS,h0] at h
 all_goals first | cases h | skip
 all_goals (rename_i cs; cases cs <;> first | rfl | cases h)
theorem Md {G:Nat}{ns:List Nat}:∀ {c:List AVal},ltL 0 c=true→unW G ns c=some c
 | [],_=>rfl
 | v::c,h=>by
  simp only [ltL] at h
  cases hv:ltS 0 v <;> rw [hv] at h <;> simp only [cond_true,cond_false] at h
  ·cases h
  ·simp only [unW,UC hv,Md h]
theorem CV {P:Program}{cs:CS}{g nn F:Nat}{f:FuncId}{n base G:Nat}{xs c c' ct:List AVal}{v:AVal}{H:HL}(hG:P.globals.size=G)
  (hr:Ea [G] (Au P cs nn F f (.ptr G 0::xs) [(g,.cells true ct),(G,.cells false c)] (G+1))=some (v,[some (.cells false c')]))
  (h0:Aa H g=some (.cells true ct)) (hn:Aa H n=some (.cells false c)) (hct:ltL 0 ct=true) (hx:ltL 0 xs=true) (hc:ltL 0 c=true) (hc':ltL 0 c'=true) (hv:unS G [n] v=some v) :
  (Iu P cs g nn F f 1 1 (.ptr n 0::xs)).app base H=some (v,AX H n (.cells false c')):=by
 have hns:reach (Aa H) (.ptr n 0::xs)=[n]:=by
  unfold reach
  simp only [List.flatMap_cons,IQ hx]
  have e1:addN [] (nmV (.ptr n 0)++[])=[n]:=rfl
  rw [e1]
  have e2:[n].flatMap (XS (Aa H))=[]:=by
   simp only [List.flatMap_cons,List.flatMap_nil,XS,hn,IQ hc,List.append_nil]
  rw [e2]
  show addN [n] ([n].flatMap (XS (Aa H)))=[n]
  rw [e2]; rfl
 have hb:blD G (Aa H) [n] [n] 0=some [(G,.cells false c)]:=by
  unfold blD
  rw [hn]
  simp only [blD,IJ hc,Nat.add_zero]
 have hcn:cnW G [n] (.ptr n 0::xs)=some (.ptr G 0::xs):=by
  have e:cnV G [n] (.ptr n 0)=some (.ptr G 0):=by
   have:Kh n [n] 0=some 0:=by
    unfold Kh
    simp
   unfold cnV cnS
   simp only [this,Nat.add_zero]
  unfold cnW
  rw [e,IJ hx]
 have hk:bkL G [n] [n] [some (.cells false c')]=some [(n,some (.cells false c'))]:=by
  simp only [bkL,Md hc']
 exact Hy (ns:=[n]) (m:=1) (k:=1) hr h0 hct rfl hG hns rfl hcn hb hv hk
end Go.Eng
