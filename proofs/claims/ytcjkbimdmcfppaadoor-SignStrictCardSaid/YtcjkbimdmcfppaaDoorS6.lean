/- Texts Num9, Num10, Num11, Num12, Prime, NumF, Mo1, Fp, Mo9, Num6: what they show that this claim uses. -/
import Derived.Test.YtcjkbimdmcfppaaDoorS5
import Derived.WalkKit
set_option maxRecDepth 100000
set_option maxHeartbeats 1000000
set_option linter.unusedVariables false
set_option linter.unusedSimpArgs false
namespace Go.Num
open Go Go.Eng
def E5.val (a:E5):Nat:=a.x0.toNat+2251799813685248 * a.x1.toNat+5070602400912917605986812821504 * a.x2.toNat+11417981541647679048466287755595961091061972992 * a.x3.toNat+25711008708143844408671393477458601640355247900524685364822016 * a.x4.toNat
def E5.ok (a:E5):Prop:=a.x0.toNat < 2251799813947392∧a.x1.toNat < 2251799813947392∧a.x2.toNat < 2251799813947392∧a.x3.toNat < 2251799813947392∧a.x4.toNat < 2251799813947392
theorem and51 (x:UInt64):(x &&& m51).toNat=x.toNat % 2251799813685248:=and_nat x 51 _ rfl
theorem shr51 (x:UInt64):(shr_u64 x 51).toNat=x.toNat / 2251799813685248:=shr_u64_nat x 51 (by omega)
theorem low_plus (x y:UInt64):((x &&& m51)+shr_u64 y 51).toNat=x.toNat % 2251799813685248+y.toNat / 2251799813685248:=by
 have hy:=y.toNat_lt
 rw [UInt64.toNat_add,and51,shr51]
 simp only [Nat.reducePow] at *
 omega
theorem n19:(19:UInt64).toNat=19:=rfl
theorem low_plus19 (x y:UInt64):((x &&& m51)+19 * shr_u64 y 51).toNat=x.toNat % 2251799813685248+19 * (y.toNat / 2251799813685248):=by
 have hy:=y.toNat_lt
 rw [UInt64.toNat_add,UInt64.toNat_mul,and51,shr51,n19]
 simp only [Nat.reducePow] at *
 omega
theorem carried_val (a:E5):(carriedE a).ok∧(carriedE a).val+Pq * (a.x4.toNat / 2251799813685248)=a.val:=by
 have h0:=a.x0.toNat_lt; have h1:=a.x1.toNat_lt; have h2:=a.x2.toNat_lt; have h3:=a.x3.toNat_lt; have h4:=a.x4.toNat_lt
 simp only [Nat.reducePow] at h0 h1 h2 h3 h4
 have e0:=low_plus19 a.x0 a.x4
 have e1:=low_plus a.x1 a.x0
 have e2:=low_plus a.x2 a.x1
 have e3:=low_plus a.x3 a.x2
 have e4:=low_plus a.x4 a.x3
 unfold E5.ok E5.val carriedE Pq
 simp only [e0,e1,e2,e3,e4]
 omega
theorem carried_ok (a:E5):(carriedE a).ok:=(carried_val a).1
theorem carried_mod (a:E5):(carriedE a).val % Pq=a.val % Pq:=by
 rw [← (carried_val a).2,Nat.add_mul_mod_self_left]
theorem add_nat (x y:UInt64) (h:x.toNat+y.toNat < 18446744073709551616):(x+y).toNat=x.toNat+y.toNat:=by
 rw [UInt64.toNat_add]
 exact Nat.mod_eq_of_lt h
theorem addE_val (a b:E5) (ha:a.ok) (hb:b.ok):(addE a b).ok∧(addE a b).val % Pq=(a.val+b.val) % Pq:=by
 refine ⟨carried_ok _,?_⟩
 unfold addE
 rw [carried_mod]
 unfold E5.ok at ha hb
 have e:E5.val ⟨a.x0+b.x0,a.x1+b.x1,a.x2+b.x2,a.x3+b.x3,a.x4+b.x4⟩=a.val+b.val:=by
  unfold E5.val
  rw [add_nat a.x0 b.x0 (by omega),add_nat a.x1 b.x1 (by omega),add_nat a.x2 b.x2 (by omega),add_nat a.x3 b.x3 (by omega),add_nat a.x4 b.x4 (by omega)]
  omega
 rw [e]
theorem sub_nat (x k y:UInt64) (h1:x.toNat+k.toNat < 18446744073709551616) (h2:y.toNat≤k.toNat):(x+k - y).toNat=x.toNat+k.toNat - y.toNat:=by
 rw [UInt64.toNat_sub,UInt64.toNat_add]
 simp only [Nat.reducePow]
 omega
theorem k0_nat:(4503599627370458:UInt64).toNat=4503599627370458:=rfl
theorem k1_nat:(4503599627370494:UInt64).toNat=4503599627370494:=rfl
theorem subE_val (a b:E5) (ha:a.ok) (hb:b.ok):(subE a b).ok∧(subE a b).val % Pq=(a.val+(2 * Pq - b.val)) % Pq∧b.val≤2 * Pq:=by
 unfold E5.ok at ha hb
 have hle:b.val≤2 * Pq:=by unfold E5.val Pq; omega
 refine ⟨carried_ok _,?_,hle⟩
 unfold subE
 rw [carried_mod]
 have e:E5.val ⟨a.x0+4503599627370458 - b.x0,a.x1+4503599627370494 - b.x1,a.x2+4503599627370494 - b.x2,a.x3+4503599627370494 - b.x3,a.x4+4503599627370494 - b.x4⟩=a.val+(2 * Pq - b.val):=by
  have hl:=hle
  unfold E5.val Pq at *
  rw [sub_nat a.x0 _ b.x0 (by rw [k0_nat]; omega) (by rw [k0_nat]; omega),sub_nat a.x1 _ b.x1 (by rw [k1_nat]; omega) (by rw [k1_nat]; omega),sub_nat a.x2 _ b.x2 (by rw [k1_nat]; omega) (by rw [k1_nat]; omega),sub_nat a.x3 _ b.x3 (by rw [k1_nat]; omega) (by rw [k1_nat]; omega),sub_nat a.x4 _ b.x4 (by rw [k1_nat]; omega) (by rw [k1_nat]; omega),k0_nat,k1_nat]
  omega
 rw [e]
def Wd.val (w:Wd):Nat:=18446744073709551616 * w.hi.toNat+w.lo.toNat
theorem plus_val (w:Wd) (a b:UInt64) (h:w.val+a.toNat * b.toNat < 340282366920938463463374607431768211456):(plusE w a b).val=w.val+a.toNat * b.toNat:=by
 have hm:=mulHi_nat a b
 have hs:=addStep w.lo (a * b) false
 have hz:bn false=0:=rfl
 have hc:=bn_le (cyO w.lo (a * b) false)
 have hl:=w.lo.toNat_lt
 have hh:=w.hi.toNat_lt
 have hl2:=(w.lo+a * b+bit64 false).toNat_lt
 unfold Wd.val plusE at *
 simp only
 rw [UInt64.toNat_add,UInt64.toNat_add,bit64_nat]
 generalize a.toNat * b.toNat=p at *
 simp only [Nat.reducePow] at *
 omega
theorem shift_val (w:Wd) (h:w.val < 41538374868278621028243970633760768):(shiftE w).toNat=w.val / 2251799813685248:=by
 have hl:=w.lo.toNat_lt
 have hh:=w.hi.toNat_lt
 unfold shiftE
 rw [UInt64.toNat_or,shl_u64_nat _ 13 (by omega),shr51]
 unfold Wd.val at *
 simp only [Nat.reducePow] at *
 have h1:w.hi.toNat * 8192 % 18446744073709551616=w.hi.toNat * 8192:=Nat.mod_eq_of_lt (by omega)
 rw [h1]
 have h2:w.lo.toNat / 2251799813685248 < 2 ^ 13:=by simp only [Nat.reducePow]; omega
 have:=Nat.shiftLeft_add_eq_or_of_lt h2 w.hi.toNat
 rw [Nat.shiftLeft_eq] at this
 simp only [Nat.reducePow] at this
 rw [← this]
 omega
theorem lo_val (w:Wd):(w.lo &&& m51).toNat=w.val % 2251799813685248:=by
 rw [and51]
 unfold Wd.val
 have:18446744073709551616 * w.hi.toNat=2251799813685248 * (8192 * w.hi.toNat):=by omega
 omega
theorem mul19 (y:UInt64) (h:y.toNat < 2251799813947392):(19 * y).toNat=19 * y.toNat:=by
 rw [UInt64.toNat_mul,n19]
 simp only [Nat.reducePow]
 omega
theorem prod_le {x y B C:Nat}(hx:x≤B) (hy:y≤C):x * y≤B * C:=Nat.mul_le_mul hx hy
theorem five_val (w:Wd) (a0 a1 a2 a3 a4 b0 b1 b2 b3 b4:UInt64) (hw:w.val=0) (h0:a0.toNat * b0.toNat≤96342400000000000000000000000000) (h1:a1.toNat * b1.toNat≤96342400000000000000000000000000) (h2:a2.toNat * b2.toNat≤96342400000000000000000000000000) (h3:a3.toNat * b3.toNat≤96342400000000000000000000000000) (h4:a4.toNat * b4.toNat≤96342400000000000000000000000000) :
  (plusE (plusE (plusE (plusE (plusE w a0 b0) a1 b1) a2 b2) a3 b3) a4 b4).val=a0.toNat * b0.toNat+a1.toNat * b1.toNat+a2.toNat * b2.toNat+a3.toNat * b3.toNat+a4.toNat * b4.toNat:=by
 have e0:=plus_val w a0 b0 (by omega)
 have e1:=plus_val (plusE w a0 b0) a1 b1 (by omega)
 have e2:=plus_val (plusE (plusE w a0 b0) a1 b1) a2 b2 (by omega)
 have e3:=plus_val (plusE (plusE (plusE w a0 b0) a1 b1) a2 b2) a3 b3 (by omega)
 have e4:=plus_val (plusE (plusE (plusE (plusE w a0 b0) a1 b1) a2 b2) a3 b3) a4 b4 (by omega)
 omega
theorem mulE_val (a b:E5) (ha:a.ok) (hb:b.ok):(mulE a b).ok∧(mulE a b).val % Pq=a.val * b.val % Pq:=by
 refine ⟨carried_ok _,?_⟩
 unfold E5.ok at ha hb
 obtain ⟨a0,a1,a2,a3,a4⟩:=a
 obtain ⟨b0,b1,b2,b3,b4⟩:=b
 simp only at ha hb
 obtain ⟨ha0,ha1,ha2,ha3,ha4⟩:=ha
 obtain ⟨hb0,hb1,hb2,hb3,hb4⟩:=hb
 have hp:∀ x y:UInt64,x.toNat < 2251799813947392→y.toNat < 2251799813947392→x.toNat * y.toNat≤96342400000000000000000000000000:=fun x y hx hy=>Nat.le_trans (prod_le (Nat.le_of_lt hx) (Nat.le_of_lt hy)) (by omega)
 have hq:∀ x y:UInt64,x.toNat < 2251799813947392→y.toNat < 2251799813947392→x.toNat * (19 * y).toNat≤96342400000000000000000000000000∧x.toNat * (19 * y).toNat=19 * (x.toNat * y.toNat):=fun x y hx hy=>by
  rw [mul19 y hy]
  refine ⟨Nat.le_trans (prod_le (Nat.le_of_lt hx) (Nat.mul_le_mul_left 19 (Nat.le_of_lt hy))) (by omega),?_⟩
  rw [Nat.mul_left_comm]
 have hz:zeroWd.val=0:=rfl
 have w0:=five_val zeroWd a0 a1 a2 a3 a4 b0 (19 * b4) (19 * b3) (19 * b2) (19 * b1) hz (hp _ _ ha0 hb0) (hq _ _ ha1 hb4).1 (hq _ _ ha2 hb3).1 (hq _ _ ha3 hb2).1 (hq _ _ ha4 hb1).1
 have w1:=five_val zeroWd a0 a1 a2 a3 a4 b1 b0 (19 * b4) (19 * b3) (19 * b2) hz (hp _ _ ha0 hb1) (hp _ _ ha1 hb0) (hq _ _ ha2 hb4).1 (hq _ _ ha3 hb3).1 (hq _ _ ha4 hb2).1
 have w2:=five_val zeroWd a0 a1 a2 a3 a4 b2 b1 b0 (19 * b4) (19 * b3) hz (hp _ _ ha0 hb2) (hp _ _ ha1 hb1) (hp _ _ ha2 hb0) (hq _ _ ha3 hb4).1 (hq _ _ ha4 hb3).1
 have w3:=five_val zeroWd a0 a1 a2 a3 a4 b3 b2 b1 b0 (19 * b4) hz (hp _ _ ha0 hb3) (hp _ _ ha1 hb2) (hp _ _ ha2 hb1) (hp _ _ ha3 hb0) (hq _ _ ha4 hb4).1
 have w4:=five_val zeroWd a0 a1 a2 a3 a4 b4 b3 b2 b1 b0 hz (hp _ _ ha0 hb4) (hp _ _ ha1 hb3) (hp _ _ ha2 hb2) (hp _ _ ha3 hb1) (hp _ _ ha4 hb0)
 rw [(hq _ _ ha1 hb4).2,(hq _ _ ha2 hb3).2,(hq _ _ ha3 hb2).2,(hq _ _ ha4 hb1).2] at w0
 rw [(hq _ _ ha2 hb4).2,(hq _ _ ha3 hb3).2,(hq _ _ ha4 hb2).2] at w1
 rw [(hq _ _ ha3 hb4).2,(hq _ _ ha4 hb3).2] at w2
 rw [(hq _ _ ha4 hb4).2] at w3
 have b4':=hp _ _ ha0 hb4
 have p00:=hp _ _ ha0 hb0; have p01:=hp _ _ ha0 hb1; have p02:=hp _ _ ha0 hb2; have p03:=hp _ _ ha0 hb3
 have p10:=hp _ _ ha1 hb0; have p11:=hp _ _ ha1 hb1; have p12:=hp _ _ ha1 hb2; have p13:=hp _ _ ha1 hb3; have p14:=(hq _ _ ha1 hb4)
 have p20:=hp _ _ ha2 hb0; have p21:=hp _ _ ha2 hb1; have p22:=hp _ _ ha2 hb2; have p23:=(hq _ _ ha2 hb3); have p24:=(hq _ _ ha2 hb4)
 have p30:=hp _ _ ha3 hb0; have p31:=hp _ _ ha3 hb1; have p32:=(hq _ _ ha3 hb2); have p33:=(hq _ _ ha3 hb3); have p34:=(hq _ _ ha3 hb4)
 have p40:=hp _ _ ha4 hb0; have p41:=(hq _ _ ha4 hb1); have p42:=(hq _ _ ha4 hb2); have p43:=(hq _ _ ha4 hb3); have p44:=(hq _ _ ha4 hb4)
 have q14:=p14.1; have q23:=p23.1; have q24:=p24.1; have q32:=p32.1; have q33:=p33.1; have q34:=p34.1; have q41:=p41.1; have q42:=p42.1; have q43:=p43.1; have q44:=p44.1
 rw [p14.2] at q14; rw [p23.2] at q23; rw [p24.2] at q24; rw [p32.2] at q32; rw [p33.2] at q33; rw [p34.2] at q34; rw [p41.2] at q41; rw [p42.2] at q42; rw [p43.2] at q43; rw [p44.2] at q44
 have ex:E5.val ⟨a0,a1,a2,a3,a4⟩ * E5.val ⟨b0,b1,b2,b3,b4⟩ =
   (a0.toNat * b0.toNat+19 * (a1.toNat * b4.toNat)+19 * (a2.toNat * b3.toNat)+19 * (a3.toNat * b2.toNat)+19 * (a4.toNat * b1.toNat))
   + 2251799813685248 * (a0.toNat * b1.toNat+a1.toNat * b0.toNat+19 * (a2.toNat * b4.toNat)+19 * (a3.toNat * b3.toNat)+19 * (a4.toNat * b2.toNat))
   + 5070602400912917605986812821504 * (a0.toNat * b2.toNat+a1.toNat * b1.toNat+a2.toNat * b0.toNat+19 * (a3.toNat * b4.toNat)+19 * (a4.toNat * b3.toNat))
   + 11417981541647679048466287755595961091061972992 * (a0.toNat * b3.toNat+a1.toNat * b2.toNat+a2.toNat * b1.toNat+a3.toNat * b0.toNat+19 * (a4.toNat * b4.toNat))
   + 25711008708143844408671393477458601640355247900524685364822016 * (a0.toNat * b4.toNat+a1.toNat * b3.toNat+a2.toNat * b2.toNat+a3.toNat * b1.toNat+a4.toNat * b0.toNat)
   + Pq * (a1.toNat * b4.toNat+a2.toNat * b3.toNat+a3.toNat * b2.toNat+a4.toNat * b1.toNat+2251799813685248 * (a2.toNat * b4.toNat+a3.toNat * b3.toNat+a4.toNat * b2.toNat)+5070602400912917605986812821504 * (a3.toNat * b4.toNat+a4.toNat * b3.toNat)+11417981541647679048466287755595961091061972992 * (a4.toNat * b4.toNat)):=by
  unfold E5.val Pq
  simp only
  generalize a0.toNat=u0; generalize a1.toNat=u1; generalize a2.toNat=u2; generalize a3.toNat=u3; generalize a4.toNat=u4
  generalize b0.toNat=v0; generalize b1.toNat=v1; generalize b2.toNat=v2; generalize b3.toNat=v3; generalize b4.toNat=v4
  grind
 rw [ex,Nat.add_mul_mod_self_left]
 unfold mulE
 rw [carried_mod]
 unfold rowE
 simp only
 generalize hW0:plusE (plusE (plusE (plusE (plusE zeroWd a0 b0) a1 (19 * b4)) a2 (19 * b3)) a3 (19 * b2)) a4 (19 * b1)=W0 at *
 generalize hW1:plusE (plusE (plusE (plusE (plusE zeroWd a0 b1) a1 b0) a2 (19 * b4)) a3 (19 * b3)) a4 (19 * b2)=W1 at *
 generalize hW2:plusE (plusE (plusE (plusE (plusE zeroWd a0 b2) a1 b1) a2 b0) a3 (19 * b4)) a4 (19 * b3)=W2 at *
 generalize hW3:plusE (plusE (plusE (plusE (plusE zeroWd a0 b3) a1 b2) a2 b1) a3 b0) a4 (19 * b4)=W3 at *
 generalize hW4:plusE (plusE (plusE (plusE (plusE zeroWd a0 b4) a1 b3) a2 b2) a3 b1) a4 b0=W4' at *
 rw [← w0,← w1,← w2,← w3,← w4]
 have l0:W0.val≤481712000000000000000000000000000:=by omega
 have l1:W1.val≤481712000000000000000000000000000:=by omega
 have l2:W2.val≤481712000000000000000000000000000:=by omega
 have l3:W3.val≤481712000000000000000000000000000:=by omega
 have l4:W4'.val≤25353013000000000000000000000000:=by
  have r:∀ x y:UInt64,x.toNat < 2251799813947392→y.toNat < 2251799813947392→x.toNat * y.toNat≤5070602600000000000000000000000:=fun x y hx hy=>Nat.le_trans (prod_le (Nat.le_of_lt hx) (Nat.le_of_lt hy)) (by omega)
  have r1:=r _ _ ha0 hb4; have r2:=r _ _ ha1 hb3; have r3:=r _ _ ha2 hb2; have r4:=r _ _ ha3 hb1; have r5:=r _ _ ha4 hb0
  omega
 clear w0 w1 w2 w3 w4 ex p00 p01 p02 p03 p10 p11 p12 p13 p14 p20 p21 p22 p23 p24 p30 p31 p32 p33 p34 p40 p41 p42 p43 p44 q14 q23 q24 q32 q33 q34 q41 q42 q43 q44 hp hq b4'
 have s0:=shift_val W0 (by omega)
 have s1:=shift_val W1 (by omega)
 have s2:=shift_val W2 (by omega)
 have s3:=shift_val W3 (by omega)
 have s4:=shift_val W4' (by omega)
 have t0:=lo_val W0
 have t1:=lo_val W1
 have t2:=lo_val W2
 have t3:=lo_val W3
 have t4:=lo_val W4'
 have c0:((W0.lo &&& m51)+19 * shiftE W4').toNat=W0.val % 2251799813685248+19 * (W4'.val / 2251799813685248):=by
  rw [UInt64.toNat_add,UInt64.toNat_mul,n19,t0,s4]
  simp only [Nat.reducePow]
  omega
 have c1:=add_nat (W1.lo &&& m51) (shiftE W0) (by omega)
 have c2:=add_nat (W2.lo &&& m51) (shiftE W1) (by omega)
 have c3:=add_nat (W3.lo &&& m51) (shiftE W2) (by omega)
 have c4:=add_nat (W4'.lo &&& m51) (shiftE W3) (by omega)
 have fin:E5.val ⟨(W0.lo &&& m51)+19 * shiftE W4',(W1.lo &&& m51)+shiftE W0,(W2.lo &&& m51)+shiftE W1,(W3.lo &&& m51)+shiftE W2,(W4'.lo &&& m51)+shiftE W3⟩+Pq * (W4'.val / 2251799813685248)=W0.val+2251799813685248 * W1.val+5070602400912917605986812821504 * W2.val+11417981541647679048466287755595961091061972992 * W3.val+25711008708143844408671393477458601640355247900524685364822016 * W4'.val:=by
  unfold E5.val Pq
  simp only
  rw [c0,c1,c2,c3,c4,s0,s1,s2,s3,t1,t2,t3,t4]
  omega
 rw [← fin,Nat.add_mul_mod_self_left]
end Go.Num
namespace Go.Num
open Go Go.Eng
def E5.red (a:E5):Prop:=a.x0.toNat < 2251799813685248∧a.x1.toNat < 2251799813685248∧a.x2.toNat < 2251799813685248∧a.x3.toNat < 2251799813685248∧a.x4.toNat < 2251799813685248
theorem E5.ext_val {a b:E5}(ha:a.red) (hb:b.red) (h:a.val=b.val):a=b:=by
 obtain ⟨a0,a1,a2,a3,a4⟩:=a
 obtain ⟨b0,b1,b2,b3,b4⟩:=b
 unfold E5.red at ha hb
 unfold E5.val at h
 simp only at ha hb h
 have e0:a0=b0:=UInt64.toNat_inj.1 (by omega)
 have e1:a1=b1:=UInt64.toNat_inj.1 (by omega)
 have e2:a2=b2:=UInt64.toNat_inj.1 (by omega)
 have e3:a3=b3:=UInt64.toNat_inj.1 (by omega)
 have e4:a4=b4:=UInt64.toNat_inj.1 (by omega)
 rw [e0,e1,e2,e3,e4]
theorem tail_val (b:E5) (c:UInt64) (hc:c.toNat≤1) (h0:b.x0.toNat < 2251799813947392) (h1:b.x1.toNat < 2251799813947392) (h2:b.x2.toNat < 2251799813947392) (h3:b.x3.toNat < 2251799813947392) (h4:b.x4.toNat < 2251799813947392) :
  (tailE b c).red∧(tailE b c).val=(b.val+19 * c.toNat) % 57896044618658097711785492504343953926634992332820282019728792003956564819968:=by
 have e0:(b.x0+19 * c).toNat=b.x0.toNat+19 * c.toNat:=by
  rw [UInt64.toNat_add,UInt64.toNat_mul,n19]
  simp only [Nat.reducePow]
  omega
 have st:∀ x y:UInt64,x.toNat < 2251799813947392→(x+shr_u64 y 51).toNat=x.toNat+y.toNat / 2251799813685248:=fun x y hx=>by
  have hy:=y.toNat_lt
  simp only [Nat.reducePow] at hy
  rw [add_nat _ _ (by rw [shr51]; omega),shr51]
 have e1:=st b.x1 (b.x0+19 * c) h1
 have e2:=st b.x2 (b.x1+shr_u64 (b.x0+19 * c) 51) h2
 have e3:=st b.x3 (b.x2+shr_u64 (b.x1+shr_u64 (b.x0+19 * c) 51) 51) h3
 have e4:=st b.x4 (b.x3+shr_u64 (b.x2+shr_u64 (b.x1+shr_u64 (b.x0+19 * c) 51) 51) 51) h4
 unfold E5.red E5.val tailE
 simp only [and51]
 rw [e4,e3,e2,e1,e0]
 refine ⟨by omega,?_⟩
 omega
theorem top_val (b:E5) (h0:b.x0.toNat < 2251799813947392) (h1:b.x1.toNat < 2251799813947392) (h2:b.x2.toNat < 2251799813947392) (h3:b.x3.toNat < 2251799813947392) (h4:b.x4.toNat < 2251799813947392) :
  (topE b).toNat=(b.val+19) / 57896044618658097711785492504343953926634992332820282019728792003956564819968:=by
 have e0:(b.x0+19).toNat=b.x0.toNat+19:=by
  rw [UInt64.toNat_add,n19]
  simp only [Nat.reducePow]
  omega
 have st:∀ x y:UInt64,x.toNat < 2251799813947392→(x+shr_u64 y 51).toNat=x.toNat+y.toNat / 2251799813685248:=fun x y hx=>by
  have hy:=y.toNat_lt
  simp only [Nat.reducePow] at hy
  rw [add_nat _ _ (by rw [shr51]; omega),shr51]
 unfold topE
 rw [shr51,st _ _ h4,st _ _ h3,st _ _ h2,st _ _ h1,e0]
 unfold E5.val
 omega
theorem reduced_val (a:E5):(reducedE a).red∧(reducedE a).val=a.val % Pq:=by
 have o1:=carried_ok a
 obtain ⟨o2,v2⟩:=carried_val (carriedE a)
 have m2:=carried_mod (carriedE a)
 have m1:=carried_mod a
 have hb:=low_plus19 (carriedE a).x0 (carriedE a).x4
 have hb1:=low_plus (carriedE a).x1 (carriedE a).x0
 have hb2:=low_plus (carriedE a).x2 (carriedE a).x1
 have hb3:=low_plus (carriedE a).x3 (carriedE a).x2
 have hb4:=low_plus (carriedE a).x4 (carriedE a).x3
 have hv:(carriedE (carriedE a)).val < 57896044618658097711785492504343953926634992332820282019728792003956564819968+57896044618658097711785492504343953926634992332820282019728792003956564819930:=by
  unfold E5.ok at o1
  have d:carriedE (carriedE a)=⟨((carriedE a).x0 &&& m51)+19 * shr_u64 (carriedE a).x4 51,((carriedE a).x1 &&& m51)+shr_u64 (carriedE a).x0 51,((carriedE a).x2 &&& m51)+shr_u64 (carriedE a).x1 51,((carriedE a).x3 &&& m51)+shr_u64 (carriedE a).x2 51,((carriedE a).x4 &&& m51)+shr_u64 (carriedE a).x3 51⟩:=rfl
  rw [d]
  generalize carriedE a=u at *
  unfold E5.val
  simp only
  rw [hb,hb1,hb2,hb3,hb4]
  omega
 obtain ⟨q0,q1,q2,q3,q4⟩:=o2
 have ht:=top_val _ q0 q1 q2 q3 q4
 have htop:(topE (carriedE (carriedE a))).toNat≤1:=by
  rw [ht]
  omega
 obtain ⟨r1,r2⟩:=tail_val _ (topE (carriedE (carriedE a))) htop q0 q1 q2 q3 q4
 refine ⟨r1,?_⟩
 have hm:(carriedE (carriedE a)).val % Pq=a.val % Pq:=m2.trans m1
 rw [← hm]
 unfold reducedE
 simp only
 rw [r2,ht]
 generalize (carriedE (carriedE a)).val=v at *
 unfold Pq
 have h2:(v+19) / 57896044618658097711785492504343953926634992332820282019728792003956564819968=0 ∨ (v+19) / 57896044618658097711785492504343953926634992332820282019728792003956564819968=1:=by omega
 rcases h2 with h2 | h2 <;> rw [h2] <;> omega
theorem leNat_range (f:Nat→UInt8) (V:Nat):∀ n,(∀ i,i < n→(f i).toNat=V / 256 ^ i % 256)→leNat ((List.range n).map f)=V % 256 ^ n
 | 0,_=>by simp [leNat,Nat.mod_one]
 | n+1,h=>by
  rw [List.range_succ,List.map_append,leNat_append,leNat_range f V n (fun i hi=>h i (by omega))]
  simp only [List.map_cons,List.map_nil,leNat,List.length_map,List.length_range]
  rw [h n (by omega),Nat.mul_zero,Nat.add_zero,Nat.pow_succ,Nat.mod_mul]
theorem shr_byte (x:UInt64) (n:Nat) (h:n < 64):((shr_u64 x n).toUInt8).toNat=x.toNat / 2 ^ n % 256:=by
 rw [toU8_nat,shr_u64_nat x n h]
theorem or_byte (x y:UInt64) (s:Nat) (hs:44≤s) (hs2:s < 51) (hx:x.toNat < 2251799813685248) (hy:y.toNat < 2251799813685248):((shr_u64 x s).toUInt8 ||| (shl_u64 y (51 - s)).toUInt8).toNat=(x.toNat / 2 ^ s+y.toNat * 2 ^ (51 - s)) % 256:=by
 rw [UInt8.toNat_or,toU8_nat,toU8_nat,shr_u64_nat x s (by omega),shl_u64_nat y (51 - s) (by omega)]
 have h1:x.toNat / 2 ^ s < 2 ^ (51 - s):=by
  apply Nat.div_lt_of_lt_mul
  rw [← Nat.pow_add,show s+(51 - s)=51 by omega]
  simpa using hx
 have hc:s=44 ∨ s=45 ∨ s=46 ∨ s=47 ∨ s=48 ∨ s=49 ∨ s=50:=by omega
 have h2:(x.toNat / 2 ^ s) % 256=x.toNat / 2 ^ s:=Nat.mod_eq_of_lt (by rcases hc with rfl | rfl | rfl | rfl | rfl | rfl | rfl <;> simp only [Nat.reducePow,Nat.reduceSub] at h1 <;> omega)
 rw [h2]
 have h3:y.toNat * 2 ^ (51 - s) % 18446744073709551616 % 256=(y.toNat % 2 ^ (8 - (51 - s))) * 2 ^ (51 - s):=by
  rcases hc with rfl | rfl | rfl | rfl | rfl | rfl | rfl <;> simp only [Nat.reducePow,Nat.reduceSub] <;> omega
 rw [h3]
 have:=Nat.shiftLeft_add_eq_or_of_lt h1 (y.toNat % 2 ^ (8 - (51 - s)))
 rw [Nat.shiftLeft_eq] at this
 rw [Nat.or_comm,← this]
 rcases hc with rfl | rfl | rfl | rfl | rfl | rfl | rfl <;> simp only [Nat.reducePow,Nat.reduceSub] at * <;> omega
set_option maxHeartbeats 4000000 in
theorem byteE_val (r:E5) (h:r.red) (i:Nat) (hi:i < 32):(byteE r i).toNat=r.val / 256 ^ i % 256:=by
 obtain ⟨r0,r1,r2,r3,r4⟩:=r
 unfold E5.red at h
 unfold E5.val
 simp only at h ⊢
 obtain ⟨h0,h1,h2,h3,h4⟩:=h
 have hc:i=0 ∨ i=1 ∨ i=2 ∨ i=3 ∨ i=4 ∨ i=5 ∨ i=6 ∨ i=7 ∨ i=8 ∨ i=9 ∨ i=10 ∨ i=11 ∨ i=12 ∨ i=13 ∨ i=14 ∨ i=15 ∨ i=16 ∨ i=17 ∨ i=18 ∨ i=19 ∨ i=20 ∨ i=21 ∨ i=22 ∨ i=23 ∨ i=24 ∨ i=25 ∨ i=26 ∨ i=27 ∨ i=28 ∨ i=29 ∨ i=30 ∨ i=31:=by omega
 have s:∀ (x:UInt64) (n:Nat),n < 64→((shr_u64 x n).toUInt8).toNat=x.toNat / 2 ^ n % 256:=shr_byte
 have o:∀ (x y:UInt64) (n:Nat),44≤n→n < 51→x.toNat < 2251799813685248→y.toNat < 2251799813685248→((shr_u64 x n).toUInt8 ||| (shl_u64 y (51 - n)).toUInt8).toNat=(x.toNat / 2 ^ n+y.toNat * 2 ^ (51 - n)) % 256:=or_byte
 rcases hc with rfl | rfl | rfl | rfl | rfl | rfl | rfl | rfl | rfl | rfl | rfl | rfl | rfl | rfl | rfl | rfl | rfl | rfl | rfl | rfl | rfl | rfl | rfl | rfl | rfl | rfl | rfl | rfl | rfl | rfl | rfl | rfl
 ·show ((shr_u64 r0 0).toUInt8).toNat=_; rw [s _ 0 (by omega)]; simp only [Nat.reducePow]; omega
 ·show ((shr_u64 r0 8).toUInt8).toNat=_; rw [s _ 8 (by omega)]; simp only [Nat.reducePow]; omega
 ·show ((shr_u64 r0 16).toUInt8).toNat=_; rw [s _ 16 (by omega)]; simp only [Nat.reducePow]; omega
 ·show ((shr_u64 r0 24).toUInt8).toNat=_; rw [s _ 24 (by omega)]; simp only [Nat.reducePow]; omega
 ·show ((shr_u64 r0 32).toUInt8).toNat=_; rw [s _ 32 (by omega)]; simp only [Nat.reducePow]; omega
 ·show ((shr_u64 r0 40).toUInt8).toNat=_; rw [s _ 40 (by omega)]; simp only [Nat.reducePow]; omega
 ·show ((shr_u64 r0 48).toUInt8 ||| (shl_u64 r1 3).toUInt8).toNat=_; rw [o _ _ 48 (by omega) (by omega) h0 h1]; simp only [Nat.reducePow,Nat.reduceSub]; omega
 ·show ((shr_u64 r1 5).toUInt8).toNat=_; rw [s _ 5 (by omega)]; simp only [Nat.reducePow]; omega
 ·show ((shr_u64 r1 13).toUInt8).toNat=_; rw [s _ 13 (by omega)]; simp only [Nat.reducePow]; omega
 ·show ((shr_u64 r1 21).toUInt8).toNat=_; rw [s _ 21 (by omega)]; simp only [Nat.reducePow]; omega
 ·show ((shr_u64 r1 29).toUInt8).toNat=_; rw [s _ 29 (by omega)]; simp only [Nat.reducePow]; omega
 ·show ((shr_u64 r1 37).toUInt8).toNat=_; rw [s _ 37 (by omega)]; simp only [Nat.reducePow]; omega
 ·show ((shr_u64 r1 45).toUInt8 ||| (shl_u64 r2 6).toUInt8).toNat=_; rw [o _ _ 45 (by omega) (by omega) h1 h2]; simp only [Nat.reducePow,Nat.reduceSub]; omega
 ·show ((shr_u64 r2 2).toUInt8).toNat=_; rw [s _ 2 (by omega)]; simp only [Nat.reducePow]; omega
 ·show ((shr_u64 r2 10).toUInt8).toNat=_; rw [s _ 10 (by omega)]; simp only [Nat.reducePow]; omega
 ·show ((shr_u64 r2 18).toUInt8).toNat=_; rw [s _ 18 (by omega)]; simp only [Nat.reducePow]; omega
 ·show ((shr_u64 r2 26).toUInt8).toNat=_; rw [s _ 26 (by omega)]; simp only [Nat.reducePow]; omega
 ·show ((shr_u64 r2 34).toUInt8).toNat=_; rw [s _ 34 (by omega)]; simp only [Nat.reducePow]; omega
 ·show ((shr_u64 r2 42).toUInt8).toNat=_; rw [s _ 42 (by omega)]; simp only [Nat.reducePow]; omega
 ·show ((shr_u64 r2 50).toUInt8 ||| (shl_u64 r3 1).toUInt8).toNat=_; rw [o _ _ 50 (by omega) (by omega) h2 h3]; simp only [Nat.reducePow,Nat.reduceSub]; omega
 ·show ((shr_u64 r3 7).toUInt8).toNat=_; rw [s _ 7 (by omega)]; simp only [Nat.reducePow]; omega
 ·show ((shr_u64 r3 15).toUInt8).toNat=_; rw [s _ 15 (by omega)]; simp only [Nat.reducePow]; omega
 ·show ((shr_u64 r3 23).toUInt8).toNat=_; rw [s _ 23 (by omega)]; simp only [Nat.reducePow]; omega
 ·show ((shr_u64 r3 31).toUInt8).toNat=_; rw [s _ 31 (by omega)]; simp only [Nat.reducePow]; omega
 ·show ((shr_u64 r3 39).toUInt8).toNat=_; rw [s _ 39 (by omega)]; simp only [Nat.reducePow]; omega
 ·show ((shr_u64 r3 47).toUInt8 ||| (shl_u64 r4 4).toUInt8).toNat=_; rw [o _ _ 47 (by omega) (by omega) h3 h4]; simp only [Nat.reducePow,Nat.reduceSub]; omega
 ·show ((shr_u64 r4 4).toUInt8).toNat=_; rw [s _ 4 (by omega)]; simp only [Nat.reducePow]; omega
 ·show ((shr_u64 r4 12).toUInt8).toNat=_; rw [s _ 12 (by omega)]; simp only [Nat.reducePow]; omega
 ·show ((shr_u64 r4 20).toUInt8).toNat=_; rw [s _ 20 (by omega)]; simp only [Nat.reducePow]; omega
 ·show ((shr_u64 r4 28).toUInt8).toNat=_; rw [s _ 28 (by omega)]; simp only [Nat.reducePow]; omega
 ·show ((shr_u64 r4 36).toUInt8).toNat=_; rw [s _ 36 (by omega)]; simp only [Nat.reducePow]; omega
 ·show ((shr_u64 r4 44).toUInt8).toNat=_; rw [s _ 44 (by omega)]; simp only [Nat.reducePow]; omega
theorem red_lt {a:E5}(h:a.red):a.val < 57896044618658097711785492504343953926634992332820282019728792003956564819968:=by
 unfold E5.red at h
 unfold E5.val
 omega
theorem bytesE_val (a:E5):leNat (bytesE a)=a.val % Pq:=by
 obtain ⟨h1,h2⟩:=reduced_val a
 unfold bytesE
 rw [leNat_range _ (reducedE a).val 32 (fun i hi=>byteE_val _ h1 i hi),Nat.mod_eq_of_lt (Nat.lt_of_lt_of_le (red_lt h1) (by decide)),h2]
theorem bytesE_len (a:E5):(bytesE a).length=32:=by unfold bytesE; simp
theorem leNat_drop (s:List UInt8) (k:Nat):leNat (s.drop k)=leNat s / 256 ^ k:=by
 induction k generalizing s with
 | zero=>simp
 | succ k ih =>
  cases s with
  | nil=>simp [leNat]
  | cons c l =>
   have hc:=c.toNat_lt
   simp only [Nat.reducePow] at hc
   rw [List.drop_succ_cons,ih,leNat,Nat.pow_succ,Nat.mul_comm (256 ^ k),← Nat.div_div_eq_div_mul]
   congr 1
   omega
theorem byte_at (s:List UInt8) (k:Nat):(s.getD k 0).toNat=leNat s / 256 ^ k % 256:=by
 rw [← leNat_drop]
 induction k generalizing s with
 | zero =>
  cases s with
  | nil=>rfl
  | cons c l =>
   have hc:=c.toNat_lt
   simp only [Nat.reducePow] at hc
   simp only [List.getD_cons_zero,List.drop_zero,leNat]
   omega
 | succ k ih =>
  cases s with
  | nil=>simp [leNat]
  | cons c l=>rw [List.getD_cons_succ,List.drop_succ_cons]; exact ih l
theorem or_step (x:UInt64) (b:UInt8) (n:Nat) (hn:n < 57) (h:x.toNat < 2 ^ n):(x ||| shl_u64 b.toUInt64 n).toNat=x.toNat+b.toNat * 2 ^ n:=by
 have hb:=b.toNat_lt
 rw [UInt64.toNat_or,shl_u64_nat _ n (by omega),UInt8.toNat_toUInt64]
 have hlt:b.toNat * 2 ^ n < 18446744073709551616:=by
  have h1:2 ^ n≤2 ^ 56:=Nat.pow_le_pow_right (by omega) (by omega)
  have:=Nat.mul_le_mul (Nat.le_of_lt_succ hb) h1
  simp only [Nat.reducePow] at *
  omega
 rw [Nat.mod_eq_of_lt hlt]
 have:=Nat.shiftLeft_add_eq_or_of_lt h b.toNat
 rw [Nat.shiftLeft_eq] at this
 rw [Nat.or_comm,← this,Nat.add_comm]
theorem wordE_val (s:List UInt8):(wordE s).toNat=leNat s % 18446744073709551616:=by
 have b:∀ k,(s.getD k 0).toNat < 256:=fun k=>(s.getD k 0).toNat_lt
 have b0:=b 0; have b1:=b 1; have b2:=b 2; have b3:=b 3; have b4:=b 4; have b5:=b 5; have b6:=b 6; have b7:=b 7
 have hz:(0:UInt64).toNat=0:=rfl
 unfold wordE
 have e0:=or_step 0 (s.getD 0 0) 0 (by omega) (by rw [hz]; decide)
 have e1:=or_step _ (s.getD 1 0) 8 (by omega) (by rw [e0,hz]; simp only [Nat.reducePow]; omega)
 have e2:=or_step _ (s.getD 2 0) 16 (by omega) (by rw [e1,e0,hz]; simp only [Nat.reducePow]; omega)
 have e3:=or_step _ (s.getD 3 0) 24 (by omega) (by rw [e2,e1,e0,hz]; simp only [Nat.reducePow]; omega)
 have e4:=or_step _ (s.getD 4 0) 32 (by omega) (by rw [e3,e2,e1,e0,hz]; simp only [Nat.reducePow]; omega)
 have e5:=or_step _ (s.getD 5 0) 40 (by omega) (by rw [e4,e3,e2,e1,e0,hz]; simp only [Nat.reducePow]; omega)
 have e6:=or_step _ (s.getD 6 0) 48 (by omega) (by rw [e5,e4,e3,e2,e1,e0,hz]; simp only [Nat.reducePow]; omega)
 have e7:=or_step _ (s.getD 7 0) 56 (by omega) (by rw [e6,e5,e4,e3,e2,e1,e0,hz]; simp only [Nat.reducePow]; omega)
 rw [e7,e6,e5,e4,e3,e2,e1,e0,hz,byte_at s 0,byte_at s 1,byte_at s 2,byte_at s 3,byte_at s 4,byte_at s 5,byte_at s 6,byte_at s 7]
 simp only [Nat.reducePow]
 omega
theorem five_parts (V:Nat):V % 2251799813685248+19 * (V / 57896044618658097711785492504343953926634992332820282019728792003956564819968)+2251799813685248 * (V / 2251799813685248 % 2251799813685248)+5070602400912917605986812821504 * (V / 5070602400912917605986812821504 % 2251799813685248)+11417981541647679048466287755595961091061972992 * (V / 11417981541647679048466287755595961091061972992 % 2251799813685248)+25711008708143844408671393477458601640355247900524685364822016 * (V / 25711008708143844408671393477458601640355247900524685364822016 % 2251799813685248)+Pq * (V / 57896044618658097711785492504343953926634992332820282019728792003956564819968)=V:=by
 have d2:V / 5070602400912917605986812821504=V / 2251799813685248 / 2251799813685248:=by rw [Nat.div_div_eq_div_mul]
 have d3:V / 11417981541647679048466287755595961091061972992=V / 2251799813685248 / 2251799813685248 / 2251799813685248:=by rw [Nat.div_div_eq_div_mul,Nat.div_div_eq_div_mul]
 have d4:V / 25711008708143844408671393477458601640355247900524685364822016=V / 2251799813685248 / 2251799813685248 / 2251799813685248 / 2251799813685248:=by rw [Nat.div_div_eq_div_mul,Nat.div_div_eq_div_mul,Nat.div_div_eq_div_mul]
 have d5:V / 57896044618658097711785492504343953926634992332820282019728792003956564819968=V / 2251799813685248 / 2251799813685248 / 2251799813685248 / 2251799813685248 / 2251799813685248:=by rw [Nat.div_div_eq_div_mul,Nat.div_div_eq_div_mul,Nat.div_div_eq_div_mul,Nat.div_div_eq_div_mul]
 rw [d2,d3,d4,d5]
 unfold Pq
 omega
theorem zeroE_ok:zeroE.ok:=⟨by decide,by decide,by decide,by decide,by decide⟩
theorem ofE0_val (s:List UInt8) (h:s.length=32):(ofE0 s).val % Pq=leNat s % Pq:=by
 have hv:leNat s < 115792089237316195423570985008687907853269984665640564039457584007913129639936:=by
  have:=leNat_lt s
  rw [h] at this
  simpa using this
 have w0:=wordE_val s
 have w6:=wordE_val (s.drop 6)
 have w12:=wordE_val (s.drop 12)
 have w19:=wordE_val (s.drop 19)
 have w24:=wordE_val (s.drop 24)
 rw [leNat_drop] at w6 w12 w19 w24
 have b31:=byte_at s 31
 have d:∀ m n:Nat,leNat s / m / n=leNat s / (m * n):=fun m n=>Nat.div_div_eq_div_mul _ _ _
 have q:∀ Q:Nat,Q % 18446744073709551616 / 8 % 2251799813685248=Q / 8 % 2251799813685248:=fun Q=>by omega
 have q6:∀ Q:Nat,Q % 18446744073709551616 / 64 % 2251799813685248=Q / 64 % 2251799813685248:=fun Q=>by omega
 have q1:∀ Q:Nat,Q % 18446744073709551616 / 2 % 2251799813685248=Q / 2 % 2251799813685248:=fun Q=>by omega
 have q12:∀ Q:Nat,Q % 18446744073709551616 / 4096 % 2251799813685248=Q / 4096 % 2251799813685248:=fun Q=>by omega
 have q0:∀ Q:Nat,Q % 18446744073709551616 % 2251799813685248=Q % 2251799813685248:=fun Q=>by omega
 have h31:leNat s / 256 ^ 31 < 256:=by
  apply Nat.div_lt_of_lt_mul
  rw [show (256:Nat) ^ 31 * 256=115792089237316195423570985008687907853269984665640564039457584007913129639936 by decide]
  exact hv
 have e0:((wordE s &&& m51)+19 * (shr_u8 (s.getD 31 0) 7).toUInt64).toNat=leNat s % 2251799813685248+19 * (leNat s / 57896044618658097711785492504343953926634992332820282019728792003956564819968):=by
  have ed:leNat s / 57896044618658097711785492504343953926634992332820282019728792003956564819968=leNat s / 256 ^ 31 / 128:=by
   rw [d]
  rw [UInt64.toNat_add,UInt64.toNat_mul,n19,UInt8.toNat_toUInt64,shr_u8_nat _ 7 (by omega),and51,w0,b31,Nat.mod_eq_of_lt h31,ed,q0]
  generalize leNat s / 256 ^ 31=Q at *
  have:=Nat.mod_lt (leNat s) (show 0 < 2251799813685248 by omega)
  generalize leNat s % 2251799813685248=R at *
  simp only [Nat.reducePow]
  omega
 have e1:(shr_u64 (wordE (s.drop 6)) 3 &&& m51).toNat=leNat s / 2251799813685248 % 2251799813685248:=by
  rw [and51,shr_u64_nat _ 3 (by omega),w6]
  show leNat s / 256 ^ 6 % 18446744073709551616 / 8 % 2251799813685248=_
  rw [q,d]
 have e2:(shr_u64 (wordE (s.drop 12)) 6 &&& m51).toNat=leNat s / 5070602400912917605986812821504 % 2251799813685248:=by
  rw [and51,shr_u64_nat _ 6 (by omega),w12]
  show leNat s / 256 ^ 12 % 18446744073709551616 / 64 % 2251799813685248=_
  rw [q6,d]
 have e3:(shr_u64 (wordE (s.drop 19)) 1 &&& m51).toNat=leNat s / 11417981541647679048466287755595961091061972992 % 2251799813685248:=by
  rw [and51,shr_u64_nat _ 1 (by omega),w19]
  show leNat s / 256 ^ 19 % 18446744073709551616 / 2 % 2251799813685248=_
  rw [q1,d]
 have e4:(shr_u64 (wordE (s.drop 24)) 12 &&& m51).toNat=leNat s / 25711008708143844408671393477458601640355247900524685364822016 % 2251799813685248:=by
  rw [and51,shr_u64_nat _ 12 (by omega),w24]
  show leNat s / 256 ^ 24 % 18446744073709551616 / 4096 % 2251799813685248=_
  rw [q12,d]
 have ev:(ofE0 s).val+Pq * (leNat s / 57896044618658097711785492504343953926634992332820282019728792003956564819968)=leNat s:=by
  have ed:(ofE0 s).val=leNat s % 2251799813685248+19 * (leNat s / 57896044618658097711785492504343953926634992332820282019728792003956564819968)+2251799813685248 * (leNat s / 2251799813685248 % 2251799813685248)+5070602400912917605986812821504 * (leNat s / 5070602400912917605986812821504 % 2251799813685248)+11417981541647679048466287755595961091061972992 * (leNat s / 11417981541647679048466287755595961091061972992 % 2251799813685248)+25711008708143844408671393477458601640355247900524685364822016 * (leNat s / 25711008708143844408671393477458601640355247900524685364822016 % 2251799813685248):=by
   rw [← e0,← e1,← e2,← e3,← e4]
   rfl
  rw [ed]
  exact five_parts _
 rw [← ev,Nat.add_mul_mod_self_left]
theorem ofEl_ok (s:List UInt8):(ofEl s).ok:=by
 unfold ofEl
 cases isLen s 32
 ·exact zeroE_ok
 ·exact carried_ok _
theorem ofEl_val {s:List UInt8}(h:isLen s 32=true):(ofEl s).val % Pq=leNat s % Pq:=by
 unfold ofEl
 rw [h,cond_true,carried_mod,ofE0_val s (isLen_eq.1 h)]
theorem ofEr_eq (s:List UInt8):(ofEr s == 0)=isLen s 32:=by
 unfold ofEr
 cases isLen s 32 <;> rfl
theorem zeroE_val:zeroE.val=0:=by decide
theorem smallE_val (n:UInt32):(smallE n).ok∧(smallE n).val=n.toNat:=by
 have h:=n.toNat_lt
 simp only [Nat.reducePow] at h
 have hz:(0:UInt64).toNat=0:=rfl
 unfold E5.ok E5.val smallE
 simp only [UInt32.toNat_toUInt64,hz]
 omega
theorem eqE_eq (a b:E5):eqE a b=decide (a=b):=by
 obtain ⟨a0,a1,a2,a3,a4⟩:=a
 obtain ⟨b0,b1,b2,b3,b4⟩:=b
 rw [Bool.eq_iff_iff]
 simp [eqE]
theorem sameE_eq (a b:E5):sameE a b=decide (a.val % Pq=b.val % Pq):=by
 obtain ⟨h1,h2⟩:=reduced_val a
 obtain ⟨k1,k2⟩:=reduced_val b
 unfold sameE
 rw [eqE_eq,decide_eq_decide,← h2,← k2]
 exact ⟨fun h=>by rw [h],fun h=>E5.ext_val h1 k1 h⟩
theorem oddE_eq (a:E5):oddE a=decide (a.val % Pq % 2=1):=by
 obtain ⟨h1,h2⟩:=reduced_val a
 unfold oddE
 rw [← h2,Bool.eq_iff_iff,beq_iff_eq,decide_eq_true_iff,← UInt64.toNat_inj,and_nat _ 1 1 rfl]
 unfold E5.val
 have h11:(1:UInt64).toNat=1:=rfl
 rw [h11]
 simp only [Nat.reducePow]
 omega
end Go.Num
namespace Go.Num
open Go Go.Eng
structure Rel (a:E5) (x:N16):Prop where
 ok:a.ok
 okP:x.ok
 val:x.val=a.val % Pq
theorem Rel.lt {a:E5}{x:N16}(h:Rel a x):x.val < Pq:=by rw [h.val]; exact Nat.mod_lt _ Pq_pos
theorem Rel.mod {a:E5}{x:N16}(h:Rel a x):a.val % Pq=x.val:=h.val.symm
theorem Rel.bytes {a:E5}{x:N16}(h:Rel a x):bytesE a=bytesN x:=
 leNat_inj (by rw [bytesE_len,bytesN_len]) (by rw [bytesE_val,bytesN_val x h.okP,h.val])
theorem rel_of {s:List UInt8}(h:isLen s 32=true):Rel (ofEl s) (ofP s):=by
 obtain ⟨o,e⟩:=ofP_val (isLen_eq.1 h)
 exact ⟨ofEl_ok s,o,by rw [e,ofEl_val h]⟩
theorem rel_zero:Rel zeroE zeroN:=⟨zeroE_ok,zeroN_ok,by rw [zeroN_val,zeroE_val]; rfl⟩
theorem rel_small (n:UInt32):Rel (smallE n) (smallN n):=by
 obtain ⟨o,e⟩:=smallN_val n
 obtain ⟨o2,e2⟩:=smallE_val n
 refine ⟨o2,o,?_⟩
 have h:=n.toNat_lt
 simp only [Nat.reducePow] at h
 rw [e,e2,Nat.mod_eq_of_lt (by unfold Pq; omega)]
theorem rel_add {a b:E5}{x y:N16}(h:Rel a x) (k:Rel b y):Rel (addE a b) (addP x y):=by
 obtain ⟨o,e⟩:=addP_val x y h.okP k.okP
 obtain ⟨o2,e2⟩:=addE_val a b h.ok k.ok
 exact ⟨o2,o,by rw [e,e2,h.val,k.val,← Nat.add_mod]⟩
theorem rel_mul {a b:E5}{x y:N16}(h:Rel a x) (k:Rel b y):Rel (mulE a b) (mulP x y):=by
 obtain ⟨o,e⟩:=mulP_val x y h.okP k.okP
 obtain ⟨o2,e2⟩:=mulE_val a b h.ok k.ok
 exact ⟨o2,o,by rw [e,e2,h.val,k.val,← Nat.mul_mod]⟩
theorem sub_mod (a b P:Nat) (hP:0 < P) (hb:b≤2 * P):(a+(2 * P - b)) % P=(a % P+(P - b % P)) % P:=by
 have h1:=Nat.div_add_mod b P
 have h2:=Nat.mod_lt b hP
 have h3:=Nat.div_add_mod a P
 have h4:b / P≤2:=Nat.div_le_of_le_mul (by rw [Nat.mul_comm]; exact hb)
 generalize b % P=r at *
 generalize hq:b / P=q at *
 have h5:q=0 ∨ q=1 ∨ q=2:=by omega
 have h6:(a % P+(P - r)) % P=(a+(P - r)) % P:=by rw [Nat.mod_add_mod]
 rw [h6]
 rcases h5 with rfl | rfl | rfl
 ·have e:a+(2 * P - b)=(a+(P - r))+P * 1:=by omega
  rw [e,Nat.add_mul_mod_self_left]
 ·have e:a+(2 * P - b)=a+(P - r):=by omega
  rw [e]
 ·have e:a+(P - r)=a+(2 * P - b)+P * 1:=by omega
  rw [e,Nat.add_mul_mod_self_left]
theorem rel_sub {a b:E5}{x y:N16}(h:Rel a x) (k:Rel b y):Rel (subE a b) (subP x y):=by
 obtain ⟨o,e⟩:=subP_val x y h.okP k.okP k.lt
 obtain ⟨o2,e2,hle⟩:=subE_val a b h.ok k.ok
 exact ⟨o2,o,by rw [e,e2,h.val,k.val,sub_mod _ _ _ Pq_pos hle]⟩
theorem rel_neg {a:E5}{x:N16}(h:Rel a x):Rel (negE a) (negP x):=by
 obtain ⟨o,e⟩:=negP_val x h.okP h.lt
 obtain ⟨o2,e2,hle⟩:=subE_val zeroE a zeroE_ok h.ok
 refine ⟨o2,o,?_⟩
 unfold negE
 rw [e,e2,h.val,sub_mod _ _ _ Pq_pos hle,zeroE_val,Nat.zero_mod,Nat.zero_add]
structure PowE (a:E5) (n:Nat) (x:E5):Prop where
 ok:x.ok
 val:x.val % Pq=a.val ^ n % Pq
theorem pow_one {a:E5}(h:a.ok):PowE a 1 a:=⟨h,by rw [Nat.pow_one]⟩
theorem pow_mul {a x y:E5}{m n:Nat}(h:PowE a m x) (k:PowE a n y):PowE a (m+n) (mulE x y):=by
 obtain ⟨o,e⟩:=mulE_val x y h.ok k.ok
 exact ⟨o,by rw [e,Nat.mul_mod,h.val,k.val,← Nat.mul_mod,← Nat.pow_add]⟩
theorem pow_sq {a:E5}:∀ (n:Nat){x:E5}{m:Nat},PowE a m x→PowE a (m * 2 ^ n) (sqE x n)
 | 0,x,m,h=>by rw [Nat.pow_zero,Nat.mul_one]; exact h
 | n+1,x,m,h=>by
  have:=pow_sq n (pow_mul h h)
  have e:(m+m) * 2 ^ n=m * 2 ^ (n+1):=by rw [Nat.pow_succ,← Nat.mul_assoc,← Nat.two_mul,Nat.mul_comm 2 m,Nat.mul_assoc,Nat.mul_comm 2,← Nat.mul_assoc]
  rw [e] at this
  exact this
theorem pow_ones {a:E5}(ha:a.ok):∀ (f n:Nat),1≤n→n < 2 ^ f→PowE a (2 ^ n - 1) (onesF a f n)
 | 0,n,h1,h2=>by rw [Nat.pow_zero] at h2; omega
 | f+1,n,h1,h2=>by
  simp only [onesF]
  rcases beq_cases n 1 with ⟨e,hb⟩ | ⟨e,hb⟩
  ·rw [hb,cond_true,e]
   exact pow_one ha
  ·rw [hb,cond_false]
   have hm:1≤n / 2:=by omega
   have ih:=pow_ones ha f (n / 2) hm (by rw [Nat.pow_succ] at h2; omega)
   have p:=pow_mul (pow_sq (n / 2) ih) ih
   have hp:1≤2 ^ (n / 2):=Nat.one_le_two_pow
   have e1:(2 ^ (n / 2) - 1) * 2 ^ (n / 2)+(2 ^ (n / 2) - 1)=2 ^ (n / 2+n / 2) - 1:=by
    rw [Nat.pow_add,Nat.sub_mul,Nat.one_mul]
    have:2 ^ (n / 2)≤2 ^ (n / 2) * 2 ^ (n / 2):=Nat.le_mul_of_pos_left _ hp
    omega
   rw [e1] at p
   rcases beq_cases (n % 2) 1 with ⟨e2,hb2⟩ | ⟨e2,hb2⟩
   ·rw [hb2,cond_true]
    have p2:=pow_mul (pow_sq 1 p) (pow_one ha)
    have e3:(2 ^ (n / 2+n / 2) - 1) * 2 ^ 1+1=2 ^ n - 1:=by
     have e4:n=n / 2+n / 2+1:=by omega
     have:1≤2 ^ (n / 2+n / 2):=Nat.one_le_two_pow
     conv=>rhs; rw [e4]
     rw [Nat.pow_succ]
     omega
    rw [e3] at p2
    exact p2
   ·rw [hb2,cond_false]
    have e4:n / 2+n / 2=n:=by omega
    rw [e4] at p
    exact p
def eInv:Nat:=bitsNat 0 (bitsL 255 21)
def eRoot:Nat:=bitsNat 0 (bitsL 252 2)
theorem eInv_eq:(2 ^ 250 - 1) * 2 ^ 5+(1+1+1+1 * 2 ^ 3)=eInv:=by kernel_rfl
theorem eRoot_eq:(2 ^ 250 - 1) * 2 ^ 2+(1+1)=eRoot:=by kernel_rfl
theorem pow_inv {a:E5}(ha:a.ok):PowE a eInv (invE a):=by
 have h:=pow_ones ha 8 250 (by decide) (by decide)
 have p:=pow_mul (pow_sq 5 h) (pow_mul (pow_mul (pow_mul (pow_one ha) (pow_one ha)) (pow_one ha)) (pow_sq 3 (pow_one ha)))
 rw [eInv_eq] at p
 have e:invE a=mulE (sqE (onesF a 8 250) 5) (mulE (mulE (mulE a a) a) (sqE a 3)):=by unfold invE onesE; rfl
 rw [e]
 exact p
theorem pow_root {a:E5}(ha:a.ok):PowE a eRoot (root0E a):=by
 have h:=pow_ones ha 8 250 (by decide) (by decide)
 have p:=pow_mul (pow_sq 2 h) (pow_mul (pow_one ha) (pow_one ha))
 rw [eRoot_eq] at p
 have e:root0E a=mulE (sqE (onesF a 8 250) 2) (mulE a a):=by unfold root0E onesE; rfl
 rw [e]
 exact p
theorem rel_pow {a b:E5}{x:N16}{l:List Bool}(h:Rel a x) (p:PowE a (bitsNat 0 l) b):Rel b (powP x l):=by
 refine ⟨p.ok,powP_ok x h.okP l,?_⟩
 rw [powP_val x h.okP,p.val,h.val,← Nat.pow_mod]
theorem rel_inv {a:E5}{x:N16}(h:Rel a x):Rel (invE a) (invP x):=rel_pow h (pow_inv h.ok)
theorem rel_root0 {a:E5}{x:N16}(h:Rel a x):Rel (root0E a) (root0P x):=rel_pow h (pow_root h.ok)
def natF (a x:Nat):List Bool→Nat
 | []=>x
 | b::l=>natF a (cond b (x * x % Pq * a % Pq) (x * x % Pq)) l
theorem natF_val (a:Nat) (l:List Bool):∀ x n:Nat,x=a ^ n % Pq→natF a x l=a ^ (bitsNat n l) % Pq:=by
 induction l with
 | nil=>exact fun x n h=>h
 | cons b l ih =>
  intro x n h
  have e1:x * x % Pq=a ^ (2 * n) % Pq:=by rw [h,← Nat.mul_mod,← Nat.pow_add,Nat.two_mul]
  cases b
  ·exact ih _ _ e1
  ·refine ih _ _ ?_
   show x * x % Pq * a % Pq=a ^ (2 * n+1) % Pq
   rw [e1,Nat.mod_mul_mod,Nat.pow_succ]
def iNat:Nat:=19681161376707505956807079304988542015446066515923890162744021073123829784752
theorem iNat_eq:natF 2 1 (bitsL 253 5)=iNat:=by kernel_rfl
theorem iN_val:iN.val=iNat:=by
 have e2:(smallN 2).val=2:=(smallN_val 2).2
 have e0:(1:Nat)=2 ^ 0 % Pq:=by rw [Nat.pow_zero]; exact (Nat.mod_eq_of_lt (by decide)).symm
 have h:=powP_val (smallN 2) (smallN_val 2).1 (bitsL 253 5)
 have h2:=natF_val 2 (bitsL 253 5) 1 0 e0
 revert h h2
 unfold iN
 rw [e2,iNat_eq]
 generalize bitsNat 0 (bitsL 253 5)=e
 generalize (powP (smallN 2) (bitsL 253 5)).val=v
 generalize 2 ^ e % Pq=q
 intro h h2
 rw [h,h2]
theorem iNat_mod:iNat % Pq=iNat:=by kernel_rfl
theorem iN_ok:iN.ok:=powP_ok _ (smallN_val 2).1 _
theorem turned_ok:turnedE.ok:=⟨by decide,by decide,by decide,by decide,by decide⟩
theorem turned_val:turnedE.val=iNat:=by kernel_rfl
theorem rel_turned:Rel turnedE iN:=⟨turned_ok,iN_ok,by rw [iN_val,turned_val,iNat_mod]⟩
theorem eqL2_eq:∀ (l m:List UInt64),l.length=m.length→eqL2 l m=decide (l=m)
 | [],[],_=>rfl
 | [],_::_,h=>by cases h
 | _::_,[],h=>by cases h
 | x::l,y::m,h=>by
  rw [Bool.eq_iff_iff]
  simp [eqL2,eqL2_eq l m (by simpa using h)]
theorem samP_eq (a b:N16):samP a b=decide (a=b):=by
 unfold samP
 rw [eqL2_eq a.list b.list rfl,decide_eq_decide]
 exact ⟨fun h=>by rw [← ofL_list a,← ofL_list b,h],fun h=>by rw [h]⟩
theorem rel_same {a b:E5}{x y:N16}(h:Rel a x) (k:Rel b y):sameE a b=samP x y:=by
 rw [sameE_eq,samP_eq,decide_eq_decide,← h.val,← k.val]
 exact ⟨fun e=>N16.ext_val h.okP k.okP e,fun e=>by rw [e]⟩
theorem rel_odd {a:E5}{x:N16}(h:Rel a x):oddE a=oddP x:=by
 rw [oddE_eq,← h.val]
 unfold oddP
 rw [Bool.eq_iff_iff,decide_eq_true_iff,beq_iff_eq,← UInt64.toNat_inj,and_nat _ 1 1 rfl]
 have h11:(1:UInt64).toNat=1:=rfl
 have e:x.val=x.x0.toNat+65536 * val16 [x.x1,x.x2,x.x3,x.x4,x.x5,x.x6,x.x7,x.x8,x.x9,x.x10,x.x11,x.x12,x.x13,x.x14,x.x15]:=rfl
 rw [h11,e]
 generalize val16 _=q
 simp only [Nat.reducePow]
 omega
theorem sel {β:Type}(t:Bool) (x y:β):cond t x y=if t=true then x else y:=by cases t <;> rfl
theorem root1E_eq (a:E5):root1E a=if sameE (mulE (root0E a) (root0E a)) a=true then root0E a else mulE (root0E a) turnedE:=by
 rw [root1E,sel]
theorem root1P_eq (a:N16):root1P a=if samP (mulP (root0P a) (root0P a)) a=true then root0P a else mulP (root0P a) iN:=by
 rw [root1P,sel]
theorem rootE_eq (a:E5):rootE a=if hasE a=true then (if oddE (root1E a)=true then negE (root1E a) else root1E a) else zeroE:=by
 rw [rootE,sel,sel]
theorem rootP_eq (a:N16):rootP a=if hasP a=true then (if oddP (root1P a)=true then negP (root1P a) else root1P a) else zeroN:=by
 rw [rootP,sel,sel]
theorem rel_if {t:Prop} [Decidable t] {a b:E5}{x y:N16}(h:Rel a x) (k:Rel b y):Rel (if t then a else b) (if t then x else y):=by
 split
 ·exact h
 ·exact k
theorem rel_root1 {a:E5}{x:N16}(h:Rel a x):Rel (root1E a) (root1P x):=by
 have h0:=rel_root0 h
 have hs:=rel_same (rel_mul h0 h0) h
 rw [root1E_eq,root1P_eq,hs]
 exact rel_if h0 (rel_mul h0 rel_turned)
theorem rel_has {a:E5}{x:N16}(h:Rel a x):hasE a=hasP x:=by
 have h1:=rel_root1 h
 exact rel_same (rel_mul h1 h1) h
theorem rel_root {a:E5}{x:N16}(h:Rel a x):Rel (rootE a) (rootP x):=by
 have h1:=rel_root1 h
 rw [rootE_eq,rootP_eq,rel_has h,rel_odd h1]
 exact rel_if (rel_if (rel_neg h1) h1) rel_zero
theorem canonP_eq (s:List UInt8):canonP s=(isLen s 32 && decide (leNat s < Pq)):=by
 unfold canonP
 cases h:isLen s 32
 ·rfl
 ·obtain ⟨o,e⟩:=partsN_val s (isLen_eq.1 h)
  rw [lessN_eq _ _ o primeN_ok,e,primeN_val]
theorem canonE_eq (s:List UInt8):canonE s=canonP s:=by
 rw [canonP_eq]
 unfold canonE
 rw [ofEr_eq]
 cases h:isLen s 32
 ·rfl
 ·have hl:=isLen_eq.1 h
  rw [Bool.true_and,Bool.true_and,Bool.eq_iff_iff,beq_iff_eq,decide_eq_true_iff]
  have hv:=bytesE_val (ofEl s)
  rw [ofEl_val h] at hv
  constructor
  ·intro e
   rw [e] at hv
   rw [hv]
   exact Nat.mod_lt _ Pq_pos
  ·intro hlt
   rw [Nat.mod_eq_of_lt hlt] at hv
   exact leNat_inj (by rw [bytesE_len,hl]) hv
end Go.Num
namespace Go.Num
open Go Go.Eng
theorem sub_zero {a b:E5}{x y:N16}(h:Rel a x) (k:Rel b y):samP (subP x y) zeroN=samP x y:=by
 obtain ⟨o,e⟩:=subP_val x y h.okP k.okP k.lt
 rw [samP_eq,samP_eq,decide_eq_decide]
 have hx:=h.lt
 have hy:=k.lt
 constructor
 ·intro hz
  rw [hz,zeroN_val] at e
  refine N16.ext_val h.okP k.okP ?_
  rcases Nat.lt_or_ge (x.val+(Pq - y.val)) Pq with hl | hl
  ·rw [Nat.mod_eq_of_lt hl] at e; omega
  ·rw [Nat.mod_eq_sub_mod hl,Nat.mod_eq_of_lt (by omega)] at e; omega
 ·intro hxy
  subst hxy
  refine N16.ext_val o zeroN_ok ?_
  rw [e,zeroN_val]
  have:x.val+(Pq - x.val)=Pq:=by omega
  rw [this,Nat.mod_self]
end Go.Num
namespace Go.Num
open Go Go.Eng
def nRoot0 (v:Nat):Nat:=natF v 1 (bitsL 252 2)
def nRoot1 (v:Nat):Nat:=if nRoot0 v * nRoot0 v % Pq=v then nRoot0 v else nRoot0 v * iNat % Pq
def nHas (v:Nat):Bool:=decide (nRoot1 v * nRoot1 v % Pq=v)
def nRoot (v:Nat):Nat:=if nHas v=true then (if nRoot1 v % 2=1 then (Pq - nRoot1 v) % Pq else nRoot1 v) else 0
theorem one_mod (a:Nat):(1:Nat)=a ^ 0 % Pq:=by rw [Nat.pow_zero]; exact (Nat.mod_eq_of_lt (by decide)).symm
theorem root0_nat {a:E5}(ha:a.ok):(root0E a).val % Pq=nRoot0 (a.val % Pq):=by
 have h:=(pow_root ha).val
 have h2:=natF_val (a.val % Pq) (bitsL 252 2) 1 0 (one_mod _)
 have e:eRoot=bitsNat 0 (bitsL 252 2):=rfl
 rw [e] at h
 unfold nRoot0
 revert h h2
 generalize bitsNat 0 (bitsL 252 2)=n
 intro h h2
 rw [h,h2,← Nat.pow_mod]
theorem root0_ok {a:E5}(ha:a.ok):(root0E a).ok:=(pow_root ha).ok
theorem root1_nat {a:E5}(ha:a.ok):(root1E a).ok∧(root1E a).val % Pq=nRoot1 (a.val % Pq):=by
 have o0:=root0_ok ha
 have e0:=root0_nat ha
 obtain ⟨o1,e1⟩:=mulE_val _ _ o0 o0
 obtain ⟨o2,e2⟩:=mulE_val _ _ o0 turned_ok
 have hs:sameE (mulE (root0E a) (root0E a)) a=decide (nRoot0 (a.val % Pq) * nRoot0 (a.val % Pq) % Pq=a.val % Pq):=by
  rw [sameE_eq,e1,Nat.mul_mod,e0]
 rw [root1E_eq,hs]
 unfold nRoot1
 by_cases h:nRoot0 (a.val % Pq) * nRoot0 (a.val % Pq) % Pq=a.val % Pq
 ·rw [decide_eq_true h,if_pos rfl,if_pos h]
  exact ⟨o0,e0⟩
 ·rw [decide_eq_false h,if_neg (by simp),if_neg h]
  refine ⟨o2,?_⟩
  rw [e2,Nat.mul_mod,e0,turned_val,iNat_mod]
theorem has_nat {a:E5}(ha:a.ok):hasE a=nHas (a.val % Pq):=by
 obtain ⟨o1,e1⟩:=root1_nat ha
 obtain ⟨_,e2⟩:=mulE_val _ _ o1 o1
 unfold hasE nHas
 rw [sameE_eq,e2,Nat.mul_mod,e1]
theorem neg_nat {a:E5}(ha:a.ok):(negE a).ok∧(negE a).val % Pq=(Pq - a.val % Pq) % Pq:=by
 obtain ⟨o,e,hle⟩:=subE_val zeroE a zeroE_ok ha
 refine ⟨o,?_⟩
 unfold negE
 rw [e,sub_mod _ _ _ Pq_pos hle,zeroE_val,Nat.zero_mod,Nat.zero_add]
theorem root_nat {a:E5}(ha:a.ok):(rootE a).ok∧(rootE a).val % Pq=nRoot (a.val % Pq):=by
 obtain ⟨o1,e1⟩:=root1_nat ha
 obtain ⟨o2,e2⟩:=neg_nat o1
 have ho:oddE (root1E a)=decide (nRoot1 (a.val % Pq) % 2=1):=by rw [oddE_eq,e1]
 rw [rootE_eq,has_nat ha,ho]
 unfold nRoot
 by_cases h:nHas (a.val % Pq)=true
 ·rw [if_pos h,if_pos h]
  by_cases h2:nRoot1 (a.val % Pq) % 2=1
  ·rw [decide_eq_true h2,if_pos rfl,if_pos h2]
   exact ⟨o2,by rw [e2,e1]⟩
  ·rw [decide_eq_false h2,if_neg (by simp),if_neg h2]
   exact ⟨o1,e1⟩
 ·rw [if_neg h,if_neg h]
  exact ⟨zeroE_ok,by rw [zeroE_val]; rfl⟩
theorem small_mod (n:UInt32):(smallE n).val % Pq=n.toNat:=by
 have h:=n.toNat_lt
 simp only [Nat.reducePow] at h
 rw [(smallE_val n).2,Nat.mod_eq_of_lt (by unfold Pq; omega)]
end Go.Num
namespace Go.Num
def Irr (q:Nat):Prop:=1 < q∧∀ d,d ∣ q→d=1 ∨ d=q
def smallB (q:Nat):Nat→Nat→Bool
 | 0,_=>false
 | f+1,d=>cond (Nat.ble (q+1) (d * d)) true (cond (Nat.beq (q % d) 0) false (smallB q f (d+1)))
theorem smallB_ok (q:Nat) (hq:1 < q):∀ (f d:Nat),2≤d→(∀ e,2≤e→e < d → ¬ e ∣ q)→smallB q f d=true→Irr q
 | 0,_,_,_,h=>by cases h
 | f+1,d,hd,hn,h=>by
  unfold smallB at h
  cases h1:Nat.ble (q+1) (d * d) with
  | true =>
   have h2:=Nat.le_of_ble_eq_true h1
   refine ⟨hq,fun e he => ?_⟩
   by_cases e1:e=1
   ·exact .inl e1
   by_cases e2:e=q
   ·exact .inr e2
   exfalso
   obtain ⟨c,hc⟩:=he
   have hc0:c ≠ 0:=fun h0=>by subst h0; omega
   have he0:e ≠ 0:=fun h0=>by subst h0; omega
   have hc1:c ≠ 1:=fun h0=>by subst h0; omega
   by_cases h3:e < d
   ·exact hn e (by omega) h3 ⟨c,hc⟩
   ·by_cases h4:c < d
    ·exact hn c (by omega) h4 ⟨e,by rw [Nat.mul_comm]; exact hc⟩
    ·have:d * d≤e * c:=Nat.mul_le_mul (by omega) (by omega)
     omega
  | false =>
   rw [h1,cond_false] at h
   cases h2:Nat.beq (q % d) 0 with
   | true=>rw [h2] at h; cases h
   | false =>
    rw [h2,cond_false] at h
    refine smallB_ok q hq f (d+1) (by omega) (fun e he1 he2 => ?_) h
    by_cases h3:e=d
    ·subst h3
     intro hdv
     have:=Nat.mod_eq_zero_of_dvd hdv
     rw [this] at h2
     cases h2
    ·exact hn e he1 (by omega)
theorem irr_small (q f:Nat) (hq:Nat.blt 1 q=true) (h:smallB q f 2=true):Irr q:=
 smallB_ok q (Nat.le_of_ble_eq_true hq) f 2 (by omega) (fun e h1 h2=>by omega) h
theorem pow_one_mul {n g a:Nat}(hn:1 < n) (h:g ^ a % n=1) (k:Nat):g ^ (a * k) % n=1:=by
 rw [Nat.pow_mul,Nat.pow_mod,h,Nat.one_pow]
 exact Nat.mod_eq_of_lt hn
theorem pow_gcd {n g:Nat}(hn:1 < n) (a b:Nat):g ^ a % n=1→g ^ b % n=1→g ^ (Nat.gcd a b) % n=1:=by
 induction a,b using Nat.gcd.induction with
 | H0 b=>intro _ h; rw [Nat.gcd_zero_left]; exact h
 | H1 a b ha ih =>
  intro h1 h2
  rw [Nat.gcd_rec]
  refine ih ?_ h1
  have e:g ^ b=g ^ (a * (b / a)) * g ^ (b % a):=by rw [← Nat.pow_add,Nat.div_add_mod]
  rw [e,Nat.mul_mod,pow_one_mul hn h1,Nat.one_mul,Nat.mod_mod] at h2
  exact h2
def prodQ:List Nat→Nat
 | []=>1
 | q::l=>q * prodQ l
theorem prodQ_dvd:∀ {l:List Nat}{q:Nat},q ∈ l→q ∣ prodQ l
 | x::l,q,h=>by
  rcases List.mem_cons.1 h with rfl | h
  ·exact Nat.dvd_mul_right q (prodQ l)
  ·exact Nat.dvd_trans (prodQ_dvd h) (Nat.dvd_mul_left _ _)
theorem dvd_less:∀ (l:List Nat) (g:Nat),(∀ q ∈ l,Irr q)→g ∣ prodQ l→g ≠ prodQ l→∃ q ∈ l,g ∣ prodQ l / q
 | [],g,_,h,hne=>by
  exfalso
  exact hne (Nat.dvd_one.1 h)
 | q::l,g,hl,h,hne=>by
  obtain ⟨hq1,hq2⟩:=hl q (List.mem_cons_self ..)
  have hq0:0 < q:=by omega
  have hdiv:prodQ (q::l) / q=prodQ l:=Nat.mul_div_cancel_left _ hq0
  rcases hq2 (Nat.gcd g q) (Nat.gcd_dvd_right g q) with e | e
  ·refine ⟨q,List.mem_cons_self ..,?_⟩
   rw [hdiv]
   exact Nat.Coprime.dvd_of_dvd_mul_left (k:=g) (m:=q) e h
  ·have hqg:q ∣ g:=e ▸ Nat.gcd_dvd_left g q
   obtain ⟨g',rfl⟩:=hqg
   have h1:g' ∣ prodQ l:=Nat.dvd_of_mul_dvd_mul_left hq0 h
   have h2:g' ≠ prodQ l:=fun e=>hne (by rw [e]; rfl)
   obtain ⟨r,hr,hd⟩:=dvd_less l g' (fun x hx=>hl x (List.mem_cons_of_mem _ hx)) h1 h2
   refine ⟨r,List.mem_cons_of_mem _ hr,?_⟩
   show q * g' ∣ q * prodQ l / r
   rw [Nat.mul_div_assoc _ (prodQ_dvd hr)]
   exact Nat.mul_dvd_mul_left q hd
theorem pigeon:∀ (m:Nat) (f:Nat→Nat),(∀ i,i < m→f i < m)→(∀ i j,i < m→j < m→f i=f j→i=j)→∀ a,a < m→∃ i,i < m∧f i=a
 | 0,_,_,_,a,h=>by omega
 | m+1,f,h1,h2,a,ha=>by
  have key:=pigeon m (fun i=>if f i=m then f m else f i) (fun i hi=>by
   show (if f i=m then f m else f i) < m
   split
   ·rename_i e
    have:=h1 m (by omega)
    have hne:f m ≠ m:=fun e2=>by
     have:=h2 i m (by omega) (by omega) (by rw [e,e2])
     omega
    omega
   ·have:=h1 i (by omega)
    omega) (fun i j hi hj he=>by
   have he:(if f i=m then f m else f i)=(if f j=m then f m else f j):=he
   split at he <;> split at he
   ·rename_i e1 e2
    exact h2 i j (by omega) (by omega) (by rw [e1,e2])
   ·have:=h2 m j (by omega) (by omega) he
    omega
   ·have:=h2 i m (by omega) (by omega) he
    omega
   ·exact h2 i j (by omega) (by omega) he)
  by_cases e1:a=f m
  ·exact ⟨m,by omega,e1.symm⟩
  by_cases e2:a=m
  ·obtain ⟨i,hi,he⟩:=key (f m) (by have:=h1 m (by omega); omega)
   have he:(if f i=m then f m else f i)=f m:=he
   split at he
   ·rename_i e3
    exact ⟨i,by omega,by rw [e3,e2]⟩
   ·have:=h2 i m (by omega) (by omega) he
    omega
  ·obtain ⟨i,hi,he⟩:=key a (by omega)
   have he:(if f i=m then f m else f i)=a:=he
   split at he
   ·exact absurd he.symm e1
   ·exact ⟨i,by omega,he⟩
structure Gen (n g:Nat):Prop where
 one:1 < n
 full:g ^ (n - 1) % n=1
 ord:∀ k,g ^ k % n=1→(n - 1) ∣ k
theorem gen_of (n g:Nat) (l:List Nat) (hn:1 < n) (hl:∀ q ∈ l,Irr q) (hp:prodQ l=n - 1) (h1:g ^ (n - 1) % n=1) (h2:∀ q ∈ l,g ^ ((n - 1) / q) % n ≠ 1):Gen n g:=by
 refine ⟨hn,h1,fun k hk => ?_⟩
 have hd:=pow_gcd hn k (n - 1) hk h1
 by_cases e:Nat.gcd k (n - 1)=n - 1
 ·rw [← e]; exact Nat.gcd_dvd_left k (n - 1)
 ·exfalso
  obtain ⟨q,hq,c,hc⟩:=dvd_less l (Nat.gcd k (n - 1)) hl (hp ▸ Nat.gcd_dvd_right k (n - 1)) (hp.symm ▸ e)
  rw [hp] at hc
  exact h2 q hq (by rw [hc]; exact pow_one_mul hn hd c)
theorem Gen.ne_zero {n g:Nat}(h:Gen n g) (k:Nat):g ^ k % n ≠ 0:=fun e=>by
 have h1:=pow_one_mul h.one h.full k
 have hn:=h.one
 obtain ⟨m,hm⟩:∃ m,n - 1=m+1:=⟨n - 2,by omega⟩
 rw [hm,Nat.succ_mul,Nat.pow_add,Nat.mul_mod,e,Nat.mul_zero,Nat.zero_mod] at h1
 cases h1
theorem Gen.inj {n g:Nat}(h:Gen n g){i j:Nat}(hij:i≤j) (hj:j < n - 1) (e:g ^ i % n=g ^ j % n):i=j:=by
 have hn:=h.one
 have e2:g ^ (j - i) % n=1:=by
  have a1:(g ^ (n - 1 - i) * g ^ i) % n=(g ^ (n - 1 - i) * g ^ j) % n:=by rw [Nat.mul_mod,e,← Nat.mul_mod]
  rw [← Nat.pow_add,← Nat.pow_add,show n - 1 - i+i=n - 1 by omega,h.full,show n - 1 - i+j=(n - 1)+(j - i) by omega,Nat.pow_add,Nat.mul_mod,h.full,Nat.one_mul,Nat.mod_mod] at a1
  exact a1.symm
 obtain ⟨c,hc⟩:=h.ord _ e2
 cases c with
 | zero=>omega
 | succ c =>
  exfalso
  have:n - 1≤(n - 1) * (c+1):=Nat.le_mul_of_pos_right _ (by omega)
  omega
theorem Gen.gens {n g:Nat}(h:Gen n g) (a:Nat) (h0:0 < a) (ha:a < n):∃ i,i < n - 1∧g ^ i % n=a:=by
 have hn:=h.one
 obtain ⟨i,hi,e⟩:=pigeon (n - 1) (fun i=>g ^ i % n - 1) (fun i hi=>by
   have:=h.ne_zero i
   have:=Nat.mod_lt (g ^ i) (show 0 < n by omega)
   show g ^ i % n - 1 < n - 1
   omega) (fun i j hi hj e=>by
   have a1:=h.ne_zero i
   have a2:=h.ne_zero j
   have e:g ^ i % n - 1=g ^ j % n - 1:=e
   rcases Nat.le_total i j with k | k
   ·exact h.inj k hj (by omega)
   ·exact (h.inj k hi (by omega)).symm) (a - 1) (by omega)
 have e:g ^ i % n - 1=a - 1:=e
 have:=h.ne_zero i
 exact ⟨i,hi,by omega⟩
theorem Gen.irr {n g:Nat}(h:Gen n g):Irr n:=by
 refine ⟨h.one,fun d hd => ?_⟩
 have hn:=h.one
 by_cases e1:d=1
 ·exact .inl e1
 by_cases e2:d=n
 ·exact .inr e2
 exfalso
 obtain ⟨c,hc⟩:=hd
 have hd0:d ≠ 0:=fun e=>by subst e; omega
 have hc0:c ≠ 0:=fun e=>by subst e; omega
 have hc1:c ≠ 1:=fun e=>by subst e; omega
 have hdn:d < n:=by rw [hc]; exact (Nat.lt_mul_iff_one_lt_right (by omega)).2 (by omega)
 have hcn:c < n:=by rw [hc]; exact (Nat.lt_mul_iff_one_lt_left (by omega)).2 (by omega)
 obtain ⟨i,_,hi⟩:=h.gens d (by omega) hdn
 obtain ⟨j,_,hj⟩:=h.gens c (by omega) hcn
 refine h.ne_zero (i+j) ?_
 rw [Nat.pow_add,Nat.mul_mod,hi,hj,← hc,Nat.mod_self]
def pwB (n a x:Nat):List Bool→Nat
 | []=>x
 | b::l=>pwB n a (cond b (x * x % n * a % n) (x * x % n)) l
def bN (k:Nat):List Bool→Nat
 | []=>k
 | b::l=>bN (cond b (k+k+1) (k+k)) l
theorem pwB_val (n a:Nat):∀ (l:List Bool) (x k:Nat),x=a ^ k % n→pwB n a x l=a ^ (bN k l) % n
 | [],x,k,h=>h
 | b::l,x,k,h=>by
  unfold pwB bN
  refine pwB_val n a l _ _ ?_
  have e:x * x % n=a ^ (k+k) % n:=by rw [h,Nat.pow_add,← Nat.mul_mod]
  cases b with
  | false=>exact e
  | true =>
   show x * x % n * a % n=a ^ (k+k+1) % n
   rw [e,Nat.pow_succ,Nat.mod_mul_mod]
def bitsOf (e:Nat):List Bool:=(List.range 256).map fun i=>e.testBit (255 - i)
def pwE (n a e:Nat):Nat:=pwB n a 1 (bitsOf e)
theorem pwE_val {n a e:Nat}(hn:1 < n) (h:bN 0 (bitsOf e)=e):a ^ e % n=pwE n a e:=by
 have:=pwB_val n a (bitsOf e) 1 0 (by rw [Nat.pow_zero]; exact (Nat.mod_eq_of_lt hn).symm)
 unfold pwE
 rw [this,h]
def certB (n g:Nat) (l:List Nat):Bool:=
 Nat.blt 1 n && (Nat.beq (prodQ l) (n - 1) && (Nat.beq (bN 0 (bitsOf (n - 1))) (n - 1) && (Nat.beq (pwE n g (n - 1)) 1 && l.all fun q=>Nat.beq (bN 0 (bitsOf ((n - 1) / q))) ((n - 1) / q) && !Nat.beq (pwE n g ((n - 1) / q)) 1)))
theorem gen_cert (n g:Nat) (l:List Nat) (hl:∀ q ∈ l,Irr q) (h:certB n g l=true):Gen n g:=by
 unfold certB at h
 simp only [Bool.and_eq_true,List.all_eq_true,Bool.not_eq_true'] at h
 obtain ⟨h1,h2,h3,h4,h5⟩:=h
 have hn:1 < n:=Nat.le_of_ble_eq_true h1
 refine gen_of n g l hn hl (Nat.eq_of_beq_eq_true h2) ?_ fun q hq => ?_
 ·rw [pwE_val hn (Nat.eq_of_beq_eq_true h3)]
  exact Nat.eq_of_beq_eq_true h4
 ·obtain ⟨a,b⟩:=h5 q hq
  rw [pwE_val hn (Nat.eq_of_beq_eq_true a)]
  intro e
  rw [e] at b
  cases b
theorem gen8574133:Gen 8574133 2:=gen_cert 8574133 2 [2,2,3,7,103,991] (fun q hq=>by
 simp only [List.mem_cons,List.mem_nil_iff,or_false] at hq
 rcases hq with rfl | rfl | rfl | rfl | rfl | rfl
 ·exact (irr_small 2 2000 rfl (by kernel_rfl))
 ·exact (irr_small 2 2000 rfl (by kernel_rfl))
 ·exact (irr_small 3 2000 rfl (by kernel_rfl))
 ·exact (irr_small 7 2000 rfl (by kernel_rfl))
 ·exact (irr_small 103 2000 rfl (by kernel_rfl))
 ·exact (irr_small 991 2000 rfl (by kernel_rfl))
 ) (by kernel_rfl)
theorem irr8574133:Irr 8574133:=gen8574133.irr
theorem gen1919519569386763:Gen 1919519569386763 2:=gen_cert 1919519569386763 2 [2,3,7,19,47,47,127,8574133] (fun q hq=>by
 simp only [List.mem_cons,List.mem_nil_iff,or_false] at hq
 rcases hq with rfl | rfl | rfl | rfl | rfl | rfl | rfl | rfl
 ·exact (irr_small 2 2000 rfl (by kernel_rfl))
 ·exact (irr_small 3 2000 rfl (by kernel_rfl))
 ·exact (irr_small 7 2000 rfl (by kernel_rfl))
 ·exact (irr_small 19 2000 rfl (by kernel_rfl))
 ·exact (irr_small 47 2000 rfl (by kernel_rfl))
 ·exact (irr_small 47 2000 rfl (by kernel_rfl))
 ·exact (irr_small 127 2000 rfl (by kernel_rfl))
 ·exact (irr8574133)
 ) (by kernel_rfl)
theorem irr1919519569386763:Irr 1919519569386763:=gen1919519569386763.irr
theorem gen2773320623:Gen 2773320623 5:=gen_cert 2773320623 5 [2,2437,569003] (fun q hq=>by
 simp only [List.mem_cons,List.mem_nil_iff,or_false] at hq
 rcases hq with rfl | rfl | rfl
 ·exact (irr_small 2 2000 rfl (by kernel_rfl))
 ·exact (irr_small 2437 2000 rfl (by kernel_rfl))
 ·exact (irr_small 569003 2000 rfl (by kernel_rfl))
 ) (by kernel_rfl)
theorem irr2773320623:Irr 2773320623:=gen2773320623.irr
theorem gen72106336199:Gen 72106336199 7:=gen_cert 72106336199 7 [2,13,2773320623] (fun q hq=>by
 simp only [List.mem_cons,List.mem_nil_iff,or_false] at hq
 rcases hq with rfl | rfl | rfl
 ·exact (irr_small 2 2000 rfl (by kernel_rfl))
 ·exact (irr_small 13 2000 rfl (by kernel_rfl))
 ·exact (irr2773320623)
 ) (by kernel_rfl)
theorem irr72106336199:Irr 72106336199:=gen72106336199.irr
theorem gen75445702479781427272750846543864801:Gen 75445702479781427272750846543864801 7:=gen_cert 75445702479781427272750846543864801 7 [2,2,2,2,2,3,3,5,5,75707,72106336199,1919519569386763] (fun q hq=>by
 simp only [List.mem_cons,List.mem_nil_iff,or_false] at hq
 rcases hq with rfl | rfl | rfl | rfl | rfl | rfl | rfl | rfl | rfl | rfl | rfl | rfl
 ·exact (irr_small 2 2000 rfl (by kernel_rfl))
 ·exact (irr_small 2 2000 rfl (by kernel_rfl))
 ·exact (irr_small 2 2000 rfl (by kernel_rfl))
 ·exact (irr_small 2 2000 rfl (by kernel_rfl))
 ·exact (irr_small 2 2000 rfl (by kernel_rfl))
 ·exact (irr_small 3 2000 rfl (by kernel_rfl))
 ·exact (irr_small 3 2000 rfl (by kernel_rfl))
 ·exact (irr_small 5 2000 rfl (by kernel_rfl))
 ·exact (irr_small 5 2000 rfl (by kernel_rfl))
 ·exact (irr_small 75707 2000 rfl (by kernel_rfl))
 ·exact (irr72106336199)
 ·exact (irr1919519569386763)
 ) (by kernel_rfl)
theorem irr75445702479781427272750846543864801:Irr 75445702479781427272750846543864801:=gen75445702479781427272750846543864801.irr
theorem gen31757755568855353:Gen 31757755568855353 10:=gen_cert 31757755568855353 10 [2,2,2,3,31,107,223,4153,430751] (fun q hq=>by
 simp only [List.mem_cons,List.mem_nil_iff,or_false] at hq
 rcases hq with rfl | rfl | rfl | rfl | rfl | rfl | rfl | rfl | rfl
 ·exact (irr_small 2 2000 rfl (by kernel_rfl))
 ·exact (irr_small 2 2000 rfl (by kernel_rfl))
 ·exact (irr_small 2 2000 rfl (by kernel_rfl))
 ·exact (irr_small 3 2000 rfl (by kernel_rfl))
 ·exact (irr_small 31 2000 rfl (by kernel_rfl))
 ·exact (irr_small 107 2000 rfl (by kernel_rfl))
 ·exact (irr_small 223 2000 rfl (by kernel_rfl))
 ·exact (irr_small 4153 2000 rfl (by kernel_rfl))
 ·exact (irr_small 430751 2000 rfl (by kernel_rfl))
 ) (by kernel_rfl)
theorem irr31757755568855353:Irr 31757755568855353:=gen31757755568855353.irr
theorem gen74058212732561358302231226437062788676166966415465897661863160754340907:Gen 74058212732561358302231226437062788676166966415465897661863160754340907 2:=gen_cert 74058212732561358302231226437062788676166966415465897661863160754340907 2 [2,3,353,57467,132049,1923133,31757755568855353,75445702479781427272750846543864801] (fun q hq=>by
 simp only [List.mem_cons,List.mem_nil_iff,or_false] at hq
 rcases hq with rfl | rfl | rfl | rfl | rfl | rfl | rfl | rfl
 ·exact (irr_small 2 2000 rfl (by kernel_rfl))
 ·exact (irr_small 3 2000 rfl (by kernel_rfl))
 ·exact (irr_small 353 2000 rfl (by kernel_rfl))
 ·exact (irr_small 57467 2000 rfl (by kernel_rfl))
 ·exact (irr_small 132049 2000 rfl (by kernel_rfl))
 ·exact (irr_small 1923133 2000 rfl (by kernel_rfl))
 ·exact (irr31757755568855353)
 ·exact (irr75445702479781427272750846543864801)
 ) (by kernel_rfl)
theorem irr74058212732561358302231226437062788676166966415465897661863160754340907:Irr 74058212732561358302231226437062788676166966415465897661863160754340907:=gen74058212732561358302231226437062788676166966415465897661863160754340907.irr
theorem gen57896044618658097711785492504343953926634992332820282019728792003956564819949:Gen 57896044618658097711785492504343953926634992332820282019728792003956564819949 2:=gen_cert 57896044618658097711785492504343953926634992332820282019728792003956564819949 2 [2,2,3,65147,74058212732561358302231226437062788676166966415465897661863160754340907] (fun q hq=>by
 simp only [List.mem_cons,List.mem_nil_iff,or_false] at hq
 rcases hq with rfl | rfl | rfl | rfl | rfl
 ·exact (irr_small 2 2000 rfl (by kernel_rfl))
 ·exact (irr_small 2 2000 rfl (by kernel_rfl))
 ·exact (irr_small 3 2000 rfl (by kernel_rfl))
 ·exact (irr_small 65147 2000 rfl (by kernel_rfl))
 ·exact (irr74058212732561358302231226437062788676166966415465897661863160754340907)
 ) (by kernel_rfl)
end Go.Num
namespace Go.Num
open Go Go.Eng
theorem pow_congr {P a b:Nat}(h:a % P=b % P) (k:Nat):a ^ k % P=b ^ k % P:=by rw [Nat.pow_mod,h,← Nat.pow_mod]
theorem mul_congr {P a b c d:Nat}(h:a % P=b % P) (k:c % P=d % P):a * c % P=b * d % P:=by rw [Nat.mul_mod,h,k,← Nat.mul_mod]
theorem Gen.rep {P g:Nat}(h:Gen P g){a:Nat}(ha:a % P ≠ 0):∃ k,g ^ k % P=a % P:=by
 have h1:=h.one
 obtain ⟨k,_,e⟩:=h.gens (a % P) (by omega) (Nat.mod_lt _ (by omega))
 exact ⟨k,e⟩
theorem Gen.fermat {P g:Nat}(h:Gen P g){a:Nat}(ha:a % P ≠ 0):a ^ (P - 1) % P=1:=by
 obtain ⟨k,e⟩:=h.rep ha
 rw [← pow_congr e (P - 1),← Nat.pow_mul,Nat.mul_comm]
 exact pow_one_mul h.one h.full k
theorem Gen.inv {P g:Nat}(h:Gen P g) (h3:3≤P){a:Nat}(ha:a % P ≠ 0):a * a ^ (P - 2) % P=1:=by
 rw [Nat.mul_comm,← Nat.pow_succ,Nat.succ_eq_add_one,show P - 2+1=P - 1 by omega]
 exact h.fermat ha
theorem Gen.cancel {P g:Nat}(h:Gen P g) (h3:3≤P){a s t:Nat}(ha:a % P ≠ 0) (e:a * s % P=a * t % P):s % P=t % P:=by
 have i:=h.inv h3 ha
 have hone:(1:Nat) % P=1:=Nat.mod_eq_of_lt h.one
 have e1:∀ u:Nat,a ^ (P - 2) * (a * u) % P=u % P:=fun u=>by
  have:a ^ (P - 2) * (a * u)=a * a ^ (P - 2) * u:=by
   rw [← Nat.mul_assoc,Nat.mul_comm (a ^ (P - 2)) a]
  rw [this,Nat.mul_mod,i,Nat.one_mul,Nat.mod_mod]
 have e2:=mul_congr (rfl:a ^ (P - 2) % P=a ^ (P - 2) % P) e
 rw [e1,e1] at e2
 exact e2
theorem Gen.quarter {P g:Nat}(h:Gen P g){m:Nat}(hm:P - 1=4 * m) (k:Nat):g ^ (m * k) % P=1 ↔ 4 ∣ k:=by
 have h1:=h.one
 have hm0:0 < m:=by omega
 constructor
 ·intro e
  have:=h.ord _ e
  rw [hm,Nat.mul_comm 4 m] at this
  exact Nat.dvd_of_mul_dvd_mul_left hm0 this
 ·rintro ⟨c,rfl⟩
  rw [← Nat.mul_assoc,Nat.mul_comm m 4,← hm]
  exact pow_one_mul h.one h.full c
theorem Gen.sq0 {P g:Nat}(h:Gen P g){m e:Nat}(he:2 * e=m+1){k a c0:Nat}(hk:g ^ k % P=a % P) (hc:c0 % P=a ^ e % P):c0 * c0 % P=a * g ^ (m * k) % P:=by
 rw [mul_congr hc hc,← Nat.pow_add,show e+e=m+1 by omega,Nat.pow_succ,Nat.mul_comm]
 refine mul_congr rfl ?_
 rw [← pow_congr hk m,← Nat.pow_mul,Nat.mul_comm k m]
theorem Gen.root_a {P g:Nat}(h:Gen P g) (h3:3≤P){m e:Nat}(hm:P - 1=4 * m) (he:2 * e=m+1){k a c0:Nat}(ha:a % P ≠ 0) (hk:g ^ k % P=a % P) (hc:c0 % P=a ^ e % P):c0 * c0 % P=a % P ↔ 4 ∣ k:=by
 rw [h.sq0 he hk hc,← h.quarter hm k]
 have hone:(1:Nat) % P=1:=Nat.mod_eq_of_lt h.one
 constructor
 ·intro e1
  have:=h.cancel h3 (s:=g ^ (m * k)) (t:=1) ha (by rw [e1,Nat.mul_one])
  rw [this,hone]
 ·intro e1
  rw [Nat.mul_mod,e1,Nat.mul_one,Nat.mod_mod]
theorem Gen.root_b {P g:Nat}(h:Gen P g) (h3:3≤P){m e:Nat}(hm:P - 1=4 * m) (he:2 * e=m+1){k a c0 i:Nat}(ha:a % P ≠ 0) (hk:g ^ k % P=a % P) (hc:c0 % P=a ^ e % P) (hi:i % P=g ^ m % P):c0 * i * (c0 * i) % P=a % P ↔ 4 ∣ k+2:=by
 have e0:c0 * i * (c0 * i) % P=a * g ^ (m * (k+2)) % P:=by
  have e1:c0 * i * (c0 * i)=c0 * c0 * (i * i):=by
   rw [Nat.mul_mul_mul_comm]
  rw [e1,mul_congr (h.sq0 he hk hc) (mul_congr hi hi),Nat.mul_assoc,← Nat.pow_add,← Nat.pow_add]
  rw [show m * k+(m+m)=m * (k+2) by rw [Nat.mul_add]; omega]
 rw [e0,← h.quarter hm (k+2)]
 have hone:(1:Nat) % P=1:=Nat.mod_eq_of_lt h.one
 constructor
 ·intro e1
  have:=h.cancel h3 (s:=g ^ (m * (k+2))) (t:=1) ha (by rw [e1,Nat.mul_one])
  rw [this,hone]
 ·intro e1
  rw [Nat.mul_mod,e1,Nat.mul_one,Nat.mod_mod]
structure Vm (x:E5) (n:Nat):Prop where
 ok:x.ok
 val:x.val % Pq=n % Pq
theorem Vm.self {x:E5}(h:x.ok):Vm x x.val:=⟨h,rfl⟩
theorem Vm.add {x y:E5}{n m:Nat}(h:Vm x n) (k:Vm y m):Vm (addE x y) (n+m):=by
 obtain ⟨o,e⟩:=addE_val x y h.ok k.ok
 exact ⟨o,by rw [e,Nat.add_mod,h.val,k.val,← Nat.add_mod]⟩
theorem Vm.mul {x y:E5}{n m:Nat}(h:Vm x n) (k:Vm y m):Vm (mulE x y) (n * m):=by
 obtain ⟨o,e⟩:=mulE_val x y h.ok k.ok
 exact ⟨o,by rw [e]; exact mul_congr h.val k.val⟩
theorem Vm.sub {x y:E5}{n m:Nat}(h:Vm x n) (k:Vm y m):Vm (subE x y) (n+(Pq - m % Pq)):=by
 obtain ⟨o,e,hle⟩:=subE_val x y h.ok k.ok
 refine ⟨o,?_⟩
 rw [e,sub_mod _ _ _ Pq_pos hle,k.val,h.val,← Nat.add_mod_mod,Nat.add_mod_mod,Nat.add_mod]
 rw [Nat.mod_mod,← Nat.add_mod]
theorem Vm.neg {x:E5}{n:Nat}(h:Vm x n):Vm (negE x) (Pq - n % Pq):=by
 obtain ⟨o,e⟩:=neg_nat h.ok
 exact ⟨o,by rw [e,h.val]⟩
theorem vm_zero:Vm zeroE 0:=⟨zeroE_ok,by rw [zeroE_val]⟩
theorem vm_small (n:UInt32):Vm (smallE n) n.toNat:=⟨(smallE_val n).1,by rw [(smallE_val n).2]⟩
theorem Vm.same {x y:E5}{n m:Nat}(h:Vm x n) (k:Vm y m):sameE x y=decide (n % Pq=m % Pq):=by rw [sameE_eq,h.val,k.val]
theorem genP:Gen Pq 2:=gen57896044618658097711785492504343953926634992332820282019728792003956564819949
theorem P3:3≤Pq:=by decide
theorem fInv:eInv=Pq - 2:=by kernel_rfl
def mP:Nat:=14474011154664524427946373126085988481658748083205070504932198000989141204987
def rP:Nat:=7237005577332262213973186563042994240829374041602535252466099000494570602494
theorem mP_eq:Pq - 1=4 * mP:=by decide
theorem rP_eq:2 * rP=mP+1:=by decide
theorem fRoot:eRoot=rP:=by kernel_rfl
theorem vm_inv {a:E5}{n:Nat}(h:Vm a n):Vm (invE a) (n ^ (Pq - 2)):=by
 have p:=pow_inv h.ok
 refine ⟨p.ok,?_⟩
 rw [p.val,fInv]
 generalize Pq - 2=e
 exact pow_congr h.val e
theorem vm_root0 {a:E5}{n:Nat}(h:Vm a n):Vm (root0E a) (n ^ rP):=by
 have p:=pow_root h.ok
 refine ⟨p.ok,?_⟩
 rw [p.val,fRoot]
 generalize rP=e
 exact pow_congr h.val e
theorem bits_mP:bitsNat 0 (bitsL 253 5)=mP:=by kernel_rfl
theorem iNat_pow:iNat % Pq=2 ^ mP % Pq:=by
 have h:=natF_val 2 (bitsL 253 5) 1 0 (one_mod _)
 rw [iNat_eq,bits_mP] at h
 rw [iNat_mod]
 exact h
theorem vm_turned:Vm turnedE iNat:=⟨turned_ok,by rw [turned_val]⟩
theorem same_mul_root0 {a:E5}(ha:a.ok) (h0:a.val % Pq ≠ 0){k:Nat}(hk:2 ^ k % Pq=a.val % Pq) :
  sameE (mulE (root0E a) (root0E a)) a=decide (4 ∣ k):=by
 have v0:=vm_root0 (Vm.self ha)
 rw [(v0.mul v0).same (Vm.self ha)]
 have hh:=genP.root_a P3 mP_eq rP_eq h0 hk (c0:=a.val ^ rP) rfl
 revert hh
 generalize a.val ^ rP * a.val ^ rP % Pq=x
 intro hh
 exact decide_eq_decide.2 hh
theorem same_mul_root0i {a:E5}(ha:a.ok) (h0:a.val % Pq ≠ 0){k:Nat}(hk:2 ^ k % Pq=a.val % Pq) :
  sameE (mulE (mulE (root0E a) turnedE) (mulE (root0E a) turnedE)) a=decide (4 ∣ k+2):=by
 have v0:=(vm_root0 (Vm.self ha)).mul vm_turned
 rw [(v0.mul v0).same (Vm.self ha)]
 have hh:=genP.root_b P3 mP_eq rP_eq h0 hk (c0:=a.val ^ rP) rfl iNat_pow
 revert hh
 generalize a.val ^ rP * iNat * (a.val ^ rP * iNat) % Pq=x
 intro hh
 exact decide_eq_decide.2 hh
theorem root1_ok {a:E5}(ha:a.ok):(root1E a).ok:=(root1_nat ha).1
theorem has_iff {a:E5}(ha:a.ok) (h0:a.val % Pq ≠ 0){k:Nat}(hk:2 ^ k % Pq=a.val % Pq):hasE a=decide (k % 2=0):=by
 have h1:=same_mul_root0 ha h0 hk
 have h2:=same_mul_root0i ha h0 hk
 have hu:hasE a=sameE (mulE (root1E a) (root1E a)) a:=rfl
 rw [hu,root1E_eq,h1]
 by_cases h:4 ∣ k
 ·rw [decide_eq_true h,if_pos rfl,h1,decide_eq_true h]
  exact (decide_eq_true (by omega)).symm
 ·rw [decide_eq_false h,if_neg (by simp),h2]
  exact decide_eq_decide.2 (by omega)
theorem root_sq {a:E5}(ha:a.ok) (h:hasE a=true):sameE (mulE (rootE a) (rootE a)) a=true:=by
 have h1:sameE (mulE (root1E a) (root1E a)) a=true:=h
 have v1:=Vm.self (root1_ok ha)
 rw [rootE_eq,if_pos h]
 by_cases h2:oddE (root1E a)=true
 ·rw [if_pos h2]
  rw [(v1.neg.mul v1.neg).same (Vm.self ha),decide_eq_true_iff]
  rw [(v1.mul v1).same (Vm.self ha),decide_eq_true_iff] at h1
  rw [← h1]
  generalize (root1E a).val=x
  have hlt:=Nat.mod_lt x Pq_pos
  have e:(Pq - x % Pq) * (Pq - x % Pq)+2 * Pq * (x % Pq)=Pq * Pq+(x % Pq) * (x % Pq):=by
   generalize x % Pq=y at hlt
   obtain ⟨z,hz⟩:∃ z,Pq=z+y:=⟨Pq - y,by omega⟩
   rw [hz,Nat.add_sub_cancel]
   grind
  have e2:((Pq - x % Pq) * (Pq - x % Pq)+2 * Pq * (x % Pq)) % Pq=(Pq - x % Pq) * (Pq - x % Pq) % Pq:=by
   rw [show 2 * Pq * (x % Pq)=Pq * (2 * (x % Pq)) by rw [Nat.mul_comm 2 Pq,Nat.mul_assoc]]
   exact Nat.add_mul_mod_self_left _ _ _
  rw [← e2,e,Nat.add_comm,Nat.add_mul_mod_self_left,← Nat.mul_mod]
 ·rw [if_neg h2]
  exact h1
theorem neg_even {P y:Nat}(hP:P % 2=1) (hlt:y < P) (hy:y % 2=1):¬ (P - y) % P % 2=1:=by
 rw [Nat.mod_eq_of_lt (show P - y < P by omega)]
 omega
theorem P_odd:Pq % 2=1:=by decide
theorem root_even {a:E5}(ha:a.ok):oddE (rootE a)=false:=by
 rw [rootE_eq]
 by_cases h:hasE a=true
 ·rw [if_pos h]
  by_cases h2:oddE (root1E a)=true
  ·rw [if_pos h2,oddE_eq,(neg_nat (root1_ok ha)).2,decide_eq_false_iff_not]
   rw [oddE_eq,decide_eq_true_iff] at h2
   have hlt:=Nat.mod_lt (root1E a).val Pq_pos
   exact neg_even P_odd hlt h2
  ·rw [if_neg h2]
   exact Bool.eq_false_iff.2 h2
 ·rw [if_neg h,oddE_eq,zeroE_val,decide_eq_false_iff_not,Nat.zero_mod]
  omega
theorem zero_pow_mod {P e:Nat}(he:0 < e):0 ^ e % P=0 % P:=by rw [Nat.zero_pow he]
theorem rP_pos:0 < rP:=by decide
theorem has_zero {a:E5}(ha:a.ok) (h0:a.val % Pq=0):hasE a=true∧sameE (rootE a) zeroE=true:=by
 have z0:Vm a 0:=⟨ha,h0⟩
 have r0:Vm (root0E a) 0:=by
  have:=vm_root0 z0
  refine ⟨this.ok,?_⟩
  rw [this.val]
  exact zero_pow_mod rP_pos
 have r1:root1E a=root0E a:=by
  rw [root1E_eq,if_pos]
  rw [(r0.mul r0).same z0]
  exact decide_eq_true rfl
 have hh:hasE a=true:=by
  show sameE (mulE (root1E a) (root1E a)) a=true
  rw [r1,(r0.mul r0).same z0]
  exact decide_eq_true rfl
 refine ⟨hh,?_⟩
 rw [rootE_eq,if_pos hh,r1]
 have ho:oddE (root0E a)=false:=by
  rw [oddE_eq,r0.val]; decide
 rw [ho,if_neg (by simp),r0.same vm_zero]
 exact decide_eq_true rfl
theorem inv_one {a:E5}(ha:a.ok):sameE (mulE a (invE a)) (smallE 1)=decide (a.val % Pq ≠ 0):=by
 have v:=Vm.self ha
 rw [(v.mul (vm_inv v)).same (vm_small 1)]
 refine decide_eq_decide.2 ?_
 have e1:(1:UInt32).toNat % Pq=1:=by decide
 rw [e1]
 constructor
 ·intro h h0
  rw [Nat.mul_mod,h0,Nat.zero_mul,Nat.zero_mod] at h
  cases h
 ·exact fun h=>genP.inv P3 h
end Go.Num
namespace Go.Num
open Go Go.Eng
structure Ops (R:Type) where
 add:R→R→R
 sub:R→R→R
 mul:R→R→R
 small:UInt32→R
 zero:R
structure P2 (R:Type) where
 x:R
 z:R
def stepO {R:Type}(o:Ops R) (p q:P2 R) (u:R):P2 R × P2 R:=
  (⟨o.mul (o.mul (o.add p.x p.z) (o.add p.x p.z)) (o.mul (o.sub p.x p.z) (o.sub p.x p.z)),
    o.mul (o.sub (o.mul (o.add p.x p.z) (o.add p.x p.z)) (o.mul (o.sub p.x p.z) (o.sub p.x p.z))) (o.add (o.mul (o.add p.x p.z) (o.add p.x p.z)) (o.mul (o.small 121665) (o.sub (o.mul (o.add p.x p.z) (o.add p.x p.z)) (o.mul (o.sub p.x p.z) (o.sub p.x p.z)))))⟩,
   ⟨o.mul (o.add (o.mul (o.sub q.x q.z) (o.add p.x p.z)) (o.mul (o.add q.x q.z) (o.sub p.x p.z))) (o.add (o.mul (o.sub q.x q.z) (o.add p.x p.z)) (o.mul (o.add q.x q.z) (o.sub p.x p.z))),
    o.mul u (o.mul (o.sub (o.mul (o.sub q.x q.z) (o.add p.x p.z)) (o.mul (o.add q.x q.z) (o.sub p.x p.z))) (o.sub (o.mul (o.sub q.x q.z) (o.add p.x p.z)) (o.mul (o.add q.x q.z) (o.sub p.x p.z))))⟩)
def rndO {R:Type}(o:Ops R) (u:R) (b:Bool) (s:P2 R × P2 R):P2 R × P2 R:=
 cond b ((stepO o s.2 s.1 u).2,(stepO o s.2 s.1 u).1) (stepO o s.1 s.2 u)
def bitB (k:List UInt8) (i:Nat):UInt8:=shr_u8 (k.getD (i / 8) 0) (i % 8) &&& 1
def bitK (k:List UInt8) (i:Nat):Bool:=bitB k i == 1
def ladO {R:Type}(o:Ops R) (k:List UInt8) (u:R):Nat→P2 R × P2 R
 | 0=>(⟨o.small 1,o.zero⟩,⟨u,o.small 1⟩)
 | j+1=>rndO o u (bitK k (254 - j)) (ladO o k u j)
structure Keeps {R S:Type} (o:Ops R) (o':Ops S) (r:R→S→Prop):Prop where
 add:∀ {a b x y},r a x→r b y→r (o.add a b) (o'.add x y)
 sub:∀ {a b x y},r a x→r b y→r (o.sub a b) (o'.sub x y)
 mul:∀ {a b x y},r a x→r b y→r (o.mul a b) (o'.mul x y)
 small:∀ n,r (o.small n) (o'.small n)
 zero:r o.zero o'.zero
def R2 {R S:Type}(r:R→S→Prop) (p:P2 R) (q:P2 S):Prop:=r p.x q.x∧r p.z q.z
theorem step_keeps {R S:Type}{o:Ops R}{o':Ops S}{r:R→S→Prop}(k:Keeps o o' r){p q:P2 R}{p' q':P2 S}{u:R}{u':S}(hp:R2 r p p') (hq:R2 r q q') (hu:r u u') :
  R2 r (stepO o p q u).1 (stepO o' p' q' u').1∧R2 r (stepO o p q u).2 (stepO o' p' q' u').2:=by
 have a:=k.add hp.1 hp.2
 have d:=k.sub hp.1 hp.2
 have aa:=k.mul a a
 have dd:=k.mul d d
 have e:=k.sub aa dd
 have da:=k.mul (k.sub hq.1 hq.2) a
 have cb:=k.mul (k.add hq.1 hq.2) d
 have s:=k.add da cb
 have t:=k.sub da cb
 exact ⟨⟨k.mul aa dd,k.mul e (k.add aa (k.mul (k.small _) e))⟩,⟨k.mul s s,k.mul hu (k.mul t t)⟩⟩
theorem lad_keeps {R S:Type}{o:Ops R}{o':Ops S}{r:R→S→Prop}(k:Keeps o o' r) (l:List UInt8){u:R}{u':S}(hu:r u u') :
  ∀ j,R2 r (ladO o l u j).1 (ladO o' l u' j).1∧R2 r (ladO o l u j).2 (ladO o' l u' j).2
 | 0=>⟨⟨k.small 1,k.zero⟩,⟨hu,k.small 1⟩⟩
 | j+1=>by
  have ih:=lad_keeps k l hu j
  unfold ladO rndO
  cases bitK l (254 - j) with
  | false=>exact step_keeps k ih.1 ih.2 hu
  | true =>
   have:=step_keeps k ih.2 ih.1 hu
   exact ⟨this.2,this.1⟩
def opsE:Ops E5:=⟨addE,subE,mulE,smallE,zeroE⟩
def opsN:Ops N16:=⟨addP,subP,mulP,smallN,zeroN⟩
def opsM:Ops Nat:=⟨fun a b=>(a+b) % Pq,fun a b=>(a+(Pq - b)) % Pq,fun a b=>a * b % Pq,fun n=>n.toNat,0⟩
theorem keeps_EN:Keeps opsE opsN Rel:=⟨rel_add,rel_sub,rel_mul,rel_small,rel_zero⟩
structure RelM (a:E5) (n:Nat):Prop where
 ok:a.ok
 val:a.val % Pq=n
theorem relM (a:E5) (h:a.ok):RelM a (a.val % Pq):=⟨h,rfl⟩
theorem RelM.lt {a:E5}{n:Nat}(h:RelM a n):n < Pq:=by rw [← h.val]; exact Nat.mod_lt _ Pq_pos
theorem keeps_EM:Keeps opsE opsM RelM where
 add {a b x y} h k:=by
  obtain ⟨o,e⟩:=addE_val a b h.ok k.ok
  exact ⟨o,by show _=(x+y) % Pq; rw [← h.val,← k.val,← Nat.add_mod]; exact e⟩
 sub {a b x y} h k:=by
  obtain ⟨o,e,hle⟩:=subE_val a b h.ok k.ok
  refine ⟨o,?_⟩
  show _=(x+(Pq - y)) % Pq
  rw [← h.val,← k.val]
  exact e.trans (sub_mod _ _ _ Pq_pos hle)
 mul {a b x y} h k:=by
  obtain ⟨o,e⟩:=mulE_val a b h.ok k.ok
  exact ⟨o,by show _=x * y % Pq; rw [← h.val,← k.val,← Nat.mul_mod]; exact e⟩
 small n:=⟨(smallE_val n).1,small_mod n⟩
 zero:=⟨zeroE_ok,show zeroE.val % Pq=0 by rw [zeroE_val]; rfl⟩
def topL (u:List UInt8):List UInt8:=u.set 31 (u.getD 31 0 &&& 127)
def ladF (k u:List UInt8):P2 E5:=(ladO opsE (clampL k) (ofEl (topL u)) 255).1
def ladE (k u:List UInt8):List UInt8:=bytesE (mulE (ladF k u).x (invE (ladF k u).z))
theorem topL_len {u:List UInt8}{n:Nat}(h:isLen u n=true):isLen (topL u) n=true:=by
 rw [isLen_eq] at h ⊢
 unfold topL
 rw [List.length_set]; exact h
def ladM (k:List UInt8) (u:Nat):P2 Nat:=(ladO opsM (clampL k) u 255).1
def quotM (p:P2 Nat):Nat:=p.x * pwE Pq p.z (Pq - 2) % Pq
theorem pw_inv (x:Nat):pwE Pq x (Pq - 2)=x ^ (Pq - 2) % Pq:=(pwE_val (by decide) (by kernel_rfl)).symm
theorem ladE_val (k:List UInt8){u:List UInt8}:leNat (ladE k u)=quotM (ladM k ((ofEl (topL u)).val % Pq)):=by
 have r:=(lad_keeps keeps_EM (clampL k) (relM _ (ofEl_ok (topL u))) 255).1
 have vx:=Vm.self r.1.ok
 have vz:=vm_inv (Vm.self r.2.ok)
 have e:=(vx.mul vz).val
 unfold ladE
 rw [bytesE_val]
 refine e.trans ?_
 unfold quotM
 rw [pw_inv]
 generalize Pq - 2=n
 have h1:(ladF k u).x.val % Pq=(ladM k ((ofEl (topL u)).val % Pq)).x:=r.1.val
 have h2:(ladF k u).z.val % Pq=(ladM k ((ofEl (topL u)).val % Pq)).z:=r.2.val
 refine mul_congr (b:=(ladM k ((ofEl (topL u)).val % Pq)).x) ?_ ?_
 ·rw [← h1,Nat.mod_mod]; rfl
 ·rw [← h2,Nat.mod_mod]
  exact (Nat.pow_mod _ _ _).trans rfl
end Go.Num
namespace Go.Num
instance pqNe:NeZero Pq:=⟨by decide⟩
abbrev Fp:=Fin Pq
def toF (n:Nat):Fp:=Fin.ofNat Pq n
theorem toF_eq {a b:Nat}:toF a=toF b ↔ a % Pq=b % Pq:=⟨fun h=>congrArg Fin.val h,fun h=>Fin.ext h⟩
theorem toF_self (a:Fp):toF a.val=a:=Fin.ext (Nat.mod_eq_of_lt a.isLt)
theorem toF_add (a b:Nat):toF (a+b)=toF a+toF b:=Fin.ext (by rw [Fin.val_add]; show (a+b) % Pq=(a % Pq+b % Pq) % Pq; rw [← Nat.add_mod])
theorem toF_mul (a b:Nat):toF (a * b)=toF a * toF b:=Fin.ext (by rw [Fin.val_mul]; show a * b % Pq=(a % Pq) * (b % Pq) % Pq; rw [← Nat.mul_mod])
theorem toF_neg (b:Nat):toF (Pq - b % Pq) = - toF b:=Fin.ext (by
 rw [Fin.val_neg']; rfl)
theorem toF_sub (a b:Nat):toF (a+(Pq - b % Pq))=toF a - toF b:=by
 rw [toF_add,toF_neg]; grind -lia -linarith (splits:=0)
theorem toF_zero {a:Nat}:toF a=0 ↔ a % Pq=0:=toF_eq (b:=0)
theorem F_inv {a:Fp}(h:a ≠ 0):∃ b,a * b=1:=by
 have h0:a.val % Pq ≠ 0:=fun e=>h (by rw [← toF_self a]; exact toF_zero.2 e)
 obtain ⟨b,hb⟩:∃ b:Nat,a.val * b % Pq=1:=⟨_,genP.inv P3 h0⟩
 refine ⟨toF b,?_⟩
 rw [← toF_self a,← toF_mul]
 exact toF_eq.2 (by rw [hb]; exact (Nat.mod_eq_of_lt (by decide)).symm)
theorem F_cancel {a b c:Fp}(ha:a ≠ 0) (h:a * b=a * c):b=c:=by
 obtain ⟨u,hu⟩:=F_inv ha
 have e1:u * (a * b)=b:=by grind -lia -linarith (splits:=0)
 have e2:u * (a * c)=c:=by grind -lia -linarith (splits:=0)
 rw [← e1,h,e2]
theorem F_mul_ne {a b:Fp}(ha:a ≠ 0) (hb:b ≠ 0):a * b ≠ 0:=fun h=>hb (F_cancel ha (by rw [h]; grind -lia -linarith (splits:=0)))
theorem F_two:(2:Fp) ≠ 0:=by
 intro h
 have:=congrArg Fin.val h
 exact absurd this (by decide)
theorem F_one:(1:Fp) ≠ 0:=by
 intro h
 have:=congrArg Fin.val h
 exact absurd this (by decide)
structure P4 (R:Type) where
 x:R
 y:R
 z:R
 t:R
def addO {R:Type}(o:Ops R) (d:R) (p q:P4 R):P4 R:=
  ⟨o.mul (o.add (o.mul p.x q.y) (o.mul p.y q.x)) (o.sub (o.mul p.z q.z) (o.mul (o.mul d p.t) q.t)),
   o.mul (o.add (o.mul p.z q.z) (o.mul (o.mul d p.t) q.t)) (o.add (o.mul p.y q.y) (o.mul p.x q.x)),
   o.mul (o.sub (o.mul p.z q.z) (o.mul (o.mul d p.t) q.t)) (o.add (o.mul p.z q.z) (o.mul (o.mul d p.t) q.t)),
   o.mul (o.add (o.mul p.x q.y) (o.mul p.y q.x)) (o.add (o.mul p.y q.y) (o.mul p.x q.x))⟩
def opsF:Ops Fp:=⟨fun a b=>a+b,fun a b=>a - b,fun a b=>a * b,fun n=>toF n.toNat,0⟩
structure Crv (d i:Fp):Prop where
 ii:i * i = -1
 ns:∀ w:Fp,w * w ≠ d
structure On (d:Fp) (p:P4 Fp):Prop where
 z:p.z ≠ 0
 c:p.y * p.y - p.x * p.x=p.z * p.z+d * p.t * p.t
 k:p.x * p.y=p.z * p.t
theorem ns_zero {d i:Fp}(h:Crv d i){u v:Fp}(e:d * (u * u)=v * v):u=0:=by
 by_cases hu:u=0
 ·exact hu
 ·exfalso
  obtain ⟨w,hw⟩:=F_inv hu
  refine h.ns (v * w) ?_
  have:(v * w) * (v * w)=d * ((u * w) * (u * w)):=by grind -lia -linarith (splits:=0)
  rw [this,hw]; grind -lia -linarith (splits:=0)
theorem complete_eq (d i e x1 y1 z1 t1 x2 y2 z2 t2:Fp)
 (h1:y1*y1 - x1*x1=z1*z1+d*t1*t1) (k1:x1*y1=z1*t1)
 (h2:y2*y2 - x2*x2=z2*z2+d*t2*t2) (k2:x2*y2=z2*t2) (hi:i*i = -1) (he:e*e=1) (hc:d*t1*t2=e*(z1*z2)) :
 d*((t1*(y2+i*x2))*(t1*(y2+i*x2)))=(z2*(y1+e*i*x1))*(z2*(y1+e*i*x1)):=by
 grind -lia -linarith (splits:=0)
theorem lit1 (d z:Fp) (hz:z=0):(z * z - z * z) - d * z * z=z:=by grind -lia -linarith (splits:=0)
theorem lit2 (o d m z:Fp) (hz:z=0):o+d * m * (z * o)=o:=by grind -lia -linarith (splits:=0)
theorem lit3 (o d m z:Fp) (hz:z=0):o - d * m * (z * o)=o:=by grind -lia -linarith (splits:=0)
theorem lit4 (a b o z:Fp) (ho:o=1) (hz:z=0):(a * o+b * z) * o=a:=by grind -lia -linarith (splits:=0)
theorem complete_ne {d i:Fp}(h:Crv d i){p q:P4 Fp}(hp:On d p) (hq:On d q){e:Fp}(he:e * e=1):d * p.t * q.t ≠ e * (p.z * q.z):=by
 intro hc
 have e0:e ≠ 0:=fun h0=>F_one (by rw [← he,h0]; grind -lia -linarith (splits:=0))
 have t1:p.t ≠ 0:=fun h0=>F_mul_ne e0 (F_mul_ne hp.z hq.z) (by rw [← hc,h0]; grind -lia -linarith (splits:=0))
 have a1:=ns_zero h (complete_eq d i e p.x p.y p.z p.t q.x q.y q.z q.t hp.c hp.k hq.c hq.k h.ii he hc)
 have a2:=ns_zero h (complete_eq d (-i) e p.x p.y p.z p.t q.x q.y q.z q.t hp.c hp.k hq.c hq.k (by have:=h.ii; grind -lia -linarith (splits:=0)) he hc)
 have b1:q.y+i * q.x=0:=F_cancel t1 (by rw [a1]; grind -lia -linarith (splits:=0))
 have b2:q.y + -i * q.x=0:=F_cancel t1 (by rw [a2]; grind -lia -linarith (splits:=0))
 have y0:q.y=0:=F_cancel F_two (by grind -lia -linarith (splits:=0))
 have x0:q.x=0:=by
  have hi:=h.ii
  have hix:i * q.x=0:=by grind -lia -linarith (splits:=0)
  have:i * (i * q.x) = - q.x:=by grind -lia -linarith (splits:=0)
  rw [hix] at this
  grind -lia -linarith (splits:=0)
 have hk:=hq.k
 have hcc:=hq.c
 rw [y0,x0] at hk hcc
 have t0:q.t=0:=F_cancel hq.z (by rw [← hk]; grind -lia -linarith (splits:=0))
 rw [t0] at hcc
 have e9:q.z * q.z=(0 * 0 - 0 * 0) - d * 0 * 0:=by rw [hcc]; grind -lia -linarith (splits:=0)
 have e8:((0:Fp) * 0 - 0 * 0) - d * 0 * 0=0:=lit1 d 0 rfl
 exact F_mul_ne hq.z hq.z (e9.trans e8)
theorem fg_ne {d i:Fp}(h:Crv d i){p q:P4 Fp}(hp:On d p) (hq:On d q):p.z * q.z - d * p.t * q.t ≠ 0∧p.z * q.z+d * p.t * q.t ≠ 0:=
 ⟨fun e=>complete_ne h hp hq (e:=1) (by grind -lia -linarith (splits:=0)) (by grind -lia -linarith (splits:=0)),fun e=>complete_ne h hp hq (e:=-1) (by grind -lia -linarith (splits:=0)) (by grind -lia -linarith (splits:=0))⟩
theorem add_curve (d x1 y1 z1 t1 x2 y2 z2 t2:Fp)
 (h1:y1*y1 - x1*x1=z1*z1+d*t1*t1) (k1:x1*y1=z1*t1)
 (h2:y2*y2 - x2*x2=z2*z2+d*t2*t2) (k2:x2*y2=z2*t2) :
 ((z1*z2+d*t1*t2)*(y1*y2+x1*x2))*((z1*z2+d*t1*t2)*(y1*y2+x1*x2)) - ((x1*y2+y1*x2)*(z1*z2 - d*t1*t2))*((x1*y2+y1*x2)*(z1*z2 - d*t1*t2))=((z1*z2 - d*t1*t2)*(z1*z2+d*t1*t2))*((z1*z2 - d*t1*t2)*(z1*z2+d*t1*t2))+d*((x1*y2+y1*x2)*(y1*y2+x1*x2))*((x1*y2+y1*x2)*(y1*y2+x1*x2)):=by
 grind -lia -linarith (splits:=0)
theorem On.add {d i:Fp}(h:Crv d i){p q:P4 Fp}(hp:On d p) (hq:On d q):On d (addO opsF d p q):=by
 have n:=fg_ne h hp hq
 refine ⟨F_mul_ne n.1 n.2,add_curve d p.x p.y p.z p.t q.x q.y q.z q.t hp.c hp.k hq.c hq.k,?_⟩
 show (p.x * q.y+p.y * q.x) * (p.z * q.z - d * p.t * q.t) * ((p.z * q.z+d * p.t * q.t) * (p.y * q.y+p.x * q.x))=(p.z * q.z - d * p.t * q.t) * (p.z * q.z+d * p.t * q.t) * ((p.x * q.y+p.y * q.x) * (p.y * q.y+p.x * q.x))
 generalize p.x * q.y+p.y * q.x=a
 generalize p.z * q.z - d * p.t * q.t=f
 generalize p.z * q.z+d * p.t * q.t=g
 generalize p.y * q.y+p.x * q.x=b
 grind -lia -linarith (splits:=0)
def negO {R:Type}(neg:R→R) (p:P4 R):P4 R:=⟨neg p.x,p.y,p.z,neg p.t⟩
theorem On.neg {d:Fp}{p:P4 Fp}(hp:On d p):On d (negO (fun a => -a) p):=by
 have h1:=hp.c
 have h2:=hp.k
 refine ⟨hp.z,?_,?_⟩
 ·show p.y * p.y - -p.x * -p.x=p.z * p.z+d * -p.t * -p.t
  grind -lia -linarith (splits:=0)
 ·show -p.x * p.y=p.z * -p.t
  grind -lia -linarith (splits:=0)
def zero4:P4 Fp:=⟨0,1,1,0⟩
theorem On.zero (d:Fp):On d zero4:=⟨F_one,by show (1:Fp) * 1 - 0 * 0=1 * 1+d * 0 * 0; grind -lia -linarith (splits:=0),by show (0:Fp) * 1=1 * 0; grind -lia -linarith (splits:=0)⟩
noncomputable def invF (a:Fp):Fp:=by
 classical
 exact if h:a ≠ 0 then Classical.choose (F_inv h) else 0
theorem invF_mul {a:Fp}(h:a ≠ 0):a * invF a=1:=by
 unfold invF
 rw [dif_pos h]
 exact Classical.choose_spec (F_inv h)
theorem F_eq_div {a b c:Fp}(hb:b ≠ 0) (h:c * b=a):a * invF b=c:=by
 have:=invF_mul hb
 rw [← h]; grind -lia -linarith (splits:=0)
noncomputable def aff (p:P4 Fp):Fp × Fp:=(p.x * invF p.z,p.y * invF p.z)
def OnA (d:Fp) (a:Fp × Fp):Prop:=a.2 * a.2 - a.1 * a.1=1+d * (a.1 * a.2) * (a.1 * a.2)
noncomputable def addA (d:Fp) (a b:Fp × Fp):Fp × Fp:=
 ((a.1 * b.2+a.2 * b.1) * invF (1+d * (a.1 * a.2) * (b.1 * b.2)),(a.2 * b.2+a.1 * b.1) * invF (1 - d * (a.1 * a.2) * (b.1 * b.2)))
def up (a:Fp × Fp):P4 Fp:=⟨a.1,a.2,1,a.1 * a.2⟩
theorem aff_up (a:Fp × Fp):aff (up a)=a:=by
 have h:=invF_mul F_one
 have e:invF (1:Fp)=1:=by grind -lia -linarith (splits:=0)
 unfold aff up
 simp only [e]
 exact Prod.ext (by show a.1 * 1=a.1; grind -lia -linarith (splits:=0)) (by show a.2 * 1=a.2; grind -lia -linarith (splits:=0))
theorem on_up {d:Fp}{a:Fp × Fp}(h:OnA d a):On d (up a):=by
 unfold OnA at h
 refine ⟨F_one,?_,?_⟩
 ·show a.2 * a.2 - a.1 * a.1=1 * 1+d * (a.1 * a.2) * (a.1 * a.2)
  rw [h]; grind -lia -linarith (splits:=0)
 ·show a.1 * a.2=1 * (a.1 * a.2)
  grind -lia -linarith (splits:=0)
theorem on_aff {d:Fp}{p:P4 Fp}(h:On d p):OnA d (aff p):=by
 have hz:=invF_mul h.z
 have h1:=h.c
 have h2:=h.k
 unfold OnA aff
 show p.y * invF p.z * (p.y * invF p.z) - p.x * invF p.z * (p.x * invF p.z)=1+d * (p.x * invF p.z * (p.y * invF p.z)) * (p.x * invF p.z * (p.y * invF p.z))
 generalize invF p.z=w at hz
 have e1:p.x * w * (p.y * w)=p.t * w:=by
  have:p.x * w * (p.y * w)=(p.x * p.y) * w * w:=by grind -lia -linarith (splits:=0)
  rw [this,h2]; grind -lia -linarith (splits:=0)
 rw [e1]
 have e2:p.y * w * (p.y * w) - p.x * w * (p.x * w)=(p.y * p.y - p.x * p.x) * (w * w):=by grind -lia -linarith (splits:=0)
 rw [e2,h1]
 have e3:p.z * p.z * (w * w)=1:=by
  have:p.z * p.z * (w * w)=(p.z * w) * (p.z * w):=by grind -lia -linarith (splits:=0)
  rw [this,hz]; grind -lia -linarith (splits:=0)
 have e4:(p.z * p.z+d * p.t * p.t) * (w * w)=p.z * p.z * (w * w)+d * (p.t * w) * (p.t * w):=by grind -lia -linarith (splits:=0)
 rw [e4,e3]
def SameP (p q:P4 Fp):Prop:=p.x * q.z=q.x * p.z∧p.y * q.z=q.y * p.z
theorem same_aff {d:Fp}{p q:P4 Fp}(hp:On d p) (hq:On d q):SameP p q ↔ aff p=aff q:=by
 have h1:=invF_mul hp.z
 have h2:=invF_mul hq.z
 have key:∀ a b:Fp,a * q.z=b * p.z ↔ a * invF p.z=b * invF q.z:=fun a b=>by
  generalize invF p.z=u at h1
  generalize invF q.z=v at h2
  constructor
  ·intro h
   have e1:a * u=(a * q.z) * (v * u):=by grind -lia -linarith (splits:=0)
   have e2:b * v=(b * p.z) * (u * v):=by grind -lia -linarith (splits:=0)
   rw [e1,e2,h]; grind -lia -linarith (splits:=0)
  ·intro h
   have e1:a * q.z=(a * u) * (p.z * q.z):=by grind -lia -linarith (splits:=0)
   have e2:b * p.z=(b * v) * (q.z * p.z):=by grind -lia -linarith (splits:=0)
   rw [e1,e2,h]; grind -lia -linarith (splits:=0)
 unfold SameP aff
 rw [Prod.mk.injEq,key,key]
theorem aff_add {d i:Fp}(h:Crv d i){p q:P4 Fp}(hp:On d p) (hq:On d q):aff (addO opsF d p q)=addA d (aff p) (aff q):=by
 have n:=fg_ne h hp hq
 have u:=invF_mul hp.z
 have v:=invF_mul hq.z
 have k1:=hp.k
 have k2:=hq.k
 unfold aff addA
 show ((p.x * q.y+p.y * q.x) * (p.z * q.z - d * p.t * q.t) * invF ((p.z * q.z - d * p.t * q.t) * (p.z * q.z+d * p.t * q.t)),(p.z * q.z+d * p.t * q.t) * (p.y * q.y+p.x * q.x) * invF ((p.z * q.z - d * p.t * q.t) * (p.z * q.z+d * p.t * q.t)))=_
 have w:=invF_mul (F_mul_ne n.1 n.2)
 generalize invF ((p.z * q.z - d * p.t * q.t) * (p.z * q.z+d * p.t * q.t))=w0 at w
 generalize invF p.z=u0 at u
 generalize invF q.z=v0 at v
 have e1:p.x * u0 * (p.y * u0)=p.t * u0:=by
  have:p.x * u0 * (p.y * u0)=(p.x * p.y) * u0 * u0:=by grind -lia -linarith (splits:=0)
  rw [this,k1]; grind -lia -linarith (splits:=0)
 have e2:q.x * v0 * (q.y * v0)=q.t * v0:=by
  have:q.x * v0 * (q.y * v0)=(q.x * q.y) * v0 * v0:=by grind -lia -linarith (splits:=0)
  rw [this,k2]; grind -lia -linarith (splits:=0)
 simp only [e1,e2]
 have g1:(1+d * (p.t * u0) * (q.t * v0)) * (p.z * q.z)=p.z * q.z+d * p.t * q.t:=by
  have:(1+d * (p.t * u0) * (q.t * v0)) * (p.z * q.z)=p.z * q.z+d * p.t * q.t * ((p.z * u0) * (q.z * v0)):=by grind -lia -linarith (splits:=0)
  rw [this,u,v]; grind -lia -linarith (splits:=0)
 have g2:(1 - d * (p.t * u0) * (q.t * v0)) * (p.z * q.z)=p.z * q.z - d * p.t * q.t:=by
  have:(1 - d * (p.t * u0) * (q.t * v0)) * (p.z * q.z)=p.z * q.z - d * p.t * q.t * ((p.z * u0) * (q.z * v0)):=by grind -lia -linarith (splits:=0)
  rw [this,u,v]; grind -lia -linarith (splits:=0)
 generalize hf:p.z * q.z - d * p.t * q.t=f at n w g2
 generalize hg:p.z * q.z+d * p.t * q.t=g at n w g1
 have n1:(1+d * (p.t * u0) * (q.t * v0)) ≠ 0:=fun e=>n.2 (by rw [← g1,e]; grind -lia -linarith (splits:=0))
 have n2:(1 - d * (p.t * u0) * (q.t * v0)) ≠ 0:=fun e=>n.1 (by rw [← g2,e]; grind -lia -linarith (splits:=0))
 generalize 1+d * (p.t * u0) * (q.t * v0)=A at g1 n1
 generalize 1 - d * (p.t * u0) * (q.t * v0)=B at g2 n2
 refine Prod.ext ?_ ?_
 ·refine (F_eq_div n1 ?_).symm
  show (p.x * q.y+p.y * q.x) * f * w0 * A=p.x * u0 * (q.y * v0)+p.y * u0 * (q.x * v0)
  have:A=g * (u0 * v0):=by
   have:A=A * (p.z * q.z) * (u0 * v0):=by
    have:A * (p.z * q.z) * (u0 * v0)=A * ((p.z * u0) * (q.z * v0)):=by grind -lia -linarith (splits:=0)
    rw [this,u,v]; grind -lia -linarith (splits:=0)
   rw [this,g1]
  rw [this]
  have:(p.x * q.y+p.y * q.x) * f * w0 * (g * (u0 * v0))=(p.x * q.y+p.y * q.x) * (f * g * w0) * (u0 * v0):=by grind -lia -linarith (splits:=0)
  rw [this,w]; grind -lia -linarith (splits:=0)
 ·refine (F_eq_div n2 ?_).symm
  show g * (p.y * q.y+p.x * q.x) * w0 * B=p.y * u0 * (q.y * v0)+p.x * u0 * (q.x * v0)
  have:B=f * (u0 * v0):=by
   have:B=B * (p.z * q.z) * (u0 * v0):=by
    have:B * (p.z * q.z) * (u0 * v0)=B * ((p.z * u0) * (q.z * v0)):=by grind -lia -linarith (splits:=0)
    rw [this,u,v]; grind -lia -linarith (splits:=0)
   rw [this,g2]
  rw [this]
  have:g * (p.y * q.y+p.x * q.x) * w0 * (f * (u0 * v0))=(p.y * q.y+p.x * q.x) * (f * g * w0) * (u0 * v0):=by grind -lia -linarith (splits:=0)
  rw [this,w]; grind -lia -linarith (splits:=0)
theorem OnA.add {d i:Fp}(h:Crv d i){a b:Fp × Fp}(ha:OnA d a) (hb:OnA d b):OnA d (addA d a b):=by
 have:=on_aff (On.add h (on_up ha) (on_up hb))
 rwa [aff_add h (on_up ha) (on_up hb),aff_up,aff_up] at this
theorem assoc_x (d x1 y1 x2 y2 x3 y3:Fp)
 (h1:y1*y1 - x1*x1=1+d*x1*x1*y1*y1) (h2:y2*y2 - x2*x2=1+d*x2*x2*y2*y2) (h3:y3*y3 - x3*x3=1+d*x3*x3*y3*y3)
 (xa ya za ta xb yb zb tb:Fp)
 (a1:xa=(x1*y2+y1*x2)*(1 - d*(x1*y1)*(x2*y2))) (a2:ya=(1+d*(x1*y1)*(x2*y2))*(y1*y2+x1*x2)) (a3:za=(1 - d*(x1*y1)*(x2*y2))*(1+d*(x1*y1)*(x2*y2))) (a4:ta=(x1*y2+y1*x2)*(y1*y2+x1*x2))
 (b1:xb=(x2*y3+y2*x3)*(1 - d*(x2*y2)*(x3*y3))) (b2:yb=(1+d*(x2*y2)*(x3*y3))*(y2*y3+x2*x3)) (b3:zb=(1 - d*(x2*y2)*(x3*y3))*(1+d*(x2*y2)*(x3*y3))) (b4:tb=(x2*y3+y2*x3)*(y2*y3+x2*x3)) :
 (xa*y3+ya*x3)*(zb+d*(x1*y1)*tb)=(x1*yb+y1*xb)*(za+d*ta*(x3*y3)):=by
 subst_vars; grind -lia -linarith (splits:=0)
theorem assoc_y (d x1 y1 x2 y2 x3 y3:Fp)
 (h1:y1*y1 - x1*x1=1+d*x1*x1*y1*y1) (h2:y2*y2 - x2*x2=1+d*x2*x2*y2*y2) (h3:y3*y3 - x3*x3=1+d*x3*x3*y3*y3)
 (xa ya za ta xb yb zb tb:Fp)
 (a1:xa=(x1*y2+y1*x2)*(1 - d*(x1*y1)*(x2*y2))) (a2:ya=(1+d*(x1*y1)*(x2*y2))*(y1*y2+x1*x2)) (a3:za=(1 - d*(x1*y1)*(x2*y2))*(1+d*(x1*y1)*(x2*y2))) (a4:ta=(x1*y2+y1*x2)*(y1*y2+x1*x2))
 (b1:xb=(x2*y3+y2*x3)*(1 - d*(x2*y2)*(x3*y3))) (b2:yb=(1+d*(x2*y2)*(x3*y3))*(y2*y3+x2*x3)) (b3:zb=(1 - d*(x2*y2)*(x3*y3))*(1+d*(x2*y2)*(x3*y3))) (b4:tb=(x2*y3+y2*x3)*(y2*y3+x2*x3)) :
 (ya*y3+xa*x3)*(zb - d*(x1*y1)*tb)=(y1*yb+x1*xb)*(za - d*ta*(x3*y3)):=by
 subst_vars; grind -lia -linarith (splits:=0)
theorem onA_form {d:Fp}{a:Fp × Fp}(h:OnA d a):a.2 * a.2 - a.1 * a.1=1+d * a.1 * a.1 * a.2 * a.2:=by
 unfold OnA at h
 rw [h]; grind -lia -linarith (splits:=0)
theorem addA_assoc {d i:Fp}(h:Crv d i){a b c:Fp × Fp}(ha:OnA d a) (hb:OnA d b) (hc:OnA d c):addA d (addA d a b) c=addA d a (addA d b c):=by
 have pa:=on_up ha
 have pb:=on_up hb
 have pc:=on_up hc
 have e1:aff (addO opsF d (addO opsF d (up a) (up b)) (up c))=addA d (addA d a b) c:=by
  rw [aff_add h (On.add h pa pb) pc,aff_add h pa pb,aff_up,aff_up,aff_up]
 have e2:aff (addO opsF d (up a) (addO opsF d (up b) (up c)))=addA d a (addA d b c):=by
  rw [aff_add h pa (On.add h pb pc),aff_add h pb pc,aff_up,aff_up,aff_up]
 rw [← e1,← e2]
 refine (same_aff (On.add h (On.add h pa pb) pc) (On.add h pa (On.add h pb pc))).1 ?_
 have f1:=onA_form ha
 have f2:=onA_form hb
 have f3:=onA_form hc
 have one:(1:Fp) * 1=1:=by grind -lia -linarith (splits:=0)
 have k1:=assoc_x d a.1 a.2 b.1 b.2 c.1 c.2 f1 f2 f3 _ _ _ _ _ _ _ _ rfl rfl rfl rfl rfl rfl rfl rfl
 have k2:=assoc_y d a.1 a.2 b.1 b.2 c.1 c.2 f1 f2 f3 _ _ _ _ _ _ _ _ rfl rfl rfl rfl rfl rfl rfl rfl
 unfold SameP addO up opsF
 simp only [one]
 generalize (a.1 * b.2+a.2 * b.1) * (1 - d * (a.1 * a.2) * (b.1 * b.2))=xa at k1 k2 ⊢
 generalize (1+d * (a.1 * a.2) * (b.1 * b.2)) * (a.2 * b.2+a.1 * b.1)=ya at k1 k2 ⊢
 generalize (1 - d * (a.1 * a.2) * (b.1 * b.2)) * (1+d * (a.1 * a.2) * (b.1 * b.2))=za at k1 k2 ⊢
 generalize (a.1 * b.2+a.2 * b.1) * (a.2 * b.2+a.1 * b.1)=ta at k1 k2 ⊢
 generalize (b.1 * c.2+b.2 * c.1) * (1 - d * (b.1 * b.2) * (c.1 * c.2))=xb at k1 k2 ⊢
 generalize (1+d * (b.1 * b.2) * (c.1 * c.2)) * (b.2 * c.2+b.1 * c.1)=yb at k1 k2 ⊢
 generalize (1 - d * (b.1 * b.2) * (c.1 * c.2)) * (1+d * (b.1 * b.2) * (c.1 * c.2))=zb at k1 k2 ⊢
 generalize (b.1 * c.2+b.2 * c.1) * (b.2 * c.2+b.1 * c.1)=tb at k1 k2 ⊢
 have z1:za * 1=za:=by grind -lia -linarith (splits:=0)
 have z2:1 * zb=zb:=by grind -lia -linarith (splits:=0)
 simp only [z1,z2]
 have z3:d * ta * (c.1 * c.2)=d * ta * (c.1 * c.2):=rfl
 generalize hL:xa * c.2+ya * c.1=L at k1 ⊢
 generalize hM:ya * c.2+xa * c.1=M at k2 ⊢
 generalize hN:a.1 * yb+a.2 * xb=N at k1 ⊢
 generalize hO:a.2 * yb+a.1 * xb=O at k2 ⊢
 generalize hg1:za+d * ta * (c.1 * c.2)=g1 at k1 ⊢
 generalize hf1:za - d * ta * (c.1 * c.2)=f1' at k2 ⊢
 generalize hg2:zb+d * (a.1 * a.2) * tb=g2 at k1 ⊢
 generalize hf2:zb - d * (a.1 * a.2) * tb=f2' at k2 ⊢
 constructor
 ·have e:L * f1' * (f2' * g2)=(L * g2) * (f1' * f2'):=by grind -lia -linarith (splits:=0)
  rw [e,k1]; grind -lia -linarith (splits:=0)
 ·have e:g1 * M * (f2' * g2)=(M * f2') * (g1 * g2):=by grind -lia -linarith (splits:=0)
  rw [e,k2]; grind -lia -linarith (splits:=0)
theorem addA_comm (d:Fp) (a b:Fp × Fp):addA d a b=addA d b a:=by
 unfold addA
 have e1:a.1 * b.2+a.2 * b.1=b.1 * a.2+b.2 * a.1:=by grind -lia -linarith (splits:=0)
 have e2:a.2 * b.2+a.1 * b.1=b.2 * a.2+b.1 * a.1:=by grind -lia -linarith (splits:=0)
 have e3:d * (a.1 * a.2) * (b.1 * b.2)=d * (b.1 * b.2) * (a.1 * a.2):=by grind -lia -linarith (splits:=0)
 rw [e1,e2,e3]
def zeroA:Fp × Fp:=(0,1)
theorem OnA.zero (d:Fp):OnA d zeroA:=by
 show (1:Fp) * 1 - 0 * 0=1+d * (0 * 1) * (0 * 1)
 grind -lia -linarith (splits:=0)
theorem addA_zero (d:Fp) (a:Fp × Fp):addA d a zeroA=a:=by
 unfold addA zeroA
 have e:invF (1:Fp)=1:=by have:=invF_mul F_one; grind -lia -linarith (splits:=0)
 have e1:(1:Fp)+d * (a.1 * a.2) * (0 * 1)=1:=lit2 1 d _ 0 rfl
 have e2:(1:Fp) - d * (a.1 * a.2) * (0 * 1)=1:=lit3 1 d _ 0 rfl
 simp only [e1,e2,e]
 exact Prod.ext (lit4 a.1 a.2 1 0 rfl rfl) (lit4 a.2 a.1 1 0 rfl rfl)
def negA (a:Fp × Fp):Fp × Fp:=(-a.1,a.2)
theorem OnA.neg {d:Fp}{a:Fp × Fp}(h:OnA d a):OnA d (negA a):=by
 unfold OnA negA at *
 simp only
 grind -lia -linarith (splits:=0)
theorem addA_neg {d i:Fp}(h:Crv d i){a:Fp × Fp}(ha:OnA d a):addA d a (negA a)=zeroA:=by
 have n:=fg_ne h (on_up ha) (on_up ha.neg)
 have n1:(1:Fp) * 1 - d * (a.1 * a.2) * (-a.1 * a.2) ≠ 0:=n.1
 have n2:1 - d * (a.1 * a.2) * (-a.1 * a.2) ≠ 0:=fun e=>n1 (by rw [← e]; grind -lia -linarith (splits:=0))
 have hi:=invF_mul n2
 unfold OnA at ha
 unfold addA negA zeroA
 refine Prod.ext ?_ ?_
 ·show (a.1 * a.2+a.2 * -a.1) * _=0
  have:a.1 * a.2+a.2 * -a.1=0:=by grind -lia -linarith (splits:=0)
  rw [this]; grind -lia -linarith (splits:=0)
 ·show (a.2 * a.2+a.1 * -a.1) * invF (1 - d * (a.1 * a.2) * (-a.1 * a.2))=1
  refine F_eq_div n2 ?_
  have:a.2 * a.2+a.1 * -a.1=a.2 * a.2 - a.1 * a.1:=by grind -lia -linarith (splits:=0)
  rw [this,ha]; grind -lia -linarith (splits:=0)
theorem aff_zero:aff zero4=zeroA:=by
 have e:invF (1:Fp)=1:=by have:=invF_mul F_one; grind -lia -linarith (splits:=0)
 unfold aff zero4 zeroA
 simp only [e]
 exact Prod.ext (by show (0:Fp) * 1=0; grind -lia -linarith (splits:=0)) (by show (1:Fp) * 1=1; grind -lia -linarith (splits:=0))
noncomputable def mulA (d:Fp) (a:Fp × Fp):Nat→Fp × Fp
 | 0=>zeroA
 | n+1=>addA d (mulA d a n) a
theorem OnA.mul {d i:Fp}(h:Crv d i){a:Fp × Fp}(ha:OnA d a):∀ n,OnA d (mulA d a n)
 | 0=>OnA.zero d
 | n+1=>OnA.add h (OnA.mul h ha n) ha
theorem zero_addA (d:Fp) (a:Fp × Fp):addA d zeroA a=a:=by rw [addA_comm,addA_zero]
theorem mulA_add {d i:Fp}(h:Crv d i){a:Fp × Fp}(ha:OnA d a) (m:Nat):∀ n,mulA d a (m+n)=addA d (mulA d a m) (mulA d a n)
 | 0=>(addA_zero d _).symm
 | n+1=>by
  show addA d (mulA d a (m+n)) a=addA d (mulA d a m) (addA d (mulA d a n) a)
  rw [mulA_add h ha m n,addA_assoc h (OnA.mul h ha m) (OnA.mul h ha n) ha]
theorem mulA_mul {d i:Fp}(h:Crv d i){a:Fp × Fp}(ha:OnA d a) (m:Nat):∀ n,mulA d a (m * n)=mulA d (mulA d a m) n
 | 0=>rfl
 | n+1=>by
  rw [Nat.mul_succ,mulA_add h ha,mulA_mul h ha m n]; rfl
theorem mulA_zero (d:Fp):∀ n,mulA d zeroA n=zeroA
 | 0=>rfl
 | n+1=>by show addA d (mulA d zeroA n) zeroA=zeroA; rw [addA_zero,mulA_zero d n]
theorem mulA_mod {d i:Fp}(h:Crv d i){a:Fp × Fp}(ha:OnA d a){l:Nat}(hl:mulA d a l=zeroA) (n:Nat):mulA d a (n % l)=mulA d a n:=by
 conv=>rhs; rw [← Nat.div_add_mod n l]
 rw [mulA_add h ha,mulA_mul h ha,hl,mulA_zero,zero_addA]
theorem mulA_one (d:Fp) (a:Fp × Fp):mulA d a 1=a:=zero_addA d a
end Go.Num
namespace Go.Num
open Go Go.Eng
def nine32:List UInt8:=9::List.replicate 31 0
def aliB:List UInt8:=List.replicate 31 0++[98]
def p255:Nat:=57896044618658097711785492504343953926634992332820282019728792003956564819968
theorem all8 {f:UInt8→Bool}(h:((List.range 256).all fun n=>f (UInt8.ofNat n))=true) (x:UInt8):f x=true:=by
 have:=List.all_eq_true.1 h x.toNat (List.mem_range.2 x.toNat_lt)
 rwa [UInt8.ofNat_toNat] at this
theorem leNat_app2:∀ (a b:List UInt8),leNat (a++b)=leNat a+256 ^ a.length * leNat b
 | [],b=>by simp [leNat]
 | x::a,b=>by
  have:=leNat_app2 a b
  simp only [List.cons_append,leNat,this,List.length_cons,Nat.pow_succ]
  rw [Nat.mul_add]
  have:256 * (256 ^ a.length * leNat b)=256 ^ a.length * 256 * leNat b:=by rw [← Nat.mul_assoc,Nat.mul_comm 256]
  omega
theorem leNat_bound:∀ (a:List UInt8),leNat a < 256 ^ a.length
 | []=>by simp [leNat]
 | x::a=>by
  have:=leNat_bound a
  have hx:=x.toNat_lt
  simp only [leNat,List.length_cons,Nat.pow_succ]
  omega
theorem and127 (x:UInt8):(x &&& 127).toNat=x.toNat % 128:=by
 rw [UInt8.toNat_and]
 exact Nat.and_two_pow_sub_one_eq_mod x.toNat 7
theorem topL_val {u:List UInt8}(h:isLen u 32=true):leNat (topL u)=leNat u % p255:=by
 rw [isLen_eq] at h
 have e:u=u.take 31++[u.getD 31 0]:=by
  have h1:u.drop 31=[u.getD 31 0]:=by
   rw [List.drop_eq_getElem_cons (by omega),List.drop_of_length_le (by omega)]
   rw [List.getD_eq_getElem?_getD,List.getElem?_eq_getElem (by omega)]; rfl
  rw [← h1,List.take_append_drop]
 have hl:(u.take 31).length=31:=by rw [List.length_take]; omega
 have e2:topL u=u.take 31++[u.getD 31 0 &&& 127]:=by
  unfold topL
  apply List.ext_getElem?
  intro i
  rw [List.getElem?_set]
  by_cases h1:31=i
  ·subst h1
   rw [if_pos rfl,if_pos (by omega),List.getElem?_append_right (by omega),hl]; rfl
  ·rw [if_neg h1]
   by_cases h2:i < 31
   ·rw [List.getElem?_append_left (by omega),List.getElem?_take_of_lt h2]
   ·rw [List.getElem?_eq_none (by omega),List.getElem?_eq_none (by rw [List.length_append,hl]; show 31+1≤i; omega)]
 have hb:=leNat_bound (u.take 31)
 rw [hl] at hb
 generalize hx:u.getD 31 0=x at e e2
 rw [e2]
 conv=>rhs; rw [e]
 rw [leNat_app2,leNat_app2,hl]
 have hx2:=x.toNat_lt
 have s1:∀ y:UInt8,leNat [y]=y.toNat:=fun y=>by simp [leNat]
 rw [s1,s1,and127]
 unfold p255
 simp only [Nat.reducePow] at hb ⊢
 omega
theorem ladE_nat (k:List UInt8){u:List UInt8}(h:isLen u 32=true):leNat (ladE k u)=quotM (ladM k (leNat u % p255 % Pq)):=by
 rw [ladE_val,ofEl_val (topL_len h),topL_val h]
theorem ladE_is (k:List UInt8){u:List UInt8}(h:isLen u 32=true){n m:Nat}(hn:leNat u=n) (hlt:n < Pq) (hm:quotM (ladM k n)=m):leNat (ladE k u)=m:=by
 rw [ladE_nat k h,hn]
 have hp:Pq < p255:=by decide
 rw [Nat.mod_eq_of_lt (show n < p255 by omega),Nat.mod_eq_of_lt hlt,hm]
theorem qB9:quotM (ladM aliB 9)=3873599628253772194686510826457445042224408612751331329672488392857300769615:=by kernel_rfl
theorem nine_val:leNat nine32=9:=by decide
theorem pubB:leNat (ladE aliB nine32)=3873599628253772194686510826457445042224408612751331329672488392857300769615:=ladE_is aliB (u:=nine32) rfl nine_val (by decide) qB9
end Go.Num
namespace Go.Num
open Go Go.Eng
theorem oE_ok (s:List UInt8):(oE s == 0)=okL s:=by
 unfold oE
 cases okL s <;> rfl
theorem oV_ok {s:List UInt8}(h:okL s=true):oV s=ofW s:=by unfold oV; rw [h]; rfl
theorem ofW_of {a:W4}(h:a.val < Lq):ofW (bytesW a)=a:=W4.ext_val (by rw [ofW_val,bytesW_val,Nat.mod_eq_of_lt h])
theorem canon_bytes {a:W4}(ha:a.val < Lq):canonW (bytesW a)=true:=by
 have hk:okL (bytesW a)=true:=by rw [okL_eq,isLen_eq.2 (bytesW_len a)]; rfl
 unfold canonW
 rw [oE_ok,hk,oV_ok hk,ofW_of ha]
 simp
end Go.Num
namespace Go.Num
end Go.Num
