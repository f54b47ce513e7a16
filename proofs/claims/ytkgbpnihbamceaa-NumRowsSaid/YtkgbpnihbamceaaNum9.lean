/- What the program's words modulo 2^255 - 19 are worth. -/
import Derived.Test.YtkgbpnihbamceaaNum8
namespace Go.Num
set_option linter.unusedVariables false
set_option linter.unusedSimpArgs false
open Go Go.Eng
def E5.val (a : E5) : Nat := a.x0.toNat + 2251799813685248 * a.x1.toNat + 5070602400912917605986812821504 * a.x2.toNat + 11417981541647679048466287755595961091061972992 * a.x3.toNat + 25711008708143844408671393477458601640355247900524685364822016 * a.x4.toNat
/-- Parts of 51 bits and a little more. -/
def E5.ok (a : E5) : Prop := a.x0.toNat < 2251799813947392 ∧ a.x1.toNat < 2251799813947392 ∧ a.x2.toNat < 2251799813947392 ∧ a.x3.toNat < 2251799813947392 ∧ a.x4.toNat < 2251799813947392
theorem and51 (x : UInt64) : (x &&& m51).toNat = x.toNat % 2251799813685248 := and_nat x 51 _ rfl
theorem shr51 (x : UInt64) : (shr_u64 x 51).toNat = x.toNat / 2251799813685248 := shr_u64_nat x 51 (by omega)
theorem low_plus (x y : UInt64) : ((x &&& m51) + shr_u64 y 51).toNat = x.toNat % 2251799813685248 + y.toNat / 2251799813685248 := by
  have hy := y.toNat_lt
  rw [UInt64.toNat_add, and51, shr51]
  simp only [Nat.reducePow] at *
  omega
theorem n19 : (19 : UInt64).toNat = 19 := rfl
theorem low_plus19 (x y : UInt64) : ((x &&& m51) + 19 * shr_u64 y 51).toNat = x.toNat % 2251799813685248 + 19 * (y.toNat / 2251799813685248) := by
  have hy := y.toNat_lt
  rw [UInt64.toNat_add, UInt64.toNat_mul, and51, shr51, n19]
  simp only [Nat.reducePow] at *
  omega
theorem carried_val (a : E5) : (carriedE a).ok ∧ (carriedE a).val + Pq * (a.x4.toNat / 2251799813685248) = a.val := by
  have h0 := a.x0.toNat_lt; have h1 := a.x1.toNat_lt; have h2 := a.x2.toNat_lt; have h3 := a.x3.toNat_lt; have h4 := a.x4.toNat_lt
  simp only [Nat.reducePow] at h0 h1 h2 h3 h4
  have e0 := low_plus19 a.x0 a.x4
  have e1 := low_plus a.x1 a.x0
  have e2 := low_plus a.x2 a.x1
  have e3 := low_plus a.x3 a.x2
  have e4 := low_plus a.x4 a.x3
  unfold E5.ok E5.val carriedE Pq
  simp only [e0, e1, e2, e3, e4]
  omega
theorem carried_ok (a : E5) : (carriedE a).ok := (carried_val a).1
theorem carried_mod (a : E5) : (carriedE a).val % Pq = a.val % Pq := by
  rw [← (carried_val a).2, Nat.add_mul_mod_self_left]
theorem add_nat (x y : UInt64) (h : x.toNat + y.toNat < 18446744073709551616) : (x + y).toNat = x.toNat + y.toNat := by
  rw [UInt64.toNat_add]
  exact Nat.mod_eq_of_lt h
theorem addE_val (a b : E5) (ha : a.ok) (hb : b.ok) : (addE a b).ok ∧ (addE a b).val % Pq = (a.val + b.val) % Pq := by
  refine ⟨carried_ok _, ?_⟩
  unfold addE
  rw [carried_mod]
  unfold E5.ok at ha hb
  have e : E5.val ⟨a.x0 + b.x0, a.x1 + b.x1, a.x2 + b.x2, a.x3 + b.x3, a.x4 + b.x4⟩ = a.val + b.val := by
    unfold E5.val
    rw [add_nat a.x0 b.x0 (by omega), add_nat a.x1 b.x1 (by omega), add_nat a.x2 b.x2 (by omega), add_nat a.x3 b.x3 (by omega), add_nat a.x4 b.x4 (by omega)]
    omega
  rw [e]
theorem sub_nat (x k y : UInt64) (h1 : x.toNat + k.toNat < 18446744073709551616) (h2 : y.toNat ≤ k.toNat) : (x + k - y).toNat = x.toNat + k.toNat - y.toNat := by
  rw [UInt64.toNat_sub, UInt64.toNat_add]
  simp only [Nat.reducePow]
  omega
theorem k0_nat : (4503599627370458 : UInt64).toNat = 4503599627370458 := rfl
theorem k1_nat : (4503599627370494 : UInt64).toNat = 4503599627370494 := rfl
theorem subE_val (a b : E5) (ha : a.ok) (hb : b.ok) : (subE a b).ok ∧ (subE a b).val % Pq = (a.val + (2 * Pq - b.val)) % Pq ∧ b.val ≤ 2 * Pq := by
  unfold E5.ok at ha hb
  have hle : b.val ≤ 2 * Pq := by unfold E5.val Pq; omega
  refine ⟨carried_ok _, ?_, hle⟩
  unfold subE
  rw [carried_mod]
  have e : E5.val ⟨a.x0 + 4503599627370458 - b.x0, a.x1 + 4503599627370494 - b.x1, a.x2 + 4503599627370494 - b.x2, a.x3 + 4503599627370494 - b.x3, a.x4 + 4503599627370494 - b.x4⟩ = a.val + (2 * Pq - b.val) := by
    have hl := hle
    unfold E5.val Pq at *
    rw [sub_nat a.x0 _ b.x0 (by rw [k0_nat]; omega) (by rw [k0_nat]; omega), sub_nat a.x1 _ b.x1 (by rw [k1_nat]; omega) (by rw [k1_nat]; omega), sub_nat a.x2 _ b.x2 (by rw [k1_nat]; omega) (by rw [k1_nat]; omega), sub_nat a.x3 _ b.x3 (by rw [k1_nat]; omega) (by rw [k1_nat]; omega), sub_nat a.x4 _ b.x4 (by rw [k1_nat]; omega) (by rw [k1_nat]; omega), k0_nat, k1_nat]
    omega
  rw [e]
/-! ### products -/
def Wd.val (w : Wd) : Nat := 18446744073709551616 * w.hi.toNat + w.lo.toNat
theorem plus_val (w : Wd) (a b : UInt64) (h : w.val + a.toNat * b.toNat < 340282366920938463463374607431768211456) : (plusE w a b).val = w.val + a.toNat * b.toNat := by
  have hm := mulHi_nat a b
  have hs := addStep w.lo (a * b) false
  have hz : bn false = 0 := rfl
  have hc := bn_le (cyO w.lo (a * b) false)
  have hl := w.lo.toNat_lt
  have hh := w.hi.toNat_lt
  have hl2 := (w.lo + a * b + bit64 false).toNat_lt
  unfold Wd.val plusE at *
  simp only
  rw [UInt64.toNat_add, UInt64.toNat_add, bit64_nat]
  generalize a.toNat * b.toNat = p at *
  simp only [Nat.reducePow] at *
  omega
theorem shift_val (w : Wd) (h : w.val < 41538374868278621028243970633760768) : (shiftE w).toNat = w.val / 2251799813685248 := by
  have hl := w.lo.toNat_lt
  have hh := w.hi.toNat_lt
  unfold shiftE
  rw [UInt64.toNat_or, shl_u64_nat _ 13 (by omega), shr51]
  unfold Wd.val at *
  simp only [Nat.reducePow] at *
  have h1 : w.hi.toNat * 8192 % 18446744073709551616 = w.hi.toNat * 8192 := Nat.mod_eq_of_lt (by omega)
  rw [h1]
  have h2 : w.lo.toNat / 2251799813685248 < 2 ^ 13 := by simp only [Nat.reducePow]; omega
  have := Nat.shiftLeft_add_eq_or_of_lt h2 w.hi.toNat
  rw [Nat.shiftLeft_eq] at this
  simp only [Nat.reducePow] at this
  rw [← this]
  omega
theorem lo_val (w : Wd) : (w.lo &&& m51).toNat = w.val % 2251799813685248 := by
  rw [and51]
  unfold Wd.val
  have : 18446744073709551616 * w.hi.toNat = 2251799813685248 * (8192 * w.hi.toNat) := by omega
  omega
theorem mul19 (y : UInt64) (h : y.toNat < 2251799813947392) : (19 * y).toNat = 19 * y.toNat := by
  rw [UInt64.toNat_mul, n19]
  simp only [Nat.reducePow]
  omega
/-- A product of parts is small. -/
theorem prod_le {x y B C : Nat} (hx : x ≤ B) (hy : y ≤ C) : x * y ≤ B * C := Nat.mul_le_mul hx hy
theorem five_val (w : Wd) (a0 a1 a2 a3 a4 b0 b1 b2 b3 b4 : UInt64) (hw : w.val = 0) (h0 : a0.toNat * b0.toNat ≤ 96342400000000000000000000000000) (h1 : a1.toNat * b1.toNat ≤ 96342400000000000000000000000000) (h2 : a2.toNat * b2.toNat ≤ 96342400000000000000000000000000) (h3 : a3.toNat * b3.toNat ≤ 96342400000000000000000000000000) (h4 : a4.toNat * b4.toNat ≤ 96342400000000000000000000000000) :
    (plusE (plusE (plusE (plusE (plusE w a0 b0) a1 b1) a2 b2) a3 b3) a4 b4).val = a0.toNat * b0.toNat + a1.toNat * b1.toNat + a2.toNat * b2.toNat + a3.toNat * b3.toNat + a4.toNat * b4.toNat := by
  have e0 := plus_val w a0 b0 (by omega)
  have e1 := plus_val (plusE w a0 b0) a1 b1 (by omega)
  have e2 := plus_val (plusE (plusE w a0 b0) a1 b1) a2 b2 (by omega)
  have e3 := plus_val (plusE (plusE (plusE w a0 b0) a1 b1) a2 b2) a3 b3 (by omega)
  have e4 := plus_val (plusE (plusE (plusE (plusE w a0 b0) a1 b1) a2 b2) a3 b3) a4 b4 (by omega)
  omega
theorem mulE_val (a b : E5) (ha : a.ok) (hb : b.ok) : (mulE a b).ok ∧ (mulE a b).val % Pq = a.val * b.val % Pq := by
  refine ⟨carried_ok _, ?_⟩
  unfold E5.ok at ha hb
  obtain ⟨a0, a1, a2, a3, a4⟩ := a
  obtain ⟨b0, b1, b2, b3, b4⟩ := b
  simp only at ha hb
  obtain ⟨ha0, ha1, ha2, ha3, ha4⟩ := ha
  obtain ⟨hb0, hb1, hb2, hb3, hb4⟩ := hb
  have hp : ∀ x y : UInt64, x.toNat < 2251799813947392 → y.toNat < 2251799813947392 → x.toNat * y.toNat ≤ 96342400000000000000000000000000 := fun x y hx hy => Nat.le_trans (prod_le (Nat.le_of_lt hx) (Nat.le_of_lt hy)) (by omega)
  have hq : ∀ x y : UInt64, x.toNat < 2251799813947392 → y.toNat < 2251799813947392 → x.toNat * (19 * y).toNat ≤ 96342400000000000000000000000000 ∧ x.toNat * (19 * y).toNat = 19 * (x.toNat * y.toNat) := fun x y hx hy => by
    rw [mul19 y hy]
    refine ⟨Nat.le_trans (prod_le (Nat.le_of_lt hx) (Nat.mul_le_mul_left 19 (Nat.le_of_lt hy))) (by omega), ?_⟩
    rw [Nat.mul_left_comm]
  have hz : zeroWd.val = 0 := rfl
  have w0 := five_val zeroWd a0 a1 a2 a3 a4 b0 (19 * b4) (19 * b3) (19 * b2) (19 * b1) hz (hp _ _ ha0 hb0) (hq _ _ ha1 hb4).1 (hq _ _ ha2 hb3).1 (hq _ _ ha3 hb2).1 (hq _ _ ha4 hb1).1
  have w1 := five_val zeroWd a0 a1 a2 a3 a4 b1 b0 (19 * b4) (19 * b3) (19 * b2) hz (hp _ _ ha0 hb1) (hp _ _ ha1 hb0) (hq _ _ ha2 hb4).1 (hq _ _ ha3 hb3).1 (hq _ _ ha4 hb2).1
  have w2 := five_val zeroWd a0 a1 a2 a3 a4 b2 b1 b0 (19 * b4) (19 * b3) hz (hp _ _ ha0 hb2) (hp _ _ ha1 hb1) (hp _ _ ha2 hb0) (hq _ _ ha3 hb4).1 (hq _ _ ha4 hb3).1
  have w3 := five_val zeroWd a0 a1 a2 a3 a4 b3 b2 b1 b0 (19 * b4) hz (hp _ _ ha0 hb3) (hp _ _ ha1 hb2) (hp _ _ ha2 hb1) (hp _ _ ha3 hb0) (hq _ _ ha4 hb4).1
  have w4 := five_val zeroWd a0 a1 a2 a3 a4 b4 b3 b2 b1 b0 hz (hp _ _ ha0 hb4) (hp _ _ ha1 hb3) (hp _ _ ha2 hb2) (hp _ _ ha3 hb1) (hp _ _ ha4 hb0)
  rw [(hq _ _ ha1 hb4).2, (hq _ _ ha2 hb3).2, (hq _ _ ha3 hb2).2, (hq _ _ ha4 hb1).2] at w0
  rw [(hq _ _ ha2 hb4).2, (hq _ _ ha3 hb3).2, (hq _ _ ha4 hb2).2] at w1
  rw [(hq _ _ ha3 hb4).2, (hq _ _ ha4 hb3).2] at w2
  rw [(hq _ _ ha4 hb4).2] at w3
  have b4' := hp _ _ ha0 hb4
  have p00 := hp _ _ ha0 hb0; have p01 := hp _ _ ha0 hb1; have p02 := hp _ _ ha0 hb2; have p03 := hp _ _ ha0 hb3
  have p10 := hp _ _ ha1 hb0; have p11 := hp _ _ ha1 hb1; have p12 := hp _ _ ha1 hb2; have p13 := hp _ _ ha1 hb3; have p14 := (hq _ _ ha1 hb4)
  have p20 := hp _ _ ha2 hb0; have p21 := hp _ _ ha2 hb1; have p22 := hp _ _ ha2 hb2; have p23 := (hq _ _ ha2 hb3); have p24 := (hq _ _ ha2 hb4)
  have p30 := hp _ _ ha3 hb0; have p31 := hp _ _ ha3 hb1; have p32 := (hq _ _ ha3 hb2); have p33 := (hq _ _ ha3 hb3); have p34 := (hq _ _ ha3 hb4)
  have p40 := hp _ _ ha4 hb0; have p41 := (hq _ _ ha4 hb1); have p42 := (hq _ _ ha4 hb2); have p43 := (hq _ _ ha4 hb3); have p44 := (hq _ _ ha4 hb4)
  have q14 := p14.1; have q23 := p23.1; have q24 := p24.1; have q32 := p32.1; have q33 := p33.1; have q34 := p34.1; have q41 := p41.1; have q42 := p42.1; have q43 := p43.1; have q44 := p44.1
  rw [p14.2] at q14; rw [p23.2] at q23; rw [p24.2] at q24; rw [p32.2] at q32; rw [p33.2] at q33; rw [p34.2] at q34; rw [p41.2] at q41; rw [p42.2] at q42; rw [p43.2] at q43; rw [p44.2] at q44
  have ex : E5.val ⟨a0, a1, a2, a3, a4⟩ * E5.val ⟨b0, b1, b2, b3, b4⟩ =
      (a0.toNat * b0.toNat + 19 * (a1.toNat * b4.toNat) + 19 * (a2.toNat * b3.toNat) + 19 * (a3.toNat * b2.toNat) + 19 * (a4.toNat * b1.toNat))
      + 2251799813685248 * (a0.toNat * b1.toNat + a1.toNat * b0.toNat + 19 * (a2.toNat * b4.toNat) + 19 * (a3.toNat * b3.toNat) + 19 * (a4.toNat * b2.toNat))
      + 5070602400912917605986812821504 * (a0.toNat * b2.toNat + a1.toNat * b1.toNat + a2.toNat * b0.toNat + 19 * (a3.toNat * b4.toNat) + 19 * (a4.toNat * b3.toNat))
      + 11417981541647679048466287755595961091061972992 * (a0.toNat * b3.toNat + a1.toNat * b2.toNat + a2.toNat * b1.toNat + a3.toNat * b0.toNat + 19 * (a4.toNat * b4.toNat))
      + 25711008708143844408671393477458601640355247900524685364822016 * (a0.toNat * b4.toNat + a1.toNat * b3.toNat + a2.toNat * b2.toNat + a3.toNat * b1.toNat + a4.toNat * b0.toNat)
      + Pq * (a1.toNat * b4.toNat + a2.toNat * b3.toNat + a3.toNat * b2.toNat + a4.toNat * b1.toNat + 2251799813685248 * (a2.toNat * b4.toNat + a3.toNat * b3.toNat + a4.toNat * b2.toNat) + 5070602400912917605986812821504 * (a3.toNat * b4.toNat + a4.toNat * b3.toNat) + 11417981541647679048466287755595961091061972992 * (a4.toNat * b4.toNat)) := by
    unfold E5.val Pq
    simp only
    generalize a0.toNat = u0; generalize a1.toNat = u1; generalize a2.toNat = u2; generalize a3.toNat = u3; generalize a4.toNat = u4
    generalize b0.toNat = v0; generalize b1.toNat = v1; generalize b2.toNat = v2; generalize b3.toNat = v3; generalize b4.toNat = v4
    grind
  rw [ex, Nat.add_mul_mod_self_left]
  unfold mulE
  rw [carried_mod]
  unfold rowE
  simp only
  generalize hW0 : plusE (plusE (plusE (plusE (plusE zeroWd a0 b0) a1 (19 * b4)) a2 (19 * b3)) a3 (19 * b2)) a4 (19 * b1) = W0 at *
  generalize hW1 : plusE (plusE (plusE (plusE (plusE zeroWd a0 b1) a1 b0) a2 (19 * b4)) a3 (19 * b3)) a4 (19 * b2) = W1 at *
  generalize hW2 : plusE (plusE (plusE (plusE (plusE zeroWd a0 b2) a1 b1) a2 b0) a3 (19 * b4)) a4 (19 * b3) = W2 at *
  generalize hW3 : plusE (plusE (plusE (plusE (plusE zeroWd a0 b3) a1 b2) a2 b1) a3 b0) a4 (19 * b4) = W3 at *
  generalize hW4 : plusE (plusE (plusE (plusE (plusE zeroWd a0 b4) a1 b3) a2 b2) a3 b1) a4 b0 = W4' at *
  rw [← w0, ← w1, ← w2, ← w3, ← w4]
  have l0 : W0.val ≤ 481712000000000000000000000000000 := by omega
  have l1 : W1.val ≤ 481712000000000000000000000000000 := by omega
  have l2 : W2.val ≤ 481712000000000000000000000000000 := by omega
  have l3 : W3.val ≤ 481712000000000000000000000000000 := by omega
  have l4 : W4'.val ≤ 25353013000000000000000000000000 := by
    have r : ∀ x y : UInt64, x.toNat < 2251799813947392 → y.toNat < 2251799813947392 → x.toNat * y.toNat ≤ 5070602600000000000000000000000 := fun x y hx hy => Nat.le_trans (prod_le (Nat.le_of_lt hx) (Nat.le_of_lt hy)) (by omega)
    have r1 := r _ _ ha0 hb4; have r2 := r _ _ ha1 hb3; have r3 := r _ _ ha2 hb2; have r4 := r _ _ ha3 hb1; have r5 := r _ _ ha4 hb0
    omega
  clear w0 w1 w2 w3 w4 ex p00 p01 p02 p03 p10 p11 p12 p13 p14 p20 p21 p22 p23 p24 p30 p31 p32 p33 p34 p40 p41 p42 p43 p44 q14 q23 q24 q32 q33 q34 q41 q42 q43 q44 hp hq b4'
  have s0 := shift_val W0 (by omega)
  have s1 := shift_val W1 (by omega)
  have s2 := shift_val W2 (by omega)
  have s3 := shift_val W3 (by omega)
  have s4 := shift_val W4' (by omega)
  have t0 := lo_val W0
  have t1 := lo_val W1
  have t2 := lo_val W2
  have t3 := lo_val W3
  have t4 := lo_val W4'
  have c0 : ((W0.lo &&& m51) + 19 * shiftE W4').toNat = W0.val % 2251799813685248 + 19 * (W4'.val / 2251799813685248) := by
    rw [UInt64.toNat_add, UInt64.toNat_mul, n19, t0, s4]
    simp only [Nat.reducePow]
    omega
  have c1 := add_nat (W1.lo &&& m51) (shiftE W0) (by omega)
  have c2 := add_nat (W2.lo &&& m51) (shiftE W1) (by omega)
  have c3 := add_nat (W3.lo &&& m51) (shiftE W2) (by omega)
  have c4 := add_nat (W4'.lo &&& m51) (shiftE W3) (by omega)
  have fin : E5.val ⟨(W0.lo &&& m51) + 19 * shiftE W4', (W1.lo &&& m51) + shiftE W0, (W2.lo &&& m51) + shiftE W1, (W3.lo &&& m51) + shiftE W2, (W4'.lo &&& m51) + shiftE W3⟩ + Pq * (W4'.val / 2251799813685248) = W0.val + 2251799813685248 * W1.val + 5070602400912917605986812821504 * W2.val + 11417981541647679048466287755595961091061972992 * W3.val + 25711008708143844408671393477458601640355247900524685364822016 * W4'.val := by
    unfold E5.val Pq
    simp only
    rw [c0, c1, c2, c3, c4, s0, s1, s2, s3, t1, t2, t3, t4]
    omega
  rw [← fin, Nat.add_mul_mod_self_left]
end Go.Num
