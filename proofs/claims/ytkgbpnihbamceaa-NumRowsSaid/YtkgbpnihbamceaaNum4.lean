/- What the program's words modulo the order are worth. -/
import Derived.Test.YtkgbpnihbamceaaNum3
namespace Go.Num
set_option linter.unusedVariables false
set_option linter.unusedSimpArgs false
open Go Go.Eng
def bn (b : Bool) : Nat := cond b 1 0
theorem bit64_nat (b : Bool) : (bit64 b).toNat = bn b := by cases b <;> rfl
theorem bn_le (b : Bool) : bn b ≤ 1 := by cases b <;> decide
theorem cond64_nat (b : Bool) : (cond b (1 : UInt64) 0).toNat = bn b := by cases b <;> rfl
theorem ble_bn (x y : Nat) : (Nat.ble x y = true ∧ x ≤ y) ∨ (Nat.ble x y = false ∧ y < x) := by
  rcases Nat.lt_or_ge y x with h | h
  · refine .inr ⟨?_, h⟩
    rw [Bool.eq_false_iff, ne_eq, Nat.ble_eq]; omega
  · exact .inl ⟨Nat.ble_eq_true_of_le h, h⟩
theorem subStep (x y : UInt64) (c : Bool) : (x - y - bit64 c).toNat + y.toNat + bn c = x.toNat + 18446744073709551616 * bn (boO x y c) := by
  have hx := x.toNat_lt
  have hy := y.toNat_lt
  have hc := bn_le c
  rw [UInt64.toNat_sub, UInt64.toNat_sub, bit64_nat]
  unfold boO
  rw [cond64_nat]
  simp only [Nat.reducePow] at *
  rcases ble_bn (x.toNat + 1) (y.toNat + bn c) with ⟨h1, h2⟩ | ⟨h1, h2⟩ <;> rw [h1] <;> first | rw [show bn true = 1 from rfl] | rw [show bn false = 0 from rfl]
  all_goals omega
theorem addStep (x y : UInt64) (c : Bool) : (x + y + bit64 c).toNat + 18446744073709551616 * bn (cyO x y c) = x.toNat + y.toNat + bn c := by
  have hx := x.toNat_lt
  have hy := y.toNat_lt
  have hc := bn_le c
  rw [UInt64.toNat_add, UInt64.toNat_add, bit64_nat]
  unfold cyO
  rw [cond64_nat]
  simp only [Nat.reducePow] at *
  rcases ble_bn 18446744073709551616 (x.toNat + y.toNat + bn c) with ⟨h1, h2⟩ | ⟨h1, h2⟩ <;> rw [h1] <;> first | rw [show bn true = 1 from rfl] | rw [show bn false = 0 from rfl]
  all_goals omega
def W4.val (a : W4) : Nat := a.x0.toNat + 18446744073709551616 * (a.x1.toNat + 18446744073709551616 * (a.x2.toNat + 18446744073709551616 * a.x3.toNat))
def B256 : Nat := 115792089237316195423570985008687907853269984665640564039457584007913129639936
theorem W4.val_lt (a : W4) : a.val < 115792089237316195423570985008687907853269984665640564039457584007913129639936 := by
  have h0 := a.x0.toNat_lt; have h1 := a.x1.toNat_lt; have h2 := a.x2.toNat_lt; have h3 := a.x3.toNat_lt
  unfold W4.val
  simp only [Nat.reducePow] at *
  omega
theorem W4.ext_val {a b : W4} (h : a.val = b.val) : a = b := by
  obtain ⟨a0, a1, a2, a3⟩ := a
  obtain ⟨b0, b1, b2, b3⟩ := b
  have h0 := a0.toNat_lt; have h1 := a1.toNat_lt; have h2 := a2.toNat_lt; have h3 := a3.toNat_lt
  have k0 := b0.toNat_lt; have k1 := b1.toNat_lt; have k2 := b2.toNat_lt; have k3 := b3.toNat_lt
  simp only [W4.val, Nat.reducePow] at *
  have e0 : a0 = b0 := UInt64.toNat_inj.1 (by omega)
  have e1 : a1 = b1 := UInt64.toNat_inj.1 (by omega)
  have e2 : a2 = b2 := UInt64.toNat_inj.1 (by omega)
  have e3 : a3 = b3 := UInt64.toNat_inj.1 (by omega)
  rw [e0, e1, e2, e3]
/-- The borrow of a difference of four words. -/
def boW (a b : W4) : Bool :=
  let b0 := boO a.x0 b.x0 false
  let b1 := boO a.x1 b.x1 b0
  let b2 := boO a.x2 b.x2 b1
  boO a.x3 b.x3 b2
theorem minus_val (a b : W4) : (minusW a b).val + b.val = a.val + 115792089237316195423570985008687907853269984665640564039457584007913129639936 * bn (boW a b) := by
  have h0 := subStep a.x0 b.x0 false
  have h1 := subStep a.x1 b.x1 (boO a.x0 b.x0 false)
  have h2 := subStep a.x2 b.x2 (boO a.x1 b.x1 (boO a.x0 b.x0 false))
  have h3 := subStep a.x3 b.x3 (boO a.x2 b.x2 (boO a.x1 b.x1 (boO a.x0 b.x0 false)))
  simp only [W4.val, minusW, boW]
  have hz : bn false = 0 := rfl
  omega
theorem boW_eq (a b : W4) : boW a b = decide (a.val < b.val) := by
  have h := minus_val a b
  have h1 := (minusW a b).val_lt
  have h2 := a.val_lt
  have h3 := b.val_lt
  cases hb : boW a b <;> rw [hb] at h <;> simp only [bn, cond_true, cond_false] at h <;> symm
  · rw [decide_eq_false_iff_not]; omega
  · rw [decide_eq_true_iff]; omega
theorem below_eq (a b : W4) : belowW a b = decide (a.val < b.val) := by
  rw [← boW_eq]
  show (bit64 (boW a b) == 1) = boW a b
  cases boW a b <;> rfl
def Lq : Nat := 7237005577332262213973186563042994240857116359379907606001950938285454250989
theorem order_val : orderW.val = 7237005577332262213973186563042994240857116359379907606001950938285454250989 := by decide
theorem less_val (a : W4) : (lessW a).val = if a.val < 7237005577332262213973186563042994240857116359379907606001950938285454250989 then a.val else a.val - 7237005577332262213973186563042994240857116359379907606001950938285454250989 := by
  unfold lessW
  rw [below_eq, order_val]
  by_cases h : a.val < 7237005577332262213973186563042994240857116359379907606001950938285454250989
  · rw [decide_eq_true h, if_pos h]; rfl
  · rw [decide_eq_false h, if_neg h]
    have hm := minus_val a orderW
    rw [boW_eq, order_val, decide_eq_false h] at hm
    simp only [bn, cond_false] at hm ⊢
    omega
theorem less_mod {a : W4} (h : a.val < 2 * Lq) : (lessW a).val = a.val % Lq := by
  rw [less_val]
  unfold Lq at *
  split <;> omega
theorem or_bit (x c : Nat) (h : c ≤ 1) : (2 * x) ||| c = 2 * x + c := by
  have := Nat.shiftLeft_add_eq_or_of_lt (b := c) (i := 1) (by omega) x
  rw [Nat.shiftLeft_eq, Nat.pow_one, Nat.mul_comm] at this
  exact this.symm
theorem shlOr (x c : UInt64) (h : c.toNat ≤ 1) : (shl_u64 x 1 ||| c).toNat + 18446744073709551616 * (x.toNat / 9223372036854775808) = 2 * x.toNat + c.toNat := by
  have hx := x.toNat_lt
  rw [UInt64.toNat_or, shl_u64_nat x 1 (by omega)]
  have e : x.toNat * 2 ^ 1 % 18446744073709551616 = 2 * (x.toNat % 9223372036854775808) := by omega
  rw [e, or_bit _ _ h]
  omega
theorem top_bit (x : UInt64) : (shr_u64 x 63).toNat = x.toNat / 9223372036854775808 := shr_u64_nat x 63 (by omega)
theorem shl1_val (a : W4) (c : UInt64) (hc : c.toNat ≤ 1) (h : a.val < 57896044618658097711785492504343953926634992332820282019728792003956564819968) : (shl1W a c).val = 2 * a.val + c.toNat := by
  have k0 := a.x0.toNat_lt; have k1 := a.x1.toNat_lt; have k2 := a.x2.toNat_lt; have k3 := a.x3.toNat_lt
  simp only [Nat.reducePow] at *
  have t0 := top_bit a.x0; have t1 := top_bit a.x1; have t2 := top_bit a.x2
  have h0 := shlOr a.x0 c hc
  have h1 := shlOr a.x1 (shr_u64 a.x0 63) (by omega)
  have h2 := shlOr a.x2 (shr_u64 a.x1 63) (by omega)
  have h3 := shlOr a.x3 (shr_u64 a.x2 63) (by omega)
  simp only [W4.val, shl1W] at *
  omega
/-- The bit of a byte at a place. -/
def bitOf (c : UInt8) (i : Nat) : Nat := c.toNat / 2 ^ i % 2
theorem bit_word (c : UInt8) (i : Nat) (h : i < 8) : ((shr_u8 c i &&& 1).toUInt64).toNat = bitOf c i := by
  rw [UInt8.toNat_toUInt64, and8_nat _ 1 1 rfl, shr_u8_nat c i h]; rfl
theorem bitW_val (a : W4) (c : UInt8) (i : Nat) (hi : i < 8) (h : a.val < Lq) : (bitW a c i).val = (2 * a.val + bitOf c i) % Lq := by
  have hb := bit_word c i hi
  have hle : bitOf c i ≤ 1 := by unfold bitOf; omega
  have e := shl1_val a ((shr_u8 c i &&& 1).toUInt64) (by omega) (by unfold Lq at h; omega)
  unfold bitW
  rw [less_mod (by rw [e, hb]; unfold Lq at *; omega), e, hb]
theorem mod_step (x y b L : Nat) (h : x = y % L) : (2 * x + b) % L = (2 * y + b) % L := by
  subst h
  rw [Nat.add_mod, Nat.mul_mod, Nat.mod_mod, ← Nat.mul_mod, ← Nat.add_mod]
theorem byte_bits (c : UInt8) : 2 * (2 * (2 * (2 * (2 * (2 * (2 * (bitOf c 7) + bitOf c 6) + bitOf c 5) + bitOf c 4) + bitOf c 3) + bitOf c 2) + bitOf c 1) + bitOf c 0 = c.toNat := by
  have h := c.toNat_lt
  simp only [bitOf, Nat.reducePow] at *
  omega
theorem Lq_pos : 0 < Lq := by decide
theorem byteW_val (a : W4) (c : UInt8) (h : a.val < Lq) : (byteW a c).val = (256 * a.val + c.toNat) % Lq := by
  have lt : ∀ {x y : Nat}, x = y % Lq → x < Lq := fun e => by rw [e]; exact Nat.mod_lt _ Lq_pos
  have e7 := bitW_val a c 7 (by omega) h
  have e6 := (bitW_val _ c 6 (by omega) (lt e7)).trans (mod_step _ _ _ _ e7)
  have e5 := (bitW_val _ c 5 (by omega) (lt e6)).trans (mod_step _ _ _ _ e6)
  have e4 := (bitW_val _ c 4 (by omega) (lt e5)).trans (mod_step _ _ _ _ e5)
  have e3 := (bitW_val _ c 3 (by omega) (lt e4)).trans (mod_step _ _ _ _ e4)
  have e2 := (bitW_val _ c 2 (by omega) (lt e3)).trans (mod_step _ _ _ _ e3)
  have e1 := (bitW_val _ c 1 (by omega) (lt e2)).trans (mod_step _ _ _ _ e2)
  have e0 := (bitW_val _ c 0 (by omega) (lt e1)).trans (mod_step _ _ _ _ e1)
  have hb := byte_bits c
  have hs : 2 * (2 * (2 * (2 * (2 * (2 * (2 * (2 * a.val + bitOf c 7) + bitOf c 6) + bitOf c 5) + bitOf c 4) + bitOf c 3) + bitOf c 2) + bitOf c 1) + bitOf c 0 = 256 * a.val + c.toNat := by omega
  rw [← hs]
  exact e0
/-- A text as a number, the lowest byte first. -/
def leNat : List UInt8 → Nat
  | [] => 0
  | c :: l => c.toNat + 256 * leNat l
theorem ofW_cons (c : UInt8) (l : List UInt8) : ofW (c :: l) = byteW (ofW l) c := by simp only [ofW, List.foldr_cons]
theorem leNat_cons (c : UInt8) (l : List UInt8) : leNat (c :: l) = c.toNat + 256 * leNat l := rfl
theorem ofW_val : ∀ s : List UInt8, (ofW s).val = leNat s % Lq
  | [] => by kernel_rfl
  | c :: l => by
    have ih := ofW_val l
    have hlt : (ofW l).val < Lq := by rw [ih]; exact Nat.mod_lt _ Lq_pos
    rw [ofW_cons, byteW_val _ _ hlt, ih, leNat_cons]
    rw [Nat.add_comm c.toNat, Nat.add_mod, Nat.mul_mod, Nat.mod_mod, ← Nat.mul_mod, ← Nat.add_mod]
theorem ofW_lt (s : List UInt8) : (ofW s).val < Lq := by rw [ofW_val]; exact Nat.mod_lt _ Lq_pos
theorem addW_val (a b : W4) (ha : a.val < Lq) (hb : b.val < Lq) : (addW a b).val = (a.val + b.val) % Lq := by
  have h0 := addStep a.x0 b.x0 false
  have h1 := addStep a.x1 b.x1 (cyO a.x0 b.x0 false)
  have h2 := addStep a.x2 b.x2 (cyO a.x1 b.x1 (cyO a.x0 b.x0 false))
  have h3 := addStep a.x3 b.x3 (cyO a.x2 b.x2 (cyO a.x1 b.x1 (cyO a.x0 b.x0 false)))
  have hz : bn false = 0 := rfl
  have key : W4.val ⟨a.x0 + b.x0 + bit64 false, a.x1 + b.x1 + bit64 (cyO a.x0 b.x0 false), a.x2 + b.x2 + bit64 (cyO a.x1 b.x1 (cyO a.x0 b.x0 false)), a.x3 + b.x3 + bit64 (cyO a.x2 b.x2 (cyO a.x1 b.x1 (cyO a.x0 b.x0 false)))⟩ = a.val + b.val := by
    have hc := bn_le (cyO a.x3 b.x3 (cyO a.x2 b.x2 (cyO a.x1 b.x1 (cyO a.x0 b.x0 false))))
    simp only [W4.val, Lq] at *
    omega
  unfold addW
  rw [less_mod (by rw [key]; unfold Lq at *; omega), key]
theorem leNat_append (a b : List UInt8) : leNat (a ++ b) = leNat a + 256 ^ a.length * leNat b := by
  induction a with
  | nil => simp [leNat]
  | cons c l ih =>
    simp only [List.cons_append, leNat, ih, List.length_cons, Nat.pow_succ]
    rw [Nat.mul_add, Nat.mul_comm (256 ^ l.length) 256, Nat.mul_assoc]
    omega
theorem toU8_nat (x : UInt64) : (x.toUInt8).toNat = x.toNat % 256 := by simp
theorem leNat_inj : ∀ {a b : List UInt8}, a.length = b.length → leNat a = leNat b → a = b
  | [], [], _, _ => rfl
  | [], _ :: _, h, _ => by cases h
  | _ :: _, [], h, _ => by cases h
  | x :: a, y :: b, h, e => by
    have hx := x.toNat_lt
    have hy := y.toNat_lt
    simp only [leNat, Nat.reducePow] at *
    have e1 : x = y := UInt8.toNat_inj.1 (by omega)
    have e2 : a = b := leNat_inj (by simpa using h) (by omega)
    rw [e1, e2]
theorem bytes8_val (x : UInt64) : leNat (bytes8 x) = x.toNat := by
  have h := x.toNat_lt
  simp only [bytes8, leNat, toU8_nat, shr_u64_nat x 0 (by omega), shr_u64_nat x 8 (by omega), shr_u64_nat x 16 (by omega), shr_u64_nat x 24 (by omega), shr_u64_nat x 32 (by omega), shr_u64_nat x 40 (by omega), shr_u64_nat x 48 (by omega), shr_u64_nat x 56 (by omega), Nat.reducePow] at *
  omega
theorem bytesW_list (a : W4) : bytesW a = bytes8 a.x0 ++ (bytes8 a.x1 ++ (bytes8 a.x2 ++ bytes8 a.x3)) := by kernel_rfl
theorem bytesW_len (a : W4) : (bytesW a).length = 32 := by rw [bytesW_list]; rfl
theorem bytesW_val (a : W4) : leNat (bytesW a) = a.val := by
  have l : ∀ x, (bytes8 x).length = 8 := fun x => rfl
  rw [bytesW_list, leNat_append, leNat_append, leNat_append]
  simp only [bytes8_val, l]
  rfl
theorem negW_val (a : W4) (h : a.val < Lq) : (negW a).val = (Lq - a.val) % Lq := by
  unfold negW
  by_cases hz : a = zeroW
  · rw [decide_eq_true hz, cond_true, hz]; decide
  · rw [decide_eq_false hz, cond_false]
    have hne : a.val ≠ 0 := fun e => hz (W4.ext_val (by rw [e]; rfl))
    have hm := minus_val orderW a
    rw [boW_eq, order_val, decide_eq_false (by unfold Lq at h; omega)] at hm
    simp only [bn, cond_false] at hm
    rw [Nat.mod_eq_of_lt (by omega)]
    unfold Lq
    omega
/-! ### products -/
theorem mulHi_nat (x y : UInt64) : (mulHi x y).toNat * 18446744073709551616 + (x * y).toNat = x.toNat * y.toNat := by
  have hx := x.toNat_lt
  have hy := y.toNat_lt
  have hlt : x.toNat * y.toNat / 18446744073709551616 < 18446744073709551616 := by
    apply Nat.div_lt_of_lt_mul
    exact Nat.mul_lt_mul'' hx hy
  have e : (mulHi x y).toNat = x.toNat * y.toNat / 18446744073709551616 := by
    unfold mulHi
    rw [UInt64.toNat_ofNat_of_lt']; exact hlt
  rw [e, UInt64.toNat_mul]
  simp only [Nat.reducePow]
  omega
theorem step_val (x y w c : UInt64) : (stepLo x y w c).toNat + 18446744073709551616 * (stepHi x y w c).toNat = x.toNat * y.toNat + w.toNat + c.toNat := by
  have h := mulHi_nat x y
  have a1 := addStep (x * y) w false
  have a2 := addStep (x * y + w + bit64 false) c false
  have hz : bn false = 0 := rfl
  have hw := w.toNat_lt
  have hc := c.toNat_lt
  have hx := x.toNat_lt
  have hy := y.toNat_lt
  have b1 := bn_le (cyO (x * y) w false)
  have b2 := bn_le (cyO (x * y + w + bit64 false) c false)
  have hp : x.toNat * y.toNat ≤ 18446744073709551615 * 18446744073709551615 := Nat.mul_le_mul (by omega) (by omega)
  have hlo := (x * y + w + bit64 false + c + bit64 false).toNat_lt
  have eh : (stepHi x y w c).toNat = (((mulHi x y).toNat + bn (cyO (x * y) w false)) % 2 ^ 64 + bn (cyO (x * y + w + bit64 false) c false)) % 2 ^ 64 := by
    unfold stepHi
    rw [UInt64.toNat_add, UInt64.toNat_add, bit64_nat, bit64_nat]
  rw [eh]
  unfold stepLo
  generalize x.toNat * y.toNat = p at *
  simp only [Nat.reducePow, Nat.reduceMul] at *
  omega
theorem row_val (x : UInt64) (b : W4) (w0 w1 w2 w3 : UInt64) :
    (mulRow x b w0 w1 w2 w3).1.toNat + 18446744073709551616 * ((mulRow x b w0 w1 w2 w3).2.1.toNat + 18446744073709551616 * ((mulRow x b w0 w1 w2 w3).2.2.1.toNat + 18446744073709551616 * ((mulRow x b w0 w1 w2 w3).2.2.2.1.toNat + 18446744073709551616 * (mulRow x b w0 w1 w2 w3).2.2.2.2.toNat))) =
      x.toNat * b.val + (w0.toNat + 18446744073709551616 * (w1.toNat + 18446744073709551616 * (w2.toNat + 18446744073709551616 * w3.toNat))) := by
  have s0 := step_val x b.x0 w0 0
  have s1 := step_val x b.x1 w1 (stepHi x b.x0 w0 0)
  have s2 := step_val x b.x2 w2 (stepHi x b.x1 w1 (stepHi x b.x0 w0 0))
  have s3 := step_val x b.x3 w3 (stepHi x b.x2 w2 (stepHi x b.x1 w1 (stepHi x b.x0 w0 0)))
  have hz : (0 : UInt64).toNat = 0 := rfl
  have e : x.toNat * b.val = x.toNat * b.x0.toNat + 18446744073709551616 * (x.toNat * b.x1.toNat + 18446744073709551616 * (x.toNat * b.x2.toNat + 18446744073709551616 * (x.toNat * b.x3.toNat))) := by
    unfold W4.val
    simp only [Nat.mul_add, Nat.mul_left_comm]
  rw [e]
  simp only [mulRow]
  omega
set_option maxHeartbeats 4000000 in
theorem mulR_val (a b : W4) : leNat ((mulR a b).flatMap bytes8) = a.val * b.val := by
  have r0 := row_val a.x0 b 0 0 0 0
  have r1 := row_val a.x1 b (mulRow a.x0 b 0 0 0 0).2.1 (mulRow a.x0 b 0 0 0 0).2.2.1 (mulRow a.x0 b 0 0 0 0).2.2.2.1 (mulRow a.x0 b 0 0 0 0).2.2.2.2
  generalize hq0 : mulRow a.x0 b 0 0 0 0 = q0 at *
  have r2 := row_val a.x2 b (mulRow a.x1 b q0.2.1 q0.2.2.1 q0.2.2.2.1 q0.2.2.2.2).2.1 (mulRow a.x1 b q0.2.1 q0.2.2.1 q0.2.2.2.1 q0.2.2.2.2).2.2.1 (mulRow a.x1 b q0.2.1 q0.2.2.1 q0.2.2.2.1 q0.2.2.2.2).2.2.2.1 (mulRow a.x1 b q0.2.1 q0.2.2.1 q0.2.2.2.1 q0.2.2.2.2).2.2.2.2
  generalize hq1 : mulRow a.x1 b q0.2.1 q0.2.2.1 q0.2.2.2.1 q0.2.2.2.2 = q1 at *
  have r3 := row_val a.x3 b (mulRow a.x2 b q1.2.1 q1.2.2.1 q1.2.2.2.1 q1.2.2.2.2).2.1 (mulRow a.x2 b q1.2.1 q1.2.2.1 q1.2.2.2.1 q1.2.2.2.2).2.2.1 (mulRow a.x2 b q1.2.1 q1.2.2.1 q1.2.2.2.1 q1.2.2.2.2).2.2.2.1 (mulRow a.x2 b q1.2.1 q1.2.2.1 q1.2.2.2.1 q1.2.2.2.2).2.2.2.2
  generalize hq2 : mulRow a.x2 b q1.2.1 q1.2.2.1 q1.2.2.2.1 q1.2.2.2.2 = q2 at *
  generalize hq3 : mulRow a.x3 b q2.2.1 q2.2.2.1 q2.2.2.2.1 q2.2.2.2.2 = q3 at *
  have hz : (0 : UInt64).toNat = 0 := rfl
  have l : ∀ x, (bytes8 x).length = 8 := fun x => rfl
  have e : a.val * b.val = a.x0.toNat * b.val + 18446744073709551616 * (a.x1.toNat * b.val + 18446744073709551616 * (a.x2.toNat * b.val + 18446744073709551616 * (a.x3.toNat * b.val))) := by
    conv => lhs; unfold W4.val
    simp only [Nat.add_mul, Nat.mul_assoc]
    rfl
  have em : mulR a b = [q0.1, q1.1, q2.1, q3.1, q3.2.1, q3.2.2.1, q3.2.2.2.1, q3.2.2.2.2] := by
    unfold mulR
    simp only [hq0, hq1, hq2, hq3]
  rw [e, em]
  simp only [List.flatMap_cons, List.flatMap_nil, leNat_append, bytes8_val, l, leNat, Nat.reducePow]
  rw [hz] at r0
  omega
theorem mulW_val (a b : W4) : (mulW a b).val = a.val * b.val % Lq := by
  unfold mulW
  rw [ofW_val, mulR_val]
end Go.Num
