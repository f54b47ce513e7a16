/- Engine, part 2: arithmetic of abstract values. -/
import Derived.Test.YtkgbpnihbamceaaEng1
namespace Go.Eng
set_option linter.unusedVariables false
set_option linter.unusedSimpArgs false
open Go


/-! ### UInt8 -/
theorem wrap_u8 (n : Int) : IntKind.wrap .u8 n = n % 256 := by simp [IntKind.wrap, IntKind.bits, IntKind.signed]
theorem lt_u8 (x : UInt8) : x.toNat < 256 := x.toNat_lt
theorem add_u8 (x y : UInt8) : IntKind.wrap .u8 ((x.toNat : Int) + y.toNat) = ((x + y).toNat : Int) := by
  rw [wrap_u8, UInt8.toNat_add]; simp
theorem sub_u8 (x y : UInt8) : IntKind.wrap .u8 ((x.toNat : Int) - y.toNat) = ((x - y).toNat : Int) := by
  have hx := lt_u8 x; have hy := lt_u8 y
  rw [wrap_u8, UInt8.toNat_sub]; simp only [Nat.reducePow]; omega
theorem mul_u8 (x y : UInt8) : IntKind.wrap .u8 ((x.toNat : Int) * y.toNat) = ((x * y).toNat : Int) := by
  rw [wrap_u8, UInt8.toNat_mul]; simp
theorem quo_u8 (x y : UInt8) : IntKind.wrap .u8 ((x.toNat : Int).tdiv y.toNat) = ((x / y).toNat : Int) := by
  have hx := lt_u8 x
  rw [wrap_u8, UInt8.toNat_div, Int.tdiv_eq_ediv_of_nonneg (by omega)]
  have h : x.toNat / y.toNat ≤ x.toNat := Nat.div_le_self _ _
  rw [← Int.natCast_ediv]
  generalize x.toNat / y.toNat = q at h ⊢
  omega
theorem rem_u8 (x y : UInt8) : (x.toNat : Int).tmod y.toNat = ((x % y).toNat : Int) := by
  rw [UInt8.toNat_mod, Int.tmod_eq_emod_of_nonneg (by omega)]; simp
theorem ofInt_u8 (x : UInt8) : BitVec.ofInt 8 (x.toNat : Int) = x.toBitVec := by
  apply BitVec.eq_of_toNat_eq
  have hx := lt_u8 x
  simp only [BitVec.toNat_ofInt, UInt8.toNat_toBitVec]
  omega
theorem bits_u8 (b : BitVec 8) : IntKind.wrap .u8 (b.toNat : Int) = ((UInt8.ofBitVec b).toNat : Int) := by
  have h := b.isLt
  rw [wrap_u8]
  have e : (UInt8.ofBitVec b).toNat = b.toNat := rfl
  rw [e]
  simp only [Nat.reducePow] at h
  omega
theorem beq_u8 (x y : UInt8) : ((x.toNat : Int) == (y.toNat : Int)) = (x == y) := by
  rw [Bool.eq_iff_iff]; simp only [beq_iff_eq]
  exact ⟨fun h => UInt8.toNat_inj.1 (by omega), fun h => by rw [h]⟩
theorem lss_u8 (x y : UInt8) : decide ((x.toNat : Int) < (y.toNat : Int)) = decide (x < y) := by
  simp only [UInt8.lt_iff_toNat_lt, decide_eq_decide]; omega
theorem leq_u8 (x y : UInt8) : decide ((x.toNat : Int) ≤ (y.toNat : Int)) = decide (x ≤ y) := by
  simp only [UInt8.le_iff_toNat_le, decide_eq_decide]; omega
def shl_u8 (x : UInt8) (n : Nat) : UInt8 := cond (Nat.ble n 7) (x <<< UInt8.ofNat n) 0
def shr_u8 (x : UInt8) (n : Nat) : UInt8 := cond (Nat.ble n 7) (x >>> UInt8.ofNat n) 0
theorem blt_cases_u8 (n : Nat) : (n < 8 ∧ Nat.ble n 7 = true) ∨ (8 ≤ n ∧ Nat.ble n 7 = false) := by
  rcases Nat.lt_or_ge n 8 with h | h
  · exact .inl ⟨h, by rw [Nat.ble_eq]; omega⟩
  · exact .inr ⟨h, by rw [Bool.eq_false_iff, ne_eq, Nat.ble_eq]; omega⟩
theorem shl_u8_eq (x : UInt8) (n : Nat) : IntKind.wrap .u8 ((x.toNat : Int) * 2 ^ min n (IntKind.bits .u8)) = ((shl_u8 x n).toNat : Int) := by
  rw [wrap_u8]
  show _ * 2 ^ min n 8 % 256 = _
  unfold shl_u8
  rcases blt_cases_u8 n with ⟨h, hb⟩ | ⟨h, hb⟩
  · rw [hb, Nat.min_eq_left (by omega), cond_true, UInt8.toNat_shiftLeft, UInt8.toNat_ofNat']
    have e : n % 2 ^ 8 % 8 = n := by omega
    rw [e, Nat.shiftLeft_eq]
    simp
  · rw [hb, Nat.min_eq_right h, cond_false]
    have e : (2 : Int) ^ 8 = 256 := by decide
    rw [e, Int.mul_emod_left]; rfl
theorem shr_u8_eq (x : UInt8) (n : Nat) : (x.toNat : Int).fdiv (2 ^ min n (IntKind.bits .u8)) = ((shr_u8 x n).toNat : Int) := by
  have hx := lt_u8 x
  show (x.toNat : Int).fdiv (2 ^ min n 8) = _
  unfold shr_u8
  rw [Int.fdiv_eq_ediv_of_nonneg _ (by exact Int.pow_nonneg (by omega))]
  rcases blt_cases_u8 n with ⟨h, hb⟩ | ⟨h, hb⟩
  · rw [hb, Nat.min_eq_left (by omega), cond_true, UInt8.toNat_shiftRight, UInt8.toNat_ofNat']
    have e : n % 2 ^ 8 % 8 = n := by omega
    rw [e, Nat.shiftRight_eq_div_pow]
    simp
  · rw [hb, Nat.min_eq_right h, cond_false]
    have e : (2 : Int) ^ 8 = 256 := by decide
    rw [e]
    have e2 : ((0 : UInt8).toNat : Int) = 0 := rfl
    rw [e2]; omega


/-! ### UInt32 -/
theorem wrap_u32 (n : Int) : IntKind.wrap .u32 n = n % 4294967296 := by simp [IntKind.wrap, IntKind.bits, IntKind.signed]
theorem lt_u32 (x : UInt32) : x.toNat < 4294967296 := x.toNat_lt
theorem add_u32 (x y : UInt32) : IntKind.wrap .u32 ((x.toNat : Int) + y.toNat) = ((x + y).toNat : Int) := by
  rw [wrap_u32, UInt32.toNat_add]; simp
theorem sub_u32 (x y : UInt32) : IntKind.wrap .u32 ((x.toNat : Int) - y.toNat) = ((x - y).toNat : Int) := by
  have hx := lt_u32 x; have hy := lt_u32 y
  rw [wrap_u32, UInt32.toNat_sub]; simp only [Nat.reducePow]; omega
theorem mul_u32 (x y : UInt32) : IntKind.wrap .u32 ((x.toNat : Int) * y.toNat) = ((x * y).toNat : Int) := by
  rw [wrap_u32, UInt32.toNat_mul]; simp
theorem quo_u32 (x y : UInt32) : IntKind.wrap .u32 ((x.toNat : Int).tdiv y.toNat) = ((x / y).toNat : Int) := by
  have hx := lt_u32 x
  rw [wrap_u32, UInt32.toNat_div, Int.tdiv_eq_ediv_of_nonneg (by omega)]
  have h : x.toNat / y.toNat ≤ x.toNat := Nat.div_le_self _ _
  rw [← Int.natCast_ediv]
  generalize x.toNat / y.toNat = q at h ⊢
  omega
theorem rem_u32 (x y : UInt32) : (x.toNat : Int).tmod y.toNat = ((x % y).toNat : Int) := by
  rw [UInt32.toNat_mod, Int.tmod_eq_emod_of_nonneg (by omega)]; simp
theorem ofInt_u32 (x : UInt32) : BitVec.ofInt 32 (x.toNat : Int) = x.toBitVec := by
  apply BitVec.eq_of_toNat_eq
  have hx := lt_u32 x
  simp only [BitVec.toNat_ofInt, UInt32.toNat_toBitVec]
  omega
theorem bits_u32 (b : BitVec 32) : IntKind.wrap .u32 (b.toNat : Int) = ((UInt32.ofBitVec b).toNat : Int) := by
  have h := b.isLt
  rw [wrap_u32]
  have e : (UInt32.ofBitVec b).toNat = b.toNat := rfl
  rw [e]
  simp only [Nat.reducePow] at h
  omega
theorem beq_u32 (x y : UInt32) : ((x.toNat : Int) == (y.toNat : Int)) = (x == y) := by
  rw [Bool.eq_iff_iff]; simp only [beq_iff_eq]
  exact ⟨fun h => UInt32.toNat_inj.1 (by omega), fun h => by rw [h]⟩
theorem lss_u32 (x y : UInt32) : decide ((x.toNat : Int) < (y.toNat : Int)) = decide (x < y) := by
  simp only [UInt32.lt_iff_toNat_lt, decide_eq_decide]; omega
theorem leq_u32 (x y : UInt32) : decide ((x.toNat : Int) ≤ (y.toNat : Int)) = decide (x ≤ y) := by
  simp only [UInt32.le_iff_toNat_le, decide_eq_decide]; omega
def shl_u32 (x : UInt32) (n : Nat) : UInt32 := cond (Nat.ble n 31) (x <<< UInt32.ofNat n) 0
def shr_u32 (x : UInt32) (n : Nat) : UInt32 := cond (Nat.ble n 31) (x >>> UInt32.ofNat n) 0
theorem blt_cases_u32 (n : Nat) : (n < 32 ∧ Nat.ble n 31 = true) ∨ (32 ≤ n ∧ Nat.ble n 31 = false) := by
  rcases Nat.lt_or_ge n 32 with h | h
  · exact .inl ⟨h, by rw [Nat.ble_eq]; omega⟩
  · exact .inr ⟨h, by rw [Bool.eq_false_iff, ne_eq, Nat.ble_eq]; omega⟩
theorem shl_u32_eq (x : UInt32) (n : Nat) : IntKind.wrap .u32 ((x.toNat : Int) * 2 ^ min n (IntKind.bits .u32)) = ((shl_u32 x n).toNat : Int) := by
  rw [wrap_u32]
  show _ * 2 ^ min n 32 % 4294967296 = _
  unfold shl_u32
  rcases blt_cases_u32 n with ⟨h, hb⟩ | ⟨h, hb⟩
  · rw [hb, Nat.min_eq_left (by omega), cond_true, UInt32.toNat_shiftLeft, UInt32.toNat_ofNat']
    have e : n % 2 ^ 32 % 32 = n := by omega
    rw [e, Nat.shiftLeft_eq]
    simp
  · rw [hb, Nat.min_eq_right h, cond_false]
    have e : (2 : Int) ^ 32 = 4294967296 := by decide
    rw [e, Int.mul_emod_left]; rfl
theorem shr_u32_eq (x : UInt32) (n : Nat) : (x.toNat : Int).fdiv (2 ^ min n (IntKind.bits .u32)) = ((shr_u32 x n).toNat : Int) := by
  have hx := lt_u32 x
  show (x.toNat : Int).fdiv (2 ^ min n 32) = _
  unfold shr_u32
  rw [Int.fdiv_eq_ediv_of_nonneg _ (by exact Int.pow_nonneg (by omega))]
  rcases blt_cases_u32 n with ⟨h, hb⟩ | ⟨h, hb⟩
  · rw [hb, Nat.min_eq_left (by omega), cond_true, UInt32.toNat_shiftRight, UInt32.toNat_ofNat']
    have e : n % 2 ^ 32 % 32 = n := by omega
    rw [e, Nat.shiftRight_eq_div_pow]
    simp
  · rw [hb, Nat.min_eq_right h, cond_false]
    have e : (2 : Int) ^ 32 = 4294967296 := by decide
    rw [e]
    have e2 : ((0 : UInt32).toNat : Int) = 0 := rfl
    rw [e2]; omega


/-! ### UInt64 -/
theorem wrap_u64 (n : Int) : IntKind.wrap .u64 n = n % 18446744073709551616 := by simp [IntKind.wrap, IntKind.bits, IntKind.signed]
theorem lt_u64 (x : UInt64) : x.toNat < 18446744073709551616 := x.toNat_lt
theorem add_u64 (x y : UInt64) : IntKind.wrap .u64 ((x.toNat : Int) + y.toNat) = ((x + y).toNat : Int) := by
  rw [wrap_u64, UInt64.toNat_add]; simp
theorem sub_u64 (x y : UInt64) : IntKind.wrap .u64 ((x.toNat : Int) - y.toNat) = ((x - y).toNat : Int) := by
  have hx := lt_u64 x; have hy := lt_u64 y
  rw [wrap_u64, UInt64.toNat_sub]; simp only [Nat.reducePow]; omega
theorem mul_u64 (x y : UInt64) : IntKind.wrap .u64 ((x.toNat : Int) * y.toNat) = ((x * y).toNat : Int) := by
  rw [wrap_u64, UInt64.toNat_mul]; simp
theorem quo_u64 (x y : UInt64) : IntKind.wrap .u64 ((x.toNat : Int).tdiv y.toNat) = ((x / y).toNat : Int) := by
  have hx := lt_u64 x
  rw [wrap_u64, UInt64.toNat_div, Int.tdiv_eq_ediv_of_nonneg (by omega)]
  have h : x.toNat / y.toNat ≤ x.toNat := Nat.div_le_self _ _
  rw [← Int.natCast_ediv]
  generalize x.toNat / y.toNat = q at h ⊢
  omega
theorem rem_u64 (x y : UInt64) : (x.toNat : Int).tmod y.toNat = ((x % y).toNat : Int) := by
  rw [UInt64.toNat_mod, Int.tmod_eq_emod_of_nonneg (by omega)]; simp
theorem ofInt_u64 (x : UInt64) : BitVec.ofInt 64 (x.toNat : Int) = x.toBitVec := by
  apply BitVec.eq_of_toNat_eq
  have hx := lt_u64 x
  simp only [BitVec.toNat_ofInt, UInt64.toNat_toBitVec]
  omega
theorem bits_u64 (b : BitVec 64) : IntKind.wrap .u64 (b.toNat : Int) = ((UInt64.ofBitVec b).toNat : Int) := by
  have h := b.isLt
  rw [wrap_u64]
  have e : (UInt64.ofBitVec b).toNat = b.toNat := rfl
  rw [e]
  simp only [Nat.reducePow] at h
  omega
theorem beq_u64 (x y : UInt64) : ((x.toNat : Int) == (y.toNat : Int)) = (x == y) := by
  rw [Bool.eq_iff_iff]; simp only [beq_iff_eq]
  exact ⟨fun h => UInt64.toNat_inj.1 (by omega), fun h => by rw [h]⟩
theorem lss_u64 (x y : UInt64) : decide ((x.toNat : Int) < (y.toNat : Int)) = decide (x < y) := by
  simp only [UInt64.lt_iff_toNat_lt, decide_eq_decide]; omega
theorem leq_u64 (x y : UInt64) : decide ((x.toNat : Int) ≤ (y.toNat : Int)) = decide (x ≤ y) := by
  simp only [UInt64.le_iff_toNat_le, decide_eq_decide]; omega
def shl_u64 (x : UInt64) (n : Nat) : UInt64 := cond (Nat.ble n 63) (x <<< UInt64.ofNat n) 0
def shr_u64 (x : UInt64) (n : Nat) : UInt64 := cond (Nat.ble n 63) (x >>> UInt64.ofNat n) 0
theorem blt_cases_u64 (n : Nat) : (n < 64 ∧ Nat.ble n 63 = true) ∨ (64 ≤ n ∧ Nat.ble n 63 = false) := by
  rcases Nat.lt_or_ge n 64 with h | h
  · exact .inl ⟨h, by rw [Nat.ble_eq]; omega⟩
  · exact .inr ⟨h, by rw [Bool.eq_false_iff, ne_eq, Nat.ble_eq]; omega⟩
theorem shl_u64_eq (x : UInt64) (n : Nat) : IntKind.wrap .u64 ((x.toNat : Int) * 2 ^ min n (IntKind.bits .u64)) = ((shl_u64 x n).toNat : Int) := by
  rw [wrap_u64]
  show _ * 2 ^ min n 64 % 18446744073709551616 = _
  unfold shl_u64
  rcases blt_cases_u64 n with ⟨h, hb⟩ | ⟨h, hb⟩
  · rw [hb, Nat.min_eq_left (by omega), cond_true, UInt64.toNat_shiftLeft, UInt64.toNat_ofNat']
    have e : n % 2 ^ 64 % 64 = n := by omega
    rw [e, Nat.shiftLeft_eq]
    simp
  · rw [hb, Nat.min_eq_right h, cond_false]
    have e : (2 : Int) ^ 64 = 18446744073709551616 := by decide
    rw [e, Int.mul_emod_left]; rfl
theorem shr_u64_eq (x : UInt64) (n : Nat) : (x.toNat : Int).fdiv (2 ^ min n (IntKind.bits .u64)) = ((shr_u64 x n).toNat : Int) := by
  have hx := lt_u64 x
  show (x.toNat : Int).fdiv (2 ^ min n 64) = _
  unfold shr_u64
  rw [Int.fdiv_eq_ediv_of_nonneg _ (by exact Int.pow_nonneg (by omega))]
  rcases blt_cases_u64 n with ⟨h, hb⟩ | ⟨h, hb⟩
  · rw [hb, Nat.min_eq_left (by omega), cond_true, UInt64.toNat_shiftRight, UInt64.toNat_ofNat']
    have e : n % 2 ^ 64 % 64 = n := by omega
    rw [e, Nat.shiftRight_eq_div_pow]
    simp
  · rw [hb, Nat.min_eq_right h, cond_false]
    have e : (2 : Int) ^ 64 = 18446744073709551616 := by decide
    rw [e]
    have e2 : ((0 : UInt64).toNat : Int) = 0 := rfl
    rw [e2]; omega


/-! ### conversions -/

theorem cv_u8_u8 (x : UInt8) : IntKind.wrap .u8 (x.toNat : Int) = (x.toNat : Int) := by have := lt_u8 x; rw [wrap_u8]; omega
theorem cv_u8_u32 (x : UInt8) : IntKind.wrap .u32 (x.toNat : Int) = (x.toUInt32.toNat : Int) := by have := lt_u8 x; rw [wrap_u32]; simp; try omega
theorem cv_u8_u64 (x : UInt8) : IntKind.wrap .u64 (x.toNat : Int) = (x.toUInt64.toNat : Int) := by have := lt_u8 x; rw [wrap_u64]; simp; try omega
theorem cv_u32_u8 (x : UInt32) : IntKind.wrap .u8 (x.toNat : Int) = (x.toUInt8.toNat : Int) := by have := lt_u32 x; rw [wrap_u8]; simp; try omega
theorem cv_u32_u32 (x : UInt32) : IntKind.wrap .u32 (x.toNat : Int) = (x.toNat : Int) := by have := lt_u32 x; rw [wrap_u32]; omega
theorem cv_u32_u64 (x : UInt32) : IntKind.wrap .u64 (x.toNat : Int) = (x.toUInt64.toNat : Int) := by have := lt_u32 x; rw [wrap_u64]; simp; try omega
theorem cv_u64_u8 (x : UInt64) : IntKind.wrap .u8 (x.toNat : Int) = (x.toUInt8.toNat : Int) := by have := lt_u64 x; rw [wrap_u8]; simp; try omega
theorem cv_u64_u32 (x : UInt64) : IntKind.wrap .u32 (x.toNat : Int) = (x.toUInt32.toNat : Int) := by have := lt_u64 x; rw [wrap_u32]; simp; try omega
theorem cv_u64_u64 (x : UInt64) : IntKind.wrap .u64 (x.toNat : Int) = (x.toNat : Int) := by have := lt_u64 x; rw [wrap_u64]; omega
theorem wrap_i64 (n : Int) (h1 : -9223372036854775808 ≤ n) (h2 : n < 9223372036854775808) : IntKind.wrap .i64 n = n := by
  simp only [IntKind.wrap, IntKind.bits, IntKind.signed, Bool.true_and, Nat.reduceSub, Int.reducePow]
  by_cases h : n % 18446744073709551616 ≥ 9223372036854775808
  · rw [if_pos (by simpa using h)]; omega
  · rw [if_neg (by simpa using h)]; omega
theorem cv_u8_i64 (x : UInt8) : IntKind.wrap .i64 (x.toNat : Int) = (x.toNat : Int) := by have := lt_u8 x; exact wrap_i64 _ (by omega) (by omega)
theorem cv_u32_i64 (x : UInt32) : IntKind.wrap .i64 (x.toNat : Int) = (x.toNat : Int) := by have := lt_u32 x; exact wrap_i64 _ (by omega) (by omega)
theorem cv_int_u8 (n : Int) : IntKind.wrap .u8 n = ((UInt8.ofInt n).toNat : Int) := by rw [wrap_u8]; simp [UInt8.ofInt]; omega
theorem cv_int_u32 (n : Int) : IntKind.wrap .u32 n = ((UInt32.ofInt n).toNat : Int) := by rw [wrap_u32]; simp [UInt32.ofInt]; omega
theorem cv_int_u64 (n : Int) : IntKind.wrap .u64 n = ((UInt64.ofInt n).toNat : Int) := by rw [wrap_u64]; simp [UInt64.ofInt]; omega
end Go.Eng
