/- Texts Sr9, Sr10, Sr11: what they show stands ahead of each. -/
import Derived.Test.YtaepfopmicnnbaaDoorT9
/- Roots as numbers; the roots of the first primes are the document's words. -/
namespace Go.Proofs.YtaepfopmicnnbaaDoor
set_option linter.unusedVariables false
set_option linter.unusedSimpArgs false
open Go Go.Eng
set_option maxRecDepth 1000000
set_option linter.unusedSimpArgs false
set_option linter.unusedVariables false
theorem sN_upd (x : Nat → UInt64) (v : UInt64) (p : Nat) : ∀ n, sN (lim (updF x p v)) n + (if p < n then lim x p * 65536 ^ p else 0) = sN (lim x) n + (if p < n then v.toNat * 65536 ^ p else 0)
  | 0 => by simp [sN]
  | n + 1 => by
    have ih := sN_upd x v p n
    simp only [sN]
    by_cases e : n = p
    · subst e
      have e1 : lim (updF x n v) n = v.toNat := by unfold lim updF; rw [if_pos rfl]
      rw [e1]
      rw [if_neg (by omega), if_neg (by omega)] at ih
      rw [if_pos (by omega), if_pos (by omega)]
      omega
    · have e1 : lim (updF x p v) n = lim x n := by unfold lim updF; rw [if_neg e]
      rw [e1]
      by_cases h : p < n
      · rw [if_pos h, if_pos h] at ih
        rw [if_pos (by omega), if_pos (by omega)]
        omega
      · rw [if_neg h, if_neg h] at ih
        rw [if_neg (by omega), if_neg (by omega)]
        omega
theorem w16 : ∀ k, k < 16 → (shl_u64 1 k).toNat = 2 ^ k := by decide
def low (x : Nat → UInt64) (z : Nat) : Prop := ∀ j, j < 16 → lim x j % 2 ^ (min 16 (z - 16 * j)) = 0
theorem pow_mul (p k : Nat) : 2 ^ k * 65536 ^ p = 2 ^ (16 * p + k) := by
  rw [Nat.pow_add, Nat.pow_mul, Nat.mul_comm]
theorem bit_ok {x : Nat → UInt64} {z : Nat} (hz : z < 256) (hl : ∀ j, j < 16 → lim x j < 65536) (hw : low x (z + 1)) :
    (∀ j, j < 16 → lim (bitW x z) j < 65536) ∧ low (bitW x z) z ∧ sN (lim (bitW x z)) 16 = sN (lim x) 16 + 2 ^ z := by
  obtain ⟨p, hp⟩ : ∃ p, p = z / 16 := ⟨_, rfl⟩
  obtain ⟨k, hk⟩ : ∃ k, k = z % 16 := ⟨_, rfl⟩
  have hp16 : p < 16 := by omega
  have hk16 : k < 16 := by omega
  have hzz : z = 16 * p + k := by omega
  have hwk := w16 k hk16
  have h1 := hw p hp16
  have e1 : min 16 (z + 1 - 16 * p) = k + 1 := by omega
  rw [e1] at h1
  have hv : (x p ||| shl_u64 1 k).toNat = lim x p + 2 ^ k := by
    rw [UInt64.toNat_or, hwk]
    have := Nat.div_add_mod (lim x p) (2 ^ (k + 1))
    rw [h1, Nat.add_zero] at this
    have e2 : (x p).toNat = lim x p := rfl
    rw [e2, ← this]
    exact (Nat.two_pow_add_eq_or_of_lt (Nat.pow_lt_pow_right (by decide) (by omega)) _).symm
  have hb : bitW x z = updF x p (x p ||| shl_u64 1 k) := by unfold bitW; rw [← hp, ← hk]
  have hlt : (x p ||| shl_u64 1 k).toNat < 65536 := by
    rw [UInt64.toNat_or, hwk]
    exact Nat.or_lt_two_pow (n := 16) (hl p hp16) (Nat.pow_lt_pow_right (by decide) hk16)
  rw [hb]
  refine ⟨fun j hj => ?_, fun j hj => ?_, ?_⟩
  · unfold lim updF
    by_cases e : j = p
    · rw [if_pos e]; exact hlt
    · rw [if_neg e]; exact hl j hj
  · unfold lim updF
    by_cases e : j = p
    · rw [if_pos e, hv, e]
      have e3 : min 16 (z - 16 * p) = k := by omega
      rw [e3]
      have := Nat.div_add_mod (lim x p) (2 ^ (k + 1))
      rw [h1, Nat.add_zero] at this
      rw [← this, Nat.pow_succ, Nat.mul_assoc, Nat.add_mod, Nat.mul_mod_right, Nat.mod_self]; rfl
    · rw [if_neg e]
      have h2 := hw j hj
      have hd : 2 ^ (min 16 (z - 16 * j)) ∣ 2 ^ (min 16 (z + 1 - 16 * j)) := Nat.pow_dvd_pow 2 (by omega)
      exact Nat.mod_eq_zero_of_dvd (Nat.dvd_trans hd (Nat.dvd_of_mod_eq_zero h2))
  · have := sN_upd x (x p ||| shl_u64 1 k) p 16
    rw [if_pos hp16, if_pos hp16, hv, Nat.add_mul, pow_mul, ← hzz] at this
    omega
def pwr (cube : Bool) (Y : Nat) : Nat := cond cube (Y * Y * Y) (Y * Y)
def aimN (cube : Bool) (C : Nat) : Nat := C * 65536 ^ (cond cube 12 8)
def rX (cube : Bool) (C : Nat) : Nat → Nat
  | 0 => 0
  | k + 1 => cond (Nat.blt (aimN cube C) (pwr cube (rX cube C k + 2 ^ (70 - k)))) (rX cube C k) (rX cube C k + 2 ^ (70 - k))
theorem lim_nU (x : Nat → UInt64) {j : Nat} (h : j < 16) : lim (gU (cellsU 16 x)) j = lim x j := by
  rw [gU_cellsU]
  unfold lim nU
  rw [if_pos h]
theorem sN_nU (x : Nat → UInt64) : sN (lim (gU (cellsU 16 x))) 16 = sN (lim x) 16 := sN_congr fun j hj => lim_nU x hj
theorem sN_zero : ∀ n, sN (lim fun _ => 0) n = 0
  | 0 => rfl
  | n + 1 => by
    have e : lim (fun _ => 0) n = 0 := rfl
    simp only [sN, e, sN_zero n, Nat.zero_mul]
theorem aim_nat (cube : Bool) (c : UInt64) : sN (lim (aimF cube c)) 16 = aimN cube c.toNat := by
  have e : aimF cube c = updF (fun _ => 0) (cond cube 12 8) c := by
    funext j
    unfold aimF updF
    rcases beq_cases j (cond cube 12 8) with ⟨h, hb⟩ | ⟨h, hb⟩
    · rw [hb, if_pos h]; rfl
    · rw [hb, if_neg h]; rfl
  have h16 : cond cube 12 8 < 16 := by cases cube <;> decide
  have := sN_upd (fun _ => 0) c (cond cube 12 8) 16
  rw [if_pos h16, if_pos h16, sN_zero] at this
  have e0 : lim (fun _ => 0) (cond cube 12 8) = 0 := rfl
  rw [e0, Nat.zero_mul, Nat.add_zero, Nat.zero_add] at this
  rw [e, this]; rfl
theorem m2_def (τ : Fl) (y : Nat → UInt64) : m2 τ y = τ.mul (gU (cellsU 16 y)) (gU (cellsU 16 y)) := rfl
theorem m3_def (τ : Fl) (y : Nat → UInt64) : m3 τ y = τ.mul (gU (cellsU 16 (m2 τ y))) (gU (cellsU 16 y)) := rfl
theorem τr_mul (a b : Nat → UInt64) : τr.mul a b = timesF a b := rfl
theorem τr_abv (a b : Nat → UInt64) : τr.abv a b = abF a b 16 := rfl
theorem tst_def (τ : Fl) (cube : Bool) (aim y : Nat → UInt64) : tst17 τ cube aim y = τ.abv (gU (cellsU 16 (cond cube (m3 τ y) (m2 τ y)))) (gU (cellsU 16 aim)) := rfl
theorem xs_def (τ : Fl) (cube : Bool) (aim : Nat → UInt64) (k : Nat) : xs17 τ cube aim (k + 1) = cond (tst17 τ cube aim (bitW (xs17 τ cube aim k) (70 - k))) (xs17 τ cube aim k) (bitW (xs17 τ cube aim k) (70 - k)) := rfl
theorem xs_zero (τ : Fl) (cube : Bool) (aim : Nat → UInt64) : xs17 τ cube aim 0 = fun _ => 0 := rfl
theorem rX_def (cube : Bool) (C k : Nat) : rX cube C (k + 1) = cond (Nat.blt (aimN cube C) (pwr cube (rX cube C k + 2 ^ (70 - k)))) (rX cube C k) (rX cube C k + 2 ^ (70 - k)) := rfl
theorem aim_lim (cube : Bool) {c : UInt64} (hc : c.toNat < 65536) (j : Nat) : lim (aimF cube c) j < 65536 := by
  unfold lim aimF
  cases Nat.beq j (cond cube 12 8)
  · exact (by decide : (0 : UInt64).toNat < 65536)
  · exact hc
theorem m2_nat {y : Nat → UInt64} (hl : ∀ j, j < 16 → lim y j < 65536) (hy : sN (lim y) 16 < 2 ^ 71) : sN (lim (m2 τr y)) 16 = sN (lim y) 16 * sN (lim y) 16 := by
  have hl2 : ∀ j, j < 16 → lim (gU (cellsU 16 y)) j < 65536 := fun j hj => by rw [lim_nU y hj]; exact hl j hj
  rw [m2_def, τr_mul, times_nat hl2 hl2, sN_nU]
  apply Nat.mod_eq_of_lt
  calc sN (lim y) 16 * sN (lim y) 16 ≤ 2 ^ 71 * 2 ^ 71 := Nat.mul_le_mul (Nat.le_of_lt hy) (Nat.le_of_lt hy)
    _ < 65536 ^ 16 := by decide
theorem m3_nat {y : Nat → UInt64} (hl : ∀ j, j < 16 → lim y j < 65536) (hy : sN (lim y) 16 < 2 ^ 71) : sN (lim (m3 τr y)) 16 = sN (lim y) 16 * sN (lim y) 16 * sN (lim y) 16 := by
  have hl2 : ∀ j, j < 16 → lim (gU (cellsU 16 y)) j < 65536 := fun j hj => by rw [lim_nU y hj]; exact hl j hj
  have hl3 : ∀ j, j < 16 → lim (gU (cellsU 16 (m2 τr y))) j < 65536 := fun j hj => by rw [lim_nU _ hj, m2_def, τr_mul]; exact lim_times _ _ j
  rw [m3_def, τr_mul, times_nat hl3 hl2, sN_nU, sN_nU, m2_nat hl hy]
  apply Nat.mod_eq_of_lt
  calc sN (lim y) 16 * sN (lim y) 16 * sN (lim y) 16 ≤ 2 ^ 71 * 2 ^ 71 * 2 ^ 71 := Nat.mul_le_mul (Nat.mul_le_mul (Nat.le_of_lt hy) (Nat.le_of_lt hy)) (Nat.le_of_lt hy)
    _ < 65536 ^ 16 := by decide
theorem pwr_f (X : Nat) : pwr false X = X * X := rfl
theorem pwr_t (X : Nat) : pwr true X = X * X * X := rfl
theorem dec_blt (a b : Nat) : decide (a < b) = Nat.blt a b := by
  cases h : Nat.blt a b with
  | true => exact decide_eq_true (Nat.le_of_ble_eq_true h)
  | false =>
    apply decide_eq_false
    intro hn
    have : Nat.blt a b = true := Nat.ble_eq_true_of_le hn
    rw [h] at this
    cases this
theorem tst_nat (cube : Bool) {c : UInt64} (hc : c.toNat < 65536) {y : Nat → UInt64} (hl : ∀ j, j < 16 → lim y j < 65536) (hy : sN (lim y) 16 < 2 ^ 71) :
    tst17 τr cube (aimF cube c) y = Nat.blt (aimN cube c.toNat) (pwr cube (sN (lim y) 16)) := by
  have e : tst17 τr cube (aimF cube c) y = abF (gU (cellsU 16 (cond cube (m3 τr y) (m2 τr y)))) (gU (cellsU 16 (aimF cube c))) 16 := by rw [tst_def, τr_abv]
  have hm : ∀ j, j < 16 → lim (gU (cellsU 16 (cond cube (m3 τr y) (m2 τr y)))) j < 65536 := fun j hj => by
    rw [lim_nU _ hj]
    cases cube
    · rw [cond_false, m2_def, τr_mul]; exact lim_times _ _ j
    · rw [cond_true, m3_def, τr_mul]; exact lim_times _ _ j
  rw [e, ab_nat 16 hm (fun j hj => by rw [lim_nU _ hj]; exact aim_lim cube hc j), sN_nU, sN_nU, aim_nat]
  have e2 : sN (lim (cond cube (m3 τr y) (m2 τr y))) 16 = pwr cube (sN (lim y) 16) := by
    cases cube
    · rw [cond_false, pwr_f]; exact m2_nat hl hy
    · rw [cond_true, pwr_t]; exact m3_nat hl hy
  rw [e2]
  exact dec_blt _ _
/-- The bits, one by one. -/
theorem xs_nat (cube : Bool) {c : UInt64} (hc : c.toNat < 65536) : ∀ k, k ≤ 71 → (∀ j, j < 16 → lim (xs17 τr cube (aimF cube c) k) j < 65536) ∧ low (xs17 τr cube (aimF cube c) k) (71 - k) ∧ sN (lim (xs17 τr cube (aimF cube c) k)) 16 = rX cube c.toNat k ∧ rX cube c.toNat k + 2 ^ (71 - k) ≤ 2 ^ 71
  | 0, _ => by
    rw [xs_zero]
    have e0 : ∀ j, lim (fun _ => 0) j = 0 := fun _ => rfl
    refine ⟨fun j hj => by rw [e0]; decide, fun j hj => by rw [e0]; exact Nat.zero_mod _, sN_zero 16, ?_⟩
    have : rX cube c.toNat 0 = 0 := rfl
    rw [this]; decide
  | k + 1, hk => by
    obtain ⟨i1, i2, i3, i4⟩ := xs_nat cube hc k (by omega)
    have hz : 71 - k = 70 - k + 1 := by omega
    rw [hz] at i2 i4
    obtain ⟨b1, b2, b3⟩ := bit_ok (show 70 - k < 256 by omega) i1 i2
    rw [i3] at b3
    have hpw : 2 ^ (70 - k + 1) = 2 ^ (70 - k) + 2 ^ (70 - k) := by rw [Nat.pow_succ]; omega
    have hpos : 0 < 2 ^ (70 - k) := Nat.pow_pos (by decide)
    have hlt : sN (lim (bitW (xs17 τr cube (aimF cube c) k) (70 - k))) 16 < 2 ^ 71 := by rw [b3]; omega
    have ht := tst_nat cube hc b1 hlt
    rw [b3] at ht
    have e71 : 71 - (k + 1) = 70 - k := by omega
    rw [e71]
    rw [xs_def, rX_def, ht]
    cases Nat.blt (aimN cube c.toNat) (pwr cube (rX cube c.toNat k + 2 ^ (70 - k))) with
    | true =>
      simp only [cond_true]
      refine ⟨i1, fun j hj => ?_, i3, by omega⟩
      have hd : 2 ^ (min 16 (70 - k - 16 * j)) ∣ 2 ^ (min 16 (70 - k + 1 - 16 * j)) := Nat.pow_dvd_pow 2 (by omega)
      exact Nat.mod_eq_zero_of_dvd (Nat.dvd_trans hd (Nat.dvd_of_mod_eq_zero (i2 j hj)))
    | false =>
      simp only [cond_false]
      exact ⟨b1, b2, b3, by omega⟩
theorem shl_nat (x : UInt64) (k : Nat) (hk : k < 64) (h : x.toNat * 2 ^ k < 2 ^ 64) : (shl_u64 x k).toNat = x.toNat * 2 ^ k := by
  unfold shl_u64
  rw [Nat.ble_eq_true_of_le (show k ≤ 63 by omega), cond_true, UInt64.toNat_shiftLeft, UInt64.toNat_ofNat', Nat.mod_eq_of_lt (show k < 2 ^ 64 by omega), Nat.mod_eq_of_lt hk, Nat.shiftLeft_eq, Nat.mod_eq_of_lt h]
theorem rootV_nat (x : Nat → UInt64) (hl : ∀ j, j < 16 → lim x j < 65536) : (rootV x).toNat = sN (lim x) 16 % 2 ^ 64 := by
  have h0 := hl 0 (by omega)
  have h1 := hl 1 (by omega)
  have h2 := hl 2 (by omega)
  have h3 := hl 3 (by omega)
  unfold lim at h0 h1 h2 h3
  unfold rootV
  rw [UInt64.toNat_or, UInt64.toNat_or, UInt64.toNat_or, shl_nat _ 16 (by omega) (by omega), shl_nat _ 32 (by omega) (by omega), shl_nat _ 48 (by omega) (by omega)]
  have e1 : (x 0).toNat ||| (x 1).toNat * 2 ^ 16 = (x 1).toNat * 2 ^ 16 + (x 0).toNat := by
    rw [Nat.or_comm, Nat.mul_comm]
    exact (Nat.two_pow_add_eq_or_of_lt (show (x 0).toNat < 2 ^ 16 by omega) _).symm
  rw [e1]
  have e2 : ((x 1).toNat * 2 ^ 16 + (x 0).toNat) ||| (x 2).toNat * 2 ^ 32 = (x 2).toNat * 2 ^ 32 + ((x 1).toNat * 2 ^ 16 + (x 0).toNat) := by
    rw [Nat.or_comm, Nat.mul_comm (x 2).toNat]
    exact (Nat.two_pow_add_eq_or_of_lt (by omega) _).symm
  rw [e2]
  have e3 : ((x 2).toNat * 2 ^ 32 + ((x 1).toNat * 2 ^ 16 + (x 0).toNat)) ||| (x 3).toNat * 2 ^ 48 = (x 3).toNat * 2 ^ 48 + ((x 2).toNat * 2 ^ 32 + ((x 1).toNat * 2 ^ 16 + (x 0).toNat)) := by
    rw [Nat.or_comm, Nat.mul_comm (x 3).toNat]
    exact (Nat.two_pow_add_eq_or_of_lt (by omega) _).symm
  rw [e3]
  simp only [sN]
  have f0 : lim x 0 = (x 0).toNat := rfl
  have f1 : lim x 1 = (x 1).toNat := rfl
  have f2 : lim x 2 = (x 2).toNat := rfl
  have f3 : lim x 3 = (x 3).toNat := rfl
  rw [f0, f1, f2, f3]
  omega
theorem root_nat {C : Nat} (hC : C < 65536) (cube : Bool) : rootF τr (UInt64.ofNat C) cube = UInt64.ofNat (rX cube C 71) := by
  have hc : (UInt64.ofNat C).toNat = C := by rw [UInt64.toNat_ofNat', Nat.mod_eq_of_lt (show C < 2 ^ 64 by omega)]
  obtain ⟨i1, _, i3, _⟩ := xs_nat cube (c := UInt64.ofNat C) (by rw [hc]; exact hC) 71 (Nat.le_refl _)
  rw [hc] at i3
  apply UInt64.toNat_inj.1
  unfold rootF
  rw [rootV_nat _ i1, i3, UInt64.toNat_ofNat']
/-! ### the primes -/
def prL : List Nat := [2, 3, 5, 7, 11, 13, 17, 19, 23, 29, 31, 37, 41, 43, 47, 53, 59, 61, 67, 71, 73, 79, 83, 89, 97, 101, 103, 107, 109, 113, 127, 131, 137, 139, 149, 151, 157, 163, 167, 173, 179, 181, 191, 193, 197, 199, 211, 223, 227, 229, 233, 239, 241, 251, 257, 263, 269, 271, 277, 281, 283, 293, 307, 311, 313, 317, 331, 337, 347, 349, 353, 359, 367, 373, 379, 383, 389, 397, 401, 409]
def plst : Nat → List Nat
  | 0 => []
  | k + 1 => cond (isP (k + 2)) (plst k ++ [k + 2]) (plst k)
theorem plst_eq : plst 408 = prL := by decide +kernel
theorem plst_pre : ∀ d k, ∃ t, plst (k + d) = plst k ++ t
  | 0, k => ⟨[], by simp⟩
  | d + 1, k => by
    obtain ⟨t, ht⟩ := plst_pre d k
    rw [← Nat.add_assoc]
    simp only [plst]
    cases isP (k + d + 2)
    · exact ⟨t, by rw [cond_false, ht]⟩
    · exact ⟨t ++ [k + d + 2], by rw [cond_true, ht, List.append_assoc]⟩
theorem lst_plst (ρ : UInt64 → Bool → UInt64) (cube : Bool) : ∀ k, lstP ρ cube k = (plst k).map fun P => ρ (UInt64.ofNat P) cube
  | 0 => rfl
  | k + 1 => by
    simp only [lstP, plst]
    cases isP (k + 2)
    · exact lst_plst ρ cube k
    · rw [cond_true, cond_true, lst_plst ρ cube k, List.map_append]; rfl
theorem plst_at {k i : Nat} (hk : k ≤ 408) (hi : i < (plst k).length) : (plst k)[i]? = some (prL.getD i 0) := by
  obtain ⟨t, ht⟩ := plst_pre (408 - k) k
  rw [show k + (408 - k) = 408 by omega, plst_eq] at ht
  rw [ht, List.getD_eq_getElem?_getD, List.getElem?_append_left hi, List.getElem?_eq_getElem hi]; rfl
theorem cnt_chk : ∀ n, n < 80 → cntP (prL.getD n 0 - 1) = n + 1 ∧ cntP (prL.getD n 0 - 2) = n := by decide +kernel
theorem prL_bnd : ∀ n, n < 80 → 2 ≤ prL.getD n 0 ∧ prL.getD n 0 ≤ 409 := by decide +kernel
theorem cube_chk : ∀ i, i < 80 → UInt64.ofNat (rX true (prL.getD i 0) 71) = kF i := by decide +kernel
theorem sqr_chk : ∀ i, i < 8 → UInt64.ofNat (rX false (prL.getD i 0) 71) = hF i := by decide +kernel
end Go.Proofs.YtaepfopmicnnbaaDoor

/- The layer of roots. -/
namespace Go.Proofs.YtaepfopmicnnbaaDoor
set_option linter.unusedVariables false
set_option linter.unusedSimpArgs false
open Go Go.Eng
set_option maxRecDepth 1000000
set_option linter.unusedSimpArgs false
set_option linter.unusedVariables false
def w12 (rt : Int → Bool → List UInt64) : List AVal → Option (EffA × Bool)
  | [.int .i64 n, .bool cube] => some (.alloc (.cells false ((rt n cube).map .u64)) fun b => .slice b 0 (rt n cube).length 1, decide (1 ≤ n) && decide (n ≤ 80))
  | _ => none
def ps4 (rt : Int → Bool → List UInt64) : PS := psOne 12 (w12 rt)
def cs4 (ω : Fw) (κ η : Nat → UInt64) : CS := csAlt (csOne 10 (d10 κ)) (csAlt (csOne 11 (d11 η)) (csOne 7 (w7 ω)))
def n4 (ω : Fw) (κ η : Nat → UInt64) (rt : Int → Bool → List UInt64) : CS := csAlt (csP (ps4 rt)) (cs4 ω κ η)
theorem n4_ps (ω : Fw) (κ η : Nat → UInt64) (rt : Int → Bool → List UInt64) : PSOk (ps4 rt) (n4 ω κ η rt) := csP_ok
def rtR (n : Int) (cube : Bool) : List UInt64 := (List.range n.toNat).map fun i => rootF τr (UInt64.ofNat (prL.getD i 0)) cube
theorem rt_lst (cube : Bool) {n : Nat} (h1 : 1 ≤ n) (h2 : n ≤ 80) : ∃ M, M + 1 < 900 ∧ (∀ k, k < M + 1 → cntP k < n) ∧ cntP (M + 1) = n ∧ lstP (rootF τr) cube (M + 1) = rtR (n : Int) cube := by
  obtain ⟨b1, b2⟩ := prL_bnd (n - 1) (by omega)
  obtain ⟨c1, c2⟩ := cnt_chk (n - 1) (by omega)
  have e1 : prL.getD (n - 1) 0 - 1 = (prL.getD (n - 1) 0 - 2) + 1 := by omega
  rw [e1, show n - 1 + 1 = n by omega] at c1
  refine ⟨prL.getD (n - 1) 0 - 2, by omega, fun k hk => ?_, c1, ?_⟩
  · have := cntP_mono (show k ≤ prL.getD (n - 1) 0 - 2 by omega)
    omega
  · obtain ⟨k, hk⟩ : ∃ k, k = prL.getD (n - 1) 0 - 2 + 1 := ⟨_, rfl⟩
    rw [← hk] at c1 ⊢
    have hl : (plst k).length = n := by
      have := lstP_len (rootF τr) cube k
      rw [lst_plst, List.length_map, c1] at this
      exact this
    rw [lst_plst]
    unfold rtR
    have e2 : plst k = (List.range n).map fun i => prL.getD i 0 := by
      apply List.ext_getElem?
      intro i
      by_cases hi : i < n
      · rw [plst_at (by omega) (by omega), List.getElem?_map, List.getElem?_range hi]; rfl
      · rw [List.getElem?_eq_none (by omega), List.getElem?_eq_none (by rw [List.length_map, List.length_range]; omega)]
    rw [e2, List.map_map, Int.toNat_natCast]; rfl
theorem callOk12 : CSOk Tryd.prog (csP (psOne 12 (w12 rtR))) := by
  refine psOne_ok fun args e h => ?_
  unfold w12 at h
  split at h
  · rename_i n cube
    simp only [Option.some.injEq, Prod.mk.injEq, Bool.and_eq_true, decide_eq_true_eq] at h
    obtain ⟨rfl, hc⟩ := h
    obtain ⟨m, rfl⟩ : ∃ m : Nat, n = (m : Int) := ⟨n.toNat, by omega⟩
    obtain ⟨M, h1, h2, h3, h4⟩ := rt_lst cube (n := m) (by omega) (by omega)
    obtain ⟨fr, H', g1, g2⟩ := ev12 (rootF τr) m cube M h1 h2 h3
    rw [h4] at g1 g2
    have e1 : Tryd.prog.globals.size = 1 := gl
    exact callOk_new (cs := n12 (rootF τr)) (nn := mask 12) (F := 1000) callOk17 hmix rfl (by rw [e1]; exact g1) g2 (ltLw ..) (by rw [e1]; rfl)
  · cases h
theorem n4_ok : CSOk Tryd.prog (n4 ωr kF hF rtR) := csAlt_ok callOk12 (csAlt_ok callOk10 (csAlt_ok callOk11 (callOk7 nWr_ok)))
end Go.Proofs.YtaepfopmicnnbaaDoor

/- The statement on roots. -/
namespace Go.Proofs.YtaepfopmicnnbaaDoor
set_option linter.unusedVariables false
set_option linter.unusedSimpArgs false
open Go Go.Eng
set_option maxRecDepth 1000000
set_option linter.unusedSimpArgs false
set_option linter.unusedVariables false
noncomputable def p4 : List Code := pieces (bodyOf Tryd.f4)
noncomputable def b4a : Code := loopOf (p4.getD 6 .skip)
noncomputable def b4b : Code := loopOf (p4.getD 9 .skip)
theorem p4_6 : p4[6]? = some (.block 0 (.loop b4a)) := by kernel_rfl
theorem p4_9 : p4[9]? = some (.block 2 (.loop b4b)) := by kernel_rfl
def T4A (a : Int) (n k i : Nat) : TL := [(0, .int .i64 a), (2, .bool false), (3, .ptr 17 0), (4, .ptr 41 0), (5, .int .i64 (n : Int)), (6, .slice 105 0 k 1), (7, .int .i64 (i : Int))]
def T4B (a : Int) (n k m i : Nat) : TL := T4A a n k n ++ [(20, .bool false), (8, .slice 153 0 m 1), (9, .int .i64 (i : Int))]
def H4A (g κ η : Nat → UInt64) (C : List AVal) : HL := [(0, .cells true (cellsU 80 g)), (17, .cells false (cellsU 80 κ)), (41, .cells false (cellsU 8 η)), (105, .cells false C)]
def S4A (g κ η : Nat → UInt64) (C : List AVal) (a : Int) (n k i : Nat) : SA := ⟨T4A a n k i, H4A g κ η C, 129⟩
def S4B (g κ η : Nat → UInt64) (C D : List AVal) (a : Int) (n k m i : Nat) : SA := ⟨T4B a n k m i, H4A g κ η C ++ [(153, .cells false D)], 177⟩
theorem ok4A (g κ η : Nat → UInt64) (c : List UInt64) (a : Int) (n k i : Nat) : okS Tryd.prog (S4A g κ η (c.map .u64) a n k i) = true := by
  have h : okS Tryd.prog (S4A g κ η [] a n k i) = true := by kernel_rfl
  unfold okS S4A H4A at h ⊢
  simp only [ltH, ltLw, ltL] at h ⊢
  exact h
theorem ok4B (g κ η : Nat → UInt64) (c d : List UInt64) (a : Int) (n k m i : Nat) : okS Tryd.prog (S4B g κ η (c.map .u64) (d.map .u64) a n k m i) = true := by
  have h : okS Tryd.prog (S4B g κ η [] [] a n k m i) = true := by kernel_rfl
  unfold okS S4B H4A at h ⊢
  simp only [List.cons_append, List.nil_append, ltH, ltLw, ltL] at h ⊢
  exact h
def nExp (a : Int) : Int := IntKind.wrap .i64 (1 + Int.tmod (IntKind.wrap .i64 ((BitVec.ofInt (IntKind.bits .i64) a &&& BitVec.ofInt (IntKind.bits .i64) 65535).toNat : Int)) 80)
section
variable (ω : Fw) (g κ η : Nat → UInt64) (rt : Int → Bool → List UInt64) (a : Int) (n i j F : Nat) (c d : List UInt64)
theorem s4a : segO (evSO Tryd.prog (ps4 rt) (n4 ω κ η rt) [200015,17] Tryd.f4.ntmps (mask 4) F 1 ((p4.drop 0).take 6) ⟨startT [.int .i64 a] 0, [(0, .cells true (cellsU 80 g))], 1⟩ ⟨[], [.int .i64 ((n : Nat) : Int)], []⟩) = some (S4A g κ η ((rt (n : Int) true).map .u64) a n (rt (n : Int) true).length 0, [decide (1 ≤ (n : Int)) && decide ((n : Int) ≤ 80), eqS (.int .i64 (nExp a)) (.int .i64 (n : Int))]) := by kernel_rfl
theorem r4A : roundO2 Tryd.prog (ps4 rt) (n4 ω κ η rt) [20,25,26,28,29,30,200022] [true, false] [.u64 (κ i), .u64 (κ i), .int .i64 ((j : Nat) : Int)] Tryd.f4.ntmps (mask 4) F 1 b4a (S4A g κ η (c.map .u64) a n c.length 0) (S4A g κ η (c.map .u64) a n c.length i) = some (S4A g κ η (c.map .u64) a n c.length j, [eqS (.int .i64 (IntKind.wrap .i64 ((i : Int) + 1))) (.int .i64 (j : Int)), !(κ i != κ i), isAt (cellsU 80 κ) (0 + (i : Int).toNat * 1) (.u64 (κ i)), decide (0 ≤ (i : Int)) && decide ((i : Int) < 80), isAt (c.map .u64) (0 + (i : Int).toNat * 1) (.u64 (κ i)), decide (0 ≤ (i : Int)) && decide ((i : Int) < (c.length : Int)), decide ((i : Int) < (n : Int))]) := by kernel_rfl
theorem x4A : evSO Tryd.prog (ps4 rt) (n4 ω κ η rt) [20] Tryd.f4.ntmps (mask 4) F 1 [b4a] (S4A g κ η (c.map .u64) a n c.length i) ⟨[false], [], []⟩ = some (.exit 0, ⟨T4A a n c.length i ++ [(20, .bool false)], H4A g κ η (c.map .u64), 153⟩, ⟨[], [], [!(decide ((i : Int) < (n : Int)))]⟩) := by kernel_rfl
theorem s4b : segO (evSO Tryd.prog (ps4 rt) (n4 ω κ η rt) [31] Tryd.f4.ntmps (mask 4) F 1 ((p4.drop 7).take 2) ⟨T4A a n c.length n ++ [(20, .bool false)], H4A g κ η (c.map .u64), 153⟩ ⟨[], [], []⟩) = some (S4B g κ η (c.map .u64) ((rt 8 false).map .u64) a n c.length (rt 8 false).length 0, [true]) := by kernel_rfl
theorem r4B : roundO2 Tryd.prog (ps4 rt) (n4 ω κ η rt) [33,38,39,41,42,43,200035] [true, false] [.u64 (η i), .u64 (η i), .int .i64 ((j : Nat) : Int)] Tryd.f4.ntmps (mask 4) F 1 b4b (S4B g κ η (c.map .u64) (d.map .u64) a n c.length d.length 0) (S4B g κ η (c.map .u64) (d.map .u64) a n c.length d.length i) = some (S4B g κ η (c.map .u64) (d.map .u64) a n c.length d.length j, [eqS (.int .i64 (IntKind.wrap .i64 ((i : Int) + 1))) (.int .i64 (j : Int)), !(η i != η i), isAt (cellsU 8 η) (0 + (i : Int).toNat * 1) (.u64 (η i)), decide (0 ≤ (i : Int)) && decide ((i : Int) < 8), isAt (d.map .u64) (0 + (i : Int).toNat * 1) (.u64 (η i)), decide (0 ≤ (i : Int)) && decide ((i : Int) < (d.length : Int)), decide ((i : Int) < 8)]) := by kernel_rfl
theorem x4B : evSO Tryd.prog (ps4 rt) (n4 ω κ η rt) [33] Tryd.f4.ntmps (mask 4) F 1 [b4b] (S4B g κ η (c.map .u64) (d.map .u64) a n c.length d.length i) ⟨[false], [], []⟩ = some (.exit 2, ⟨T4B a n c.length d.length i ++ [(33, .bool false)], H4A g κ η (c.map .u64) ++ [(153, .cells false (d.map .u64))], 193⟩, ⟨[], [], [!(decide ((i : Int) < 8))]⟩) := by kernel_rfl
theorem z4 : evSO Tryd.prog (ps4 rt) (n4 ω κ η rt) [300044] Tryd.f4.ntmps (mask 4) F 1 (p4.drop 10) ⟨T4B a n c.length d.length i ++ [(33, .bool false)], (H4A g κ η (c.map .u64) ++ [(153, .cells false (d.map .u64))]), 193⟩ ⟨[], [.bool true, .tup []], []⟩ = some (.ret, ⟨(0, .int .i64 a) :: (2, .bool true) :: List.drop 2 (T4B a n c.length d.length i ++ [(33, AVal.bool false)]), (H4A g κ η (c.map .u64) ++ [(153, .cells false (d.map .u64))]), 209⟩, ⟨[], [], [alD ω 193 (H4A g κ η (c.map .u64) ++ [(153, .cells false (d.map .u64))])]⟩) := by kernel_rfl
end
theorem end4 {ω : Fw} {κ η : Nat → UInt64} {rt : Int → Bool → List UInt64} {sy : List Nat} {F : Nat} {b : Code} {s s' : SA} {id : Nat} {c : Bool} (h : evSO Tryd.prog (ps4 rt) (n4 ω κ η rt) sy Tryd.f4.ntmps (mask 4) F 1 [b] s ⟨[false], [], []⟩ = some (.exit id, s', ⟨[], [], [!c]⟩)) (hc : c = false) : evC Tryd.prog (n4 ω κ η rt) Tryd.f4.ntmps (mask 4) F 1 b s = some (.exit id, s') := by
  have := (evSO_ok (n4_ps _ _ _ _) _ _ _ _ _ _ h (by rw [hc]; rfl)).1
  rwa [evS_one] at this
theorem nExp_ok (a : Int) : ∃ n : Nat, nExp a = (n : Int) ∧ 1 ≤ n ∧ n ≤ 80 := by
  unfold nExp
  obtain ⟨m, hm⟩ : ∃ m, m = (BitVec.ofInt (IntKind.bits .i64) a &&& BitVec.ofInt (IntKind.bits .i64) 65535).toNat := ⟨_, rfl⟩
  rw [← hm]
  have h65 : m ≤ 65535 := by
    rw [hm, BitVec.toNat_and]
    have : (BitVec.ofInt (IntKind.bits .i64) 65535).toNat = 65535 := by decide
    rw [this]
    exact Nat.and_le_right
  rw [wrapI (m : Int) (by omega) (by omega)]
  have e : Int.tmod (m : Int) 80 = ((m % 80 : Nat) : Int) := rfl
  rw [e, wrapI _ (by omega) (by omega)]
  exact ⟨1 + m % 80, by omega, by omega, by omega⟩
theorem rtR_len (n : Nat) (cube : Bool) : (rtR (n : Int) cube).length = n := by simp [rtR]
theorem rt_at {n i : Nat} {cube : Bool} {x : UInt64} (hi : i < n) (hx : rootF τr (UInt64.ofNat (prL.getD i 0)) cube = x) : isAt ((rtR (n : Int) cube).map .u64) (0 + (i : Int).toNat * 1) (.u64 x) = true := by
  refine isAt_get ?_
  unfold rtR
  rw [List.getElem?_map, List.getElem?_map, Int.toNat_natCast, List.getElem?_range hi]
  simp only [Option.map_some]
  rw [hx]
theorem cube_at {i : Nat} (h : i < 80) : rootF τr (UInt64.ofNat (prL.getD i 0)) true = kF i := by
  rw [root_nat (by have := prL_bnd i h; omega), cube_chk i h]
theorem sqr_at {i : Nat} (h : i < 8) : rootF τr (UInt64.ofNat (prL.getD i 0)) false = hF i := by
  rw [root_nat (by have := prL_bnd i (by omega); omega), sqr_chk i h]
theorem f4_at : Tryd.prog.funcs[4]? = some Tryd.f4 := by kernel_rfl
theorem f4_body : Tryd.f4.body = some (bodyOf Tryd.f4) := by kernel_rfl
theorem law4 (a : Int) : ∃ nn F, (run1 Tryd.prog (n4 ωr kF hF rtR) nn F 4 [.int .i64 a] G0 1).map (·.1) = some (.bool true) := by
  obtain ⟨n, hn, h1, h80⟩ := nExp_ok a
  have a1 := segO_ok (n4_ps ωr kF hF rtR) (s4a ωr kF kF hF rtR a n 200) (by
    have o1 : (decide (1 ≤ (n : Int)) && decide ((n : Int) ≤ 80)) = true := by rw [Bool.and_eq_true, decide_eq_true_eq, decide_eq_true_eq]; omega
    have o2 : eqS (.int .i64 (nExp a)) (.int .i64 (n : Int)) = true := eqS_i64 hn
    simp only [allT, o1, o2, cond_true])
  rw [List.drop_zero] at a1
  obtain ⟨c, hc⟩ : ∃ c, c = rtR (n : Int) true := ⟨_, rfl⟩
  have lc : c.length = n := by rw [hc, rtR_len]
  rw [← hc] at a1
  have lpA := evS_loop (P := Tryd.prog) (cs := n4 ωr kF hF rtR) (nt := Tryd.f4.ntmps) (nn := mask 4) (F := 200) (bs := 1) p4_6 (fun i => S4A kF kF hF (c.map .u64) a n c.length i) n (fun i hi => by
    refine roundO2_ok (n4_ps _ _ _ _) (r4A ωr kF kF hF rtR a n i (i + 1) 200 c) ?_ (ok4A ..)
    have o1 : decide ((i : Int) < (n : Int)) = true := decide_eq_true (by omega)
    have o2 : decide ((i : Int) < 80) = true := decide_eq_true (by omega)
    have o3 : isAt (c.map .u64) (0 + (i : Int).toNat * 1) (.u64 (kF i)) = true := by rw [hc]; exact rt_at hi (cube_at (by omega))
    have o4 := isAt_cellsU kF (n := 80) (show i < 80 by omega)
    simp only [allT, plus1 (show i < 1000 by omega), bne_self_eq_false, Bool.not_false, nat0, Bool.true_and, o1, o2, o3, o4, lc, cond_true])
    (end4 (x4A ωr kF kF hF rtR a n n 200 c) (decide_eq_false (by omega))) (by omega)
  have a2 := segO_ok (n4_ps ωr kF hF rtR) (s4b ωr kF kF hF rtR a n 200 c) rfl
  obtain ⟨d, hd⟩ : ∃ d, d = rtR 8 false := ⟨_, rfl⟩
  have ld : d.length = 8 := by rw [hd]; exact rtR_len 8 false
  rw [← hd] at a2
  have lpB := evS_loop (P := Tryd.prog) (cs := n4 ωr kF hF rtR) (nt := Tryd.f4.ntmps) (nn := mask 4) (F := 200) (bs := 1) p4_9 (fun i => S4B kF kF hF (c.map .u64) (d.map .u64) a n c.length d.length i) 8 (fun i hi => by
    refine roundO2_ok (n4_ps _ _ _ _) (r4B ωr kF kF hF rtR a n i (i + 1) 200 c d) ?_ (ok4B ..)
    have o2 : decide ((i : Int) < 8) = true := decide_eq_true (by omega)
    have o5 : decide ((i : Int) < (d.length : Int)) = true := decide_eq_true (by omega)
    have o3 : isAt (d.map .u64) (0 + (i : Int).toNat * 1) (.u64 (hF i)) = true := by rw [hd]; exact rt_at (n := 8) hi (sqr_at hi)
    have o4 := isAt_cellsU hF (n := 8) hi
    simp only [allT, plus1 (show i < 1000 by omega), bne_self_eq_false, Bool.not_false, nat0, Bool.true_and, o2, o3, o4, o5, cond_true])
    (end4 (x4B ωr kF kF hF rtR a n 8 200 c d) (by decide)) (by omega)
  have zz := evSO_ok (n4_ps _ _ _ _) _ _ _ _ _ _ (z4 ωr kF kF hF rtR a n 8 200 c d) (by
    have h1 := al_r (base := 193) (H := H4A kF kF hF (c.map .u64) ++ [(153, .cells false (d.map .u64))]) rfl
    simp only [allT, h1, cond_true])
  have all := a1.trans (lpA.trans (a2.trans (lpB.trans zz.1)))
  exact ⟨mask 4, 200, by rw [run1_fin1 f4_at f4_body (by kernel_rfl) (H := G0) (v := .bool true) all (.inr rfl) rfl]; rfl⟩
end Go.Proofs.YtaepfopmicnnbaaDoor
