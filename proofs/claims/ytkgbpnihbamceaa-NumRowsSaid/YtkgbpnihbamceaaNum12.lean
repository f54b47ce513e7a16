/- Powers and roots of known numbers. -/
import Derived.Test.YtkgbpnihbamceaaNum11
namespace Go.Num
set_option linter.unusedVariables false
set_option linter.unusedSimpArgs false
open Go Go.Eng
def nRoot0 (v : Nat) : Nat := natF v 1 (bitsL 252 2)
def nRoot1 (v : Nat) : Nat := if nRoot0 v * nRoot0 v % Pq = v then nRoot0 v else nRoot0 v * iNat % Pq
def nHas (v : Nat) : Bool := decide (nRoot1 v * nRoot1 v % Pq = v)
def nRoot (v : Nat) : Nat := if nHas v = true then (if nRoot1 v % 2 = 1 then (Pq - nRoot1 v) % Pq else nRoot1 v) else 0
theorem one_mod (a : Nat) : (1 : Nat) = a ^ 0 % Pq := by rw [Nat.pow_zero]; exact (Nat.mod_eq_of_lt (by decide)).symm
theorem root0_nat {a : E5} (ha : a.ok) : (root0E a).val % Pq = nRoot0 (a.val % Pq) := by
  have h := (pow_root ha).val
  have h2 := natF_val (a.val % Pq) (bitsL 252 2) 1 0 (one_mod _)
  have e : eRoot = bitsNat 0 (bitsL 252 2) := rfl
  rw [e] at h
  unfold nRoot0
  revert h h2
  generalize bitsNat 0 (bitsL 252 2) = n
  intro h h2
  rw [h, h2, ← Nat.pow_mod]
theorem inv_nat {a : E5} (ha : a.ok) : (invE a).val % Pq = natF (a.val % Pq) 1 (bitsL 255 21) := by
  have h := (pow_inv ha).val
  have h2 := natF_val (a.val % Pq) (bitsL 255 21) 1 0 (one_mod _)
  have e : eInv = bitsNat 0 (bitsL 255 21) := rfl
  rw [e] at h
  revert h h2
  generalize bitsNat 0 (bitsL 255 21) = n
  intro h h2
  rw [h, h2, ← Nat.pow_mod]
theorem root0_ok {a : E5} (ha : a.ok) : (root0E a).ok := (pow_root ha).ok
theorem inv_ok {a : E5} (ha : a.ok) : (invE a).ok := (pow_inv ha).ok
theorem root1_nat {a : E5} (ha : a.ok) : (root1E a).ok ∧ (root1E a).val % Pq = nRoot1 (a.val % Pq) := by
  have o0 := root0_ok ha
  have e0 := root0_nat ha
  obtain ⟨o1, e1⟩ := mulE_val _ _ o0 o0
  obtain ⟨o2, e2⟩ := mulE_val _ _ o0 turned_ok
  have hs : sameE (mulE (root0E a) (root0E a)) a = decide (nRoot0 (a.val % Pq) * nRoot0 (a.val % Pq) % Pq = a.val % Pq) := by
    rw [sameE_eq, e1, Nat.mul_mod, e0]
  rw [root1E_eq, hs]
  unfold nRoot1
  by_cases h : nRoot0 (a.val % Pq) * nRoot0 (a.val % Pq) % Pq = a.val % Pq
  · rw [decide_eq_true h, if_pos rfl, if_pos h]
    exact ⟨o0, e0⟩
  · rw [decide_eq_false h, if_neg (by simp), if_neg h]
    refine ⟨o2, ?_⟩
    rw [e2, Nat.mul_mod, e0, turned_val, iNat_mod]
theorem has_nat {a : E5} (ha : a.ok) : hasE a = nHas (a.val % Pq) := by
  obtain ⟨o1, e1⟩ := root1_nat ha
  obtain ⟨_, e2⟩ := mulE_val _ _ o1 o1
  unfold hasE nHas
  rw [sameE_eq, e2, Nat.mul_mod, e1]
theorem neg_nat {a : E5} (ha : a.ok) : (negE a).ok ∧ (negE a).val % Pq = (Pq - a.val % Pq) % Pq := by
  obtain ⟨o, e, hle⟩ := subE_val zeroE a zeroE_ok ha
  refine ⟨o, ?_⟩
  unfold negE
  rw [e, sub_mod _ _ _ Pq_pos hle, zeroE_val, Nat.zero_mod, Nat.zero_add]
theorem root_nat {a : E5} (ha : a.ok) : (rootE a).ok ∧ (rootE a).val % Pq = nRoot (a.val % Pq) := by
  obtain ⟨o1, e1⟩ := root1_nat ha
  obtain ⟨o2, e2⟩ := neg_nat o1
  have ho : oddE (root1E a) = decide (nRoot1 (a.val % Pq) % 2 = 1) := by rw [oddE_eq, e1]
  rw [rootE_eq, has_nat ha, ho]
  unfold nRoot
  by_cases h : nHas (a.val % Pq) = true
  · rw [if_pos h, if_pos h]
    by_cases h2 : nRoot1 (a.val % Pq) % 2 = 1
    · rw [decide_eq_true h2, if_pos rfl, if_pos h2]
      exact ⟨o2, by rw [e2, e1]⟩
    · rw [decide_eq_false h2, if_neg (by simp), if_neg h2]
      exact ⟨o1, e1⟩
  · rw [if_neg h, if_neg h]
    exact ⟨zeroE_ok, by rw [zeroE_val]; rfl⟩
theorem small_mod (n : UInt32) : (smallE n).val % Pq = n.toNat := by
  have h := n.toNat_lt
  simp only [Nat.reducePow] at h
  rw [(smallE_val n).2, Nat.mod_eq_of_lt (by unfold Pq; omega)]
/-! ### what the law asks of known numbers -/
theorem nat_has4 : nHas 4 = true := by kernel_rfl
theorem nat_has2 : nHas 2 = false := by kernel_rfl
theorem nat_root4 : nRoot 4 = 2 := by kernel_rfl
theorem nat_inv2 : 2 * natF 2 1 (bitsL 255 21) % Pq = 1 := by kernel_rfl
theorem has4 : hasE (smallE 4) = true := by
  rw [has_nat (smallE_val 4).1, small_mod]
  exact nat_has4
theorem has2 : hasE (smallE 2) = false := by
  rw [has_nat (smallE_val 2).1, small_mod]
  exact nat_has2
theorem root4 : sameE (rootE (smallE 4)) (smallE 2) = true := by
  rw [sameE_eq, (root_nat (smallE_val 4).1).2, small_mod, small_mod, decide_eq_true_iff]
  exact nat_root4
theorem one_val : (mulE (smallE 2) (invE (smallE 2))).val % Pq = 1 := by
  obtain ⟨_, e⟩ := mulE_val (smallE 2) (invE (smallE 2)) (smallE_val 2).1 (inv_ok (smallE_val 2).1)
  rw [e, Nat.mul_mod, inv_nat (smallE_val 2).1, small_mod]
  have e2 : (2 : UInt32).toNat = 2 := rfl
  rw [e2]
  exact nat_inv2
theorem one_byte : (byteE (reducedE (mulE (smallE 2) (invE (smallE 2)))) 0 == 1) = true := by
  obtain ⟨h1, h2⟩ := reduced_val (mulE (smallE 2) (invE (smallE 2)))
  have := byteE_val _ h1 0 (by omega)
  rw [h2, one_val] at this
  rw [beq_iff_eq]
  exact UInt8.toNat_inj.1 this
theorem odd_neg1 : oddE (negE (smallE 1)) = false := by
  rw [oddE_eq, (neg_nat (smallE_val 1).1).2, small_mod, decide_eq_false_iff_not]
  decide
theorem odd3 : oddE (smallE 3) = true := by
  rw [oddE_eq, small_mod, decide_eq_true_iff]
  decide
end Go.Num
