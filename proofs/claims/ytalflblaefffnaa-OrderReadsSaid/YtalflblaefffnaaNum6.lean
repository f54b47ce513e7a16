/- Both sides' numbers modulo the order are the same; the ring's laws. -/
import Derived.Test.YtalflblaefffnaaNum5
namespace Go.Num
set_option linter.unusedVariables false
set_option linter.unusedSimpArgs false
open Go Go.Eng
def eqL : List UInt64 → List UInt64 → Bool
  | x :: l, y :: m => (x == y) && eqL l m
  | _, _ => true
def sameN (a b : N16) : Bool := eqL a.list b.list
theorem eqL_eq : ∀ (l m : List UInt64), l.length = m.length → eqL l m = decide (l = m)
  | [], [], _ => rfl
  | [], _ :: _, h => by cases h
  | _ :: _, [], h => by cases h
  | x :: l, y :: m, h => by
    rw [Bool.eq_iff_iff]
    simp [eqL, eqL_eq l m (by simpa using h)]
theorem sameN_eq (a b : N16) : sameN a b = decide (a = b) := by
  unfold sameN
  rw [eqL_eq a.list b.list rfl, decide_eq_decide]
  exact ⟨fun h => by rw [← ofL_list a, ← ofL_list b, h], fun h => by rw [h]⟩
theorem oE_ok (s : List UInt8) : (oE s == 0) = okL s := by
  unfold oE
  cases okL s <;> rfl
theorem oV_ok {s : List UInt8} (h : okL s = true) : oV s = ofW s := by unfold oV; rw [h]; rfl
theorem okL_len {s : List UInt8} (h : okL s = true) : s.length = 32 ∨ s.length = 64 := by
  rw [okL_eq, Bool.or_eq_true, isLen_eq, isLen_eq] at h; exact h
theorem okL_ble {s : List UInt8} (h : okL s = true) : Nat.ble s.length 100000 = true := by
  rcases okL_len h with h | h <;> rw [h] <;> rfl
theorem of_same (s : List UInt8) : (ofW s).val = (ofN s).val := by rw [ofW_val, (ofN_val s).2]
theorem is_of (s : List UInt8) : bytesW (ofW s) = bytesN (ofN s) := same_bytes (ofN_val s).1 (of_same s)
theorem is_add (s t : List UInt8) : bytesW (addW (ofW s) (ofW t)) = bytesN (addN (ofN s) (ofN t)) := by
  obtain ⟨o, e⟩ := addN_val _ _ (ofN_val s).1 (ofN_val t).1
  refine same_bytes o ?_
  rw [e, addW_val _ _ (ofW_lt s) (ofW_lt t), of_same, of_same]
theorem is_mul (s t : List UInt8) : bytesW (mulW (ofW s) (ofW t)) = bytesN (mulN (ofN s) (ofN t)) := by
  obtain ⟨o, e⟩ := mulN_val _ _ (ofN_val s).1 (ofN_val t).1
  refine same_bytes o ?_
  rw [e, mulW_val, of_same, of_same]
theorem is_neg (s : List UInt8) : bytesW (negW (ofW s)) = bytesN (negN (ofN s)) := by
  obtain ⟨o, e⟩ := negN_val _ (ofN_val s).1 (ofN_lt s)
  refine same_bytes o ?_
  rw [e, negW_val _ (ofW_lt s), of_same]
theorem same_same (s t : List UInt8) : sameW (ofW s) (ofW t) = sameN (ofN s) (ofN t) := by
  rw [sameW_eq, sameN_eq, decide_eq_decide]
  exact ⟨fun h => N16.ext_val (ofN_val s).1 (ofN_val t).1 (by rw [← of_same, ← of_same, h]), fun h => W4.ext_val (by rw [of_same, of_same, h])⟩
theorem canon_same (s : List UInt8) : canonW s = canonN s := by
  unfold canonW
  rw [canonN_eq, oE_ok, okL_eq]
  cases h : isLen s 32
  · cases h2 : isLen s 64
    · rfl
    · have hl := isLen_eq.1 h2
      rw [Bool.or_true, Bool.true_and, Bool.false_and, beq_eq_false_iff_ne, ne_eq]
      intro e
      have := congrArg List.length e
      rw [bytesW_len, hl] at this
      omega
  · have hl := isLen_eq.1 h
    have hk : okL s = true := by rw [okL_eq, h]; rfl
    rw [Bool.true_or, Bool.true_and, Bool.true_and, oV_ok hk, Bool.eq_iff_iff, beq_iff_eq, decide_eq_true_iff]
    constructor
    · intro e
      have h1 := bytesW_val (ofW s)
      rw [e] at h1
      have := ofW_lt s
      omega
    · intro hlt
      refine leNat_inj (by rw [bytesW_len, hl]) ?_
      rw [bytesW_val, ofW_val, Nat.mod_eq_of_lt hlt]
/-! ### the ring -/
theorem ofW_of {a : W4} (h : a.val < Lq) : ofW (bytesW a) = a := W4.ext_val (by rw [ofW_val, bytesW_val, Nat.mod_eq_of_lt h])
theorem addW_lt {a b : W4} (ha : a.val < Lq) (hb : b.val < Lq) : (addW a b).val < Lq := by rw [addW_val a b ha hb]; exact Nat.mod_lt _ Lq_pos
theorem mulW_lt (a b : W4) : (mulW a b).val < Lq := by rw [mulW_val]; exact Nat.mod_lt _ Lq_pos
theorem negW_lt {a : W4} (ha : a.val < Lq) : (negW a).val < Lq := by rw [negW_val a ha]; exact Nat.mod_lt _ Lq_pos
theorem addW_comm {a b : W4} (ha : a.val < Lq) (hb : b.val < Lq) : addW a b = addW b a := W4.ext_val (by rw [addW_val a b ha hb, addW_val b a hb ha, Nat.add_comm])
theorem mulW_comm (a b : W4) : mulW a b = mulW b a := W4.ext_val (by rw [mulW_val, mulW_val, Nat.mul_comm])
theorem addW_assoc {a b c : W4} (ha : a.val < Lq) (hb : b.val < Lq) (hc : c.val < Lq) : addW (addW a b) c = addW a (addW b c) :=
  W4.ext_val (by rw [addW_val _ c (addW_lt ha hb) hc, addW_val a _ ha (addW_lt hb hc), addW_val a b ha hb, addW_val b c hb hc, Nat.mod_add_mod, Nat.add_mod_mod, Nat.add_assoc])
theorem mulW_assoc (a b c : W4) : mulW (mulW a b) c = mulW a (mulW b c) :=
  W4.ext_val (by
    rw [mulW_val, mulW_val, mulW_val, mulW_val, Nat.mod_mul_mod, Nat.mul_mod_mod, Nat.mul_assoc])
theorem mulW_add {a b c : W4} (hb : b.val < Lq) (hc : c.val < Lq) : mulW a (addW b c) = addW (mulW a b) (mulW a c) :=
  W4.ext_val (by
    rw [mulW_val, addW_val b c hb hc, addW_val _ _ (mulW_lt a b) (mulW_lt a c), mulW_val, mulW_val, Nat.mul_mod_mod, Nat.mul_add, Nat.mod_add_mod, Nat.add_mod_mod])
theorem addW_neg {a : W4} (ha : a.val < Lq) : addW a (negW a) = zeroW :=
  W4.ext_val (by
    rw [addW_val a _ ha (negW_lt ha), negW_val a ha, Nat.add_mod_mod]
    have : a.val + (Lq - a.val) = Lq := by omega
    rw [this, Nat.mod_self]; rfl)
theorem canon_bytes {a : W4} (ha : a.val < Lq) : canonW (bytesW a) = true := by
  have hk : okL (bytesW a) = true := by rw [okL_eq, isLen_eq.2 (bytesW_len a)]; rfl
  unfold canonW
  rw [oE_ok, hk, oV_ok hk, ofW_of ha]
  simp
end Go.Num
namespace Go.Num
set_option linter.unusedVariables false
set_option linter.unusedSimpArgs false
def z32 : List UInt8 := List.replicate 32 0
end Go.Num
