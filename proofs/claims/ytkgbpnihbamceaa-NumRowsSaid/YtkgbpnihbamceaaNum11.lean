/- Both sides' numbers modulo 2^255 - 19 are the same. -/
import Derived.Test.YtkgbpnihbamceaaNum10
namespace Go.Num
set_option linter.unusedVariables false
set_option linter.unusedSimpArgs false
open Go Go.Eng
/-- The program's words and the document's parts of one number. -/
structure Rel (a : E5) (x : N16) : Prop where
  ok : a.ok
  okP : x.ok
  val : x.val = a.val % Pq
theorem Rel.lt {a : E5} {x : N16} (h : Rel a x) : x.val < Pq := by rw [h.val]; exact Nat.mod_lt _ Pq_pos
theorem Rel.mod {a : E5} {x : N16} (h : Rel a x) : a.val % Pq = x.val := h.val.symm
theorem Rel.bytes {a : E5} {x : N16} (h : Rel a x) : bytesE a = bytesN x :=
  leNat_inj (by rw [bytesE_len, bytesN_len]) (by rw [bytesE_val, bytesN_val x h.okP, h.val])
theorem rel_of {s : List UInt8} (h : isLen s 32 = true) : Rel (ofEl s) (ofP s) := by
  obtain ⟨o, e⟩ := ofP_val (isLen_eq.1 h)
  exact ⟨ofEl_ok s, o, by rw [e, ofEl_val h]⟩
theorem rel_zero : Rel zeroE zeroN := ⟨zeroE_ok, zeroN_ok, by rw [zeroN_val, zeroE_val]; rfl⟩
theorem rel_small (n : UInt32) : Rel (smallE n) (smallN n) := by
  obtain ⟨o, e⟩ := smallN_val n
  obtain ⟨o2, e2⟩ := smallE_val n
  refine ⟨o2, o, ?_⟩
  have h := n.toNat_lt
  simp only [Nat.reducePow] at h
  rw [e, e2, Nat.mod_eq_of_lt (by unfold Pq; omega)]
theorem rel_add {a b : E5} {x y : N16} (h : Rel a x) (k : Rel b y) : Rel (addE a b) (addP x y) := by
  obtain ⟨o, e⟩ := addP_val x y h.okP k.okP
  obtain ⟨o2, e2⟩ := addE_val a b h.ok k.ok
  exact ⟨o2, o, by rw [e, e2, h.val, k.val, ← Nat.add_mod]⟩
theorem rel_mul {a b : E5} {x y : N16} (h : Rel a x) (k : Rel b y) : Rel (mulE a b) (mulP x y) := by
  obtain ⟨o, e⟩ := mulP_val x y h.okP k.okP
  obtain ⟨o2, e2⟩ := mulE_val a b h.ok k.ok
  exact ⟨o2, o, by rw [e, e2, h.val, k.val, ← Nat.mul_mod]⟩
/-- What is without, modulo. -/
theorem sub_mod (a b P : Nat) (hP : 0 < P) (hb : b ≤ 2 * P) : (a + (2 * P - b)) % P = (a % P + (P - b % P)) % P := by
  have h1 := Nat.div_add_mod b P
  have h2 := Nat.mod_lt b hP
  have h3 := Nat.div_add_mod a P
  have h4 : b / P ≤ 2 := Nat.div_le_of_le_mul (by rw [Nat.mul_comm]; exact hb)
  generalize b % P = r at *
  generalize hq : b / P = q at *
  have h5 : q = 0 ∨ q = 1 ∨ q = 2 := by omega
  have h6 : (a % P + (P - r)) % P = (a + (P - r)) % P := by rw [Nat.mod_add_mod]
  rw [h6]
  rcases h5 with rfl | rfl | rfl
  · have e : a + (2 * P - b) = (a + (P - r)) + P * 1 := by omega
    rw [e, Nat.add_mul_mod_self_left]
  · have e : a + (2 * P - b) = a + (P - r) := by omega
    rw [e]
  · have e : a + (P - r) = a + (2 * P - b) + P * 1 := by omega
    rw [e, Nat.add_mul_mod_self_left]
theorem rel_sub {a b : E5} {x y : N16} (h : Rel a x) (k : Rel b y) : Rel (subE a b) (subP x y) := by
  obtain ⟨o, e⟩ := subP_val x y h.okP k.okP k.lt
  obtain ⟨o2, e2, hle⟩ := subE_val a b h.ok k.ok
  exact ⟨o2, o, by rw [e, e2, h.val, k.val, sub_mod _ _ _ Pq_pos hle]⟩
theorem rel_neg {a : E5} {x : N16} (h : Rel a x) : Rel (negE a) (negP x) := by
  obtain ⟨o, e⟩ := negP_val x h.okP h.lt
  obtain ⟨o2, e2, hle⟩ := subE_val zeroE a zeroE_ok h.ok
  refine ⟨o2, o, ?_⟩
  unfold negE
  rw [e, e2, h.val, sub_mod _ _ _ Pq_pos hle, zeroE_val, Nat.zero_mod, Nat.zero_add]
/-! ### powers -/
/-- A power of a number. -/
structure PowE (a : E5) (n : Nat) (x : E5) : Prop where
  ok : x.ok
  val : x.val % Pq = a.val ^ n % Pq
theorem pow_one {a : E5} (h : a.ok) : PowE a 1 a := ⟨h, by rw [Nat.pow_one]⟩
theorem pow_mul {a x y : E5} {m n : Nat} (h : PowE a m x) (k : PowE a n y) : PowE a (m + n) (mulE x y) := by
  obtain ⟨o, e⟩ := mulE_val x y h.ok k.ok
  exact ⟨o, by rw [e, Nat.mul_mod, h.val, k.val, ← Nat.mul_mod, ← Nat.pow_add]⟩
theorem pow_sq {a : E5} : ∀ (n : Nat) {x : E5} {m : Nat}, PowE a m x → PowE a (m * 2 ^ n) (sqE x n)
  | 0, x, m, h => by rw [Nat.pow_zero, Nat.mul_one]; exact h
  | n + 1, x, m, h => by
    have := pow_sq n (pow_mul h h)
    have e : (m + m) * 2 ^ n = m * 2 ^ (n + 1) := by rw [Nat.pow_succ, ← Nat.mul_assoc, ← Nat.two_mul, Nat.mul_comm 2 m, Nat.mul_assoc, Nat.mul_comm 2, ← Nat.mul_assoc]
    rw [e] at this
    exact this
theorem pow_ones {a : E5} (ha : a.ok) : ∀ (f n : Nat), 1 ≤ n → n < 2 ^ f → PowE a (2 ^ n - 1) (onesF a f n)
  | 0, n, h1, h2 => by rw [Nat.pow_zero] at h2; omega
  | f + 1, n, h1, h2 => by
    simp only [onesF]
    rcases beq_cases n 1 with ⟨e, hb⟩ | ⟨e, hb⟩
    · rw [hb, cond_true, e]
      exact pow_one ha
    · rw [hb, cond_false]
      have hm : 1 ≤ n / 2 := by omega
      have ih := pow_ones ha f (n / 2) hm (by rw [Nat.pow_succ] at h2; omega)
      have p := pow_mul (pow_sq (n / 2) ih) ih
      have hp : 1 ≤ 2 ^ (n / 2) := Nat.one_le_two_pow
      have e1 : (2 ^ (n / 2) - 1) * 2 ^ (n / 2) + (2 ^ (n / 2) - 1) = 2 ^ (n / 2 + n / 2) - 1 := by
        rw [Nat.pow_add, Nat.sub_mul, Nat.one_mul]
        have : 2 ^ (n / 2) ≤ 2 ^ (n / 2) * 2 ^ (n / 2) := Nat.le_mul_of_pos_left _ hp
        omega
      rw [e1] at p
      rcases beq_cases (n % 2) 1 with ⟨e2, hb2⟩ | ⟨e2, hb2⟩
      · rw [hb2, cond_true]
        have p2 := pow_mul (pow_sq 1 p) (pow_one ha)
        have e3 : (2 ^ (n / 2 + n / 2) - 1) * 2 ^ 1 + 1 = 2 ^ n - 1 := by
          have e4 : n = n / 2 + n / 2 + 1 := by omega
          have : 1 ≤ 2 ^ (n / 2 + n / 2) := Nat.one_le_two_pow
          conv => rhs; rw [e4]
          rw [Nat.pow_succ]
          omega
        rw [e3] at p2
        exact p2
      · rw [hb2, cond_false]
        have e4 : n / 2 + n / 2 = n := by omega
        rw [e4] at p
        exact p
def eInv : Nat := bitsNat 0 (bitsL 255 21)
def eRoot : Nat := bitsNat 0 (bitsL 252 2)
theorem eInv_eq : (2 ^ 250 - 1) * 2 ^ 5 + (1 + 1 + 1 + 1 * 2 ^ 3) = eInv := by kernel_rfl
theorem eRoot_eq : (2 ^ 250 - 1) * 2 ^ 2 + (1 + 1) = eRoot := by kernel_rfl
theorem pow_inv {a : E5} (ha : a.ok) : PowE a eInv (invE a) := by
  have h := pow_ones ha 8 250 (by decide) (by decide)
  have p := pow_mul (pow_sq 5 h) (pow_mul (pow_mul (pow_mul (pow_one ha) (pow_one ha)) (pow_one ha)) (pow_sq 3 (pow_one ha)))
  rw [eInv_eq] at p
  have e : invE a = mulE (sqE (onesF a 8 250) 5) (mulE (mulE (mulE a a) a) (sqE a 3)) := by unfold invE onesE; rfl
  rw [e]
  exact p
theorem pow_root {a : E5} (ha : a.ok) : PowE a eRoot (root0E a) := by
  have h := pow_ones ha 8 250 (by decide) (by decide)
  have p := pow_mul (pow_sq 2 h) (pow_mul (pow_one ha) (pow_one ha))
  rw [eRoot_eq] at p
  have e : root0E a = mulE (sqE (onesF a 8 250) 2) (mulE a a) := by unfold root0E onesE; rfl
  rw [e]
  exact p
theorem rel_pow {a b : E5} {x : N16} {l : List Bool} (h : Rel a x) (p : PowE a (bitsNat 0 l) b) : Rel b (powP x l) := by
  refine ⟨p.ok, powP_ok x h.okP l, ?_⟩
  rw [powP_val x h.okP, p.val, h.val, ← Nat.pow_mod]
theorem rel_inv {a : E5} {x : N16} (h : Rel a x) : Rel (invE a) (invP x) := rel_pow h (pow_inv h.ok)
theorem rel_root0 {a : E5} {x : N16} (h : Rel a x) : Rel (root0E a) (root0P x) := rel_pow h (pow_root h.ok)
/-- A power modulo the prime, bit by bit. -/
def natF (a x : Nat) : List Bool → Nat
  | [] => x
  | b :: l => natF a (cond b (x * x % Pq * a % Pq) (x * x % Pq)) l
theorem natF_val (a : Nat) (l : List Bool) : ∀ x n : Nat, x = a ^ n % Pq → natF a x l = a ^ (bitsNat n l) % Pq := by
  induction l with
  | nil => exact fun x n h => h
  | cons b l ih =>
    intro x n h
    have e1 : x * x % Pq = a ^ (2 * n) % Pq := by rw [h, ← Nat.mul_mod, ← Nat.pow_add, Nat.two_mul]
    cases b
    · exact ih _ _ e1
    · refine ih _ _ ?_
      show x * x % Pq * a % Pq = a ^ (2 * n + 1) % Pq
      rw [e1, Nat.mod_mul_mod, Nat.pow_succ]
def iNat : Nat := 19681161376707505956807079304988542015446066515923890162744021073123829784752
theorem iNat_eq : natF 2 1 (bitsL 253 5) = iNat := by kernel_rfl
theorem iN_val : iN.val = iNat := by
  have e2 : (smallN 2).val = 2 := (smallN_val 2).2
  have e0 : (1 : Nat) = 2 ^ 0 % Pq := by rw [Nat.pow_zero]; exact (Nat.mod_eq_of_lt (by decide)).symm
  have h := powP_val (smallN 2) (smallN_val 2).1 (bitsL 253 5)
  have h2 := natF_val 2 (bitsL 253 5) 1 0 e0
  revert h h2
  unfold iN
  rw [e2, iNat_eq]
  generalize bitsNat 0 (bitsL 253 5) = e
  generalize (powP (smallN 2) (bitsL 253 5)).val = v
  generalize 2 ^ e % Pq = q
  intro h h2
  rw [h, h2]
theorem iNat_mod : iNat % Pq = iNat := by kernel_rfl
theorem iN_ok : iN.ok := powP_ok _ (smallN_val 2).1 _
theorem turned_ok : turnedE.ok := ⟨by decide, by decide, by decide, by decide, by decide⟩
theorem turned_val : turnedE.val = iNat := by kernel_rfl
theorem rel_turned : Rel turnedE iN := ⟨turned_ok, iN_ok, by rw [iN_val, turned_val, iNat_mod]⟩
theorem eqL2_eq : ∀ (l m : List UInt64), l.length = m.length → eqL2 l m = decide (l = m)
  | [], [], _ => rfl
  | [], _ :: _, h => by cases h
  | _ :: _, [], h => by cases h
  | x :: l, y :: m, h => by
    rw [Bool.eq_iff_iff]
    simp [eqL2, eqL2_eq l m (by simpa using h)]
theorem samP_eq (a b : N16) : samP a b = decide (a = b) := by
  unfold samP
  rw [eqL2_eq a.list b.list rfl, decide_eq_decide]
  exact ⟨fun h => by rw [← ofL_list a, ← ofL_list b, h], fun h => by rw [h]⟩
theorem rel_same {a b : E5} {x y : N16} (h : Rel a x) (k : Rel b y) : sameE a b = samP x y := by
  rw [sameE_eq, samP_eq, decide_eq_decide, ← h.val, ← k.val]
  exact ⟨fun e => N16.ext_val h.okP k.okP e, fun e => by rw [e]⟩
theorem rel_odd {a : E5} {x : N16} (h : Rel a x) : oddE a = oddP x := by
  rw [oddE_eq, ← h.val]
  unfold oddP
  rw [Bool.eq_iff_iff, decide_eq_true_iff, beq_iff_eq, ← UInt64.toNat_inj, and_nat _ 1 1 rfl]
  have h11 : (1 : UInt64).toNat = 1 := rfl
  have e : x.val = x.x0.toNat + 65536 * val16 [x.x1, x.x2, x.x3, x.x4, x.x5, x.x6, x.x7, x.x8, x.x9, x.x10, x.x11, x.x12, x.x13, x.x14, x.x15] := rfl
  rw [h11, e]
  generalize val16 _ = q
  simp only [Nat.reducePow]
  omega
theorem sel {β : Type} (t : Bool) (x y : β) : cond t x y = if t = true then x else y := by cases t <;> rfl
theorem root1E_eq (a : E5) : root1E a = if sameE (mulE (root0E a) (root0E a)) a = true then root0E a else mulE (root0E a) turnedE := by
  rw [root1E, sel]
theorem root1P_eq (a : N16) : root1P a = if samP (mulP (root0P a) (root0P a)) a = true then root0P a else mulP (root0P a) iN := by
  rw [root1P, sel]
theorem rootE_eq (a : E5) : rootE a = if hasE a = true then (if oddE (root1E a) = true then negE (root1E a) else root1E a) else zeroE := by
  rw [rootE, sel, sel]
theorem rootP_eq (a : N16) : rootP a = if hasP a = true then (if oddP (root1P a) = true then negP (root1P a) else root1P a) else zeroN := by
  rw [rootP, sel, sel]
theorem rel_if {t : Prop} [Decidable t] {a b : E5} {x y : N16} (h : Rel a x) (k : Rel b y) : Rel (if t then a else b) (if t then x else y) := by
  split
  · exact h
  · exact k
theorem rel_root1 {a : E5} {x : N16} (h : Rel a x) : Rel (root1E a) (root1P x) := by
  have h0 := rel_root0 h
  have hs := rel_same (rel_mul h0 h0) h
  rw [root1E_eq, root1P_eq, hs]
  exact rel_if h0 (rel_mul h0 rel_turned)
theorem rel_has {a : E5} {x : N16} (h : Rel a x) : hasE a = hasP x := by
  have h1 := rel_root1 h
  exact rel_same (rel_mul h1 h1) h
theorem rel_root {a : E5} {x : N16} (h : Rel a x) : Rel (rootE a) (rootP x) := by
  have h1 := rel_root1 h
  rw [rootE_eq, rootP_eq, rel_has h, rel_odd h1]
  exact rel_if (rel_if (rel_neg h1) h1) rel_zero
theorem canonP_eq (s : List UInt8) : canonP s = (isLen s 32 && decide (leNat s < Pq)) := by
  unfold canonP
  cases h : isLen s 32
  · rfl
  · obtain ⟨o, e⟩ := partsN_val s (isLen_eq.1 h)
    rw [lessN_eq _ _ o primeN_ok, e, primeN_val]
theorem canonE_eq (s : List UInt8) : canonE s = canonP s := by
  rw [canonP_eq]
  unfold canonE
  rw [ofEr_eq]
  cases h : isLen s 32
  · rfl
  · have hl := isLen_eq.1 h
    rw [Bool.true_and, Bool.true_and, Bool.eq_iff_iff, beq_iff_eq, decide_eq_true_iff]
    have hv := bytesE_val (ofEl s)
    rw [ofEl_val h] at hv
    constructor
    · intro e
      rw [e] at hv
      rw [hv]
      exact Nat.mod_lt _ Pq_pos
    · intro hlt
      rw [Nat.mod_eq_of_lt hlt] at hv
      exact leNat_inj (by rw [bytesE_len, hl]) hv
end Go.Num
namespace Go.Num
set_option linter.unusedVariables false
set_option linter.unusedSimpArgs false
open Go Go.Eng
theorem sub_zero {a b : E5} {x y : N16} (h : Rel a x) (k : Rel b y) : samP (subP x y) zeroN = samP x y := by
  obtain ⟨o, e⟩ := subP_val x y h.okP k.okP k.lt
  rw [samP_eq, samP_eq, decide_eq_decide]
  have hx := h.lt
  have hy := k.lt
  constructor
  · intro hz
    rw [hz, zeroN_val] at e
    refine N16.ext_val h.okP k.okP ?_
    rcases Nat.lt_or_ge (x.val + (Pq - y.val)) Pq with hl | hl
    · rw [Nat.mod_eq_of_lt hl] at e; omega
    · rw [Nat.mod_eq_sub_mod hl, Nat.mod_eq_of_lt (by omega)] at e; omega
  · intro hxy
    subst hxy
    refine N16.ext_val o zeroN_ok ?_
    rw [e, zeroN_val]
    have : x.val + (Pq - x.val) = Pq := by omega
    rw [this, Nat.mod_self]
end Go.Num
