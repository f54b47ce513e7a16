/- The numbers modulo 2^255 - 19 are a field; which have a root. -/
import Derived.Test.YtkgbpnihbamceaaNum12
import Derived.Test.YtkgbpnihbamceaaPrime
namespace Go.Num
set_option linter.unusedVariables false
set_option linter.unusedSimpArgs false
open Go Go.Eng
set_option maxRecDepth 100000
/-! ### over any modulus whose units are the powers of one -/
theorem pow_congr {P a b : Nat} (h : a % P = b % P) (k : Nat) : a ^ k % P = b ^ k % P := by rw [Nat.pow_mod, h, ← Nat.pow_mod]
theorem mul_congr {P a b c d : Nat} (h : a % P = b % P) (k : c % P = d % P) : a * c % P = b * d % P := by rw [Nat.mul_mod, h, k, ← Nat.mul_mod]
theorem Gen.rep {P g : Nat} (h : Gen P g) {a : Nat} (ha : a % P ≠ 0) : ∃ k, g ^ k % P = a % P := by
  have h1 := h.one
  obtain ⟨k, _, e⟩ := h.gens (a % P) (by omega) (Nat.mod_lt _ (by omega))
  exact ⟨k, e⟩
theorem Gen.fermat {P g : Nat} (h : Gen P g) {a : Nat} (ha : a % P ≠ 0) : a ^ (P - 1) % P = 1 := by
  obtain ⟨k, e⟩ := h.rep ha
  rw [← pow_congr e (P - 1), ← Nat.pow_mul, Nat.mul_comm]
  exact pow_one_mul h.one h.full k
theorem Gen.inv {P g : Nat} (h : Gen P g) (h3 : 3 ≤ P) {a : Nat} (ha : a % P ≠ 0) : a * a ^ (P - 2) % P = 1 := by
  rw [Nat.mul_comm, ← Nat.pow_succ, Nat.succ_eq_add_one, show P - 2 + 1 = P - 1 by omega]
  exact h.fermat ha
theorem Gen.cancel {P g : Nat} (h : Gen P g) (h3 : 3 ≤ P) {a s t : Nat} (ha : a % P ≠ 0) (e : a * s % P = a * t % P) : s % P = t % P := by
  have i := h.inv h3 ha
  have hone : (1 : Nat) % P = 1 := Nat.mod_eq_of_lt h.one
  have e1 : ∀ u : Nat, a ^ (P - 2) * (a * u) % P = u % P := fun u => by
    have : a ^ (P - 2) * (a * u) = a * a ^ (P - 2) * u := by
      rw [← Nat.mul_assoc, Nat.mul_comm (a ^ (P - 2)) a]
    rw [this, Nat.mul_mod, i, Nat.one_mul, Nat.mod_mod]
  have e2 := mul_congr (rfl : a ^ (P - 2) % P = a ^ (P - 2) % P) e
  rw [e1, e1] at e2
  exact e2
theorem Gen.quarter {P g : Nat} (h : Gen P g) {m : Nat} (hm : P - 1 = 4 * m) (k : Nat) : g ^ (m * k) % P = 1 ↔ 4 ∣ k := by
  have h1 := h.one
  have hm0 : 0 < m := by omega
  constructor
  · intro e
    have := h.ord _ e
    rw [hm, Nat.mul_comm 4 m] at this
    exact Nat.dvd_of_mul_dvd_mul_left hm0 this
  · rintro ⟨c, rfl⟩
    rw [← Nat.mul_assoc, Nat.mul_comm m 4, ← hm]
    exact pow_one_mul h.one h.full c
theorem Gen.sq0 {P g : Nat} (h : Gen P g) {m e : Nat} (he : 2 * e = m + 1) {k a c0 : Nat} (hk : g ^ k % P = a % P) (hc : c0 % P = a ^ e % P) : c0 * c0 % P = a * g ^ (m * k) % P := by
  rw [mul_congr hc hc, ← Nat.pow_add, show e + e = m + 1 by omega, Nat.pow_succ, Nat.mul_comm]
  refine mul_congr rfl ?_
  rw [← pow_congr hk m, ← Nat.pow_mul, Nat.mul_comm k m]
theorem Gen.root_a {P g : Nat} (h : Gen P g) (h3 : 3 ≤ P) {m e : Nat} (hm : P - 1 = 4 * m) (he : 2 * e = m + 1) {k a c0 : Nat} (ha : a % P ≠ 0) (hk : g ^ k % P = a % P) (hc : c0 % P = a ^ e % P) : c0 * c0 % P = a % P ↔ 4 ∣ k := by
  rw [h.sq0 he hk hc, ← h.quarter hm k]
  have hone : (1 : Nat) % P = 1 := Nat.mod_eq_of_lt h.one
  constructor
  · intro e1
    have := h.cancel h3 (s := g ^ (m * k)) (t := 1) ha (by rw [e1, Nat.mul_one])
    rw [this, hone]
  · intro e1
    rw [Nat.mul_mod, e1, Nat.mul_one, Nat.mod_mod]
theorem Gen.root_b {P g : Nat} (h : Gen P g) (h3 : 3 ≤ P) {m e : Nat} (hm : P - 1 = 4 * m) (he : 2 * e = m + 1) {k a c0 i : Nat} (ha : a % P ≠ 0) (hk : g ^ k % P = a % P) (hc : c0 % P = a ^ e % P) (hi : i % P = g ^ m % P) : c0 * i * (c0 * i) % P = a % P ↔ 4 ∣ k + 2 := by
  have e0 : c0 * i * (c0 * i) % P = a * g ^ (m * (k + 2)) % P := by
    have e1 : c0 * i * (c0 * i) = c0 * c0 * (i * i) := by
      rw [Nat.mul_mul_mul_comm]
    rw [e1, mul_congr (h.sq0 he hk hc) (mul_congr hi hi), Nat.mul_assoc, ← Nat.pow_add, ← Nat.pow_add]
    rw [show m * k + (m + m) = m * (k + 2) by rw [Nat.mul_add]; omega]
  rw [e0, ← h.quarter hm (k + 2)]
  have hone : (1 : Nat) % P = 1 := Nat.mod_eq_of_lt h.one
  constructor
  · intro e1
    have := h.cancel h3 (s := g ^ (m * (k + 2))) (t := 1) ha (by rw [e1, Nat.mul_one])
    rw [this, hone]
  · intro e1
    rw [Nat.mul_mod, e1, Nat.mul_one, Nat.mod_mod]

/-! ### the program's numbers -/
structure Vm (x : E5) (n : Nat) : Prop where
  ok : x.ok
  val : x.val % Pq = n % Pq
theorem vm_of (s : List UInt8) : Vm (ofEl s) (ofEl s).val := ⟨ofEl_ok s, rfl⟩
theorem Vm.self {x : E5} (h : x.ok) : Vm x x.val := ⟨h, rfl⟩
theorem Vm.add {x y : E5} {n m : Nat} (h : Vm x n) (k : Vm y m) : Vm (addE x y) (n + m) := by
  obtain ⟨o, e⟩ := addE_val x y h.ok k.ok
  exact ⟨o, by rw [e, Nat.add_mod, h.val, k.val, ← Nat.add_mod]⟩
theorem Vm.mul {x y : E5} {n m : Nat} (h : Vm x n) (k : Vm y m) : Vm (mulE x y) (n * m) := by
  obtain ⟨o, e⟩ := mulE_val x y h.ok k.ok
  exact ⟨o, by rw [e]; exact mul_congr h.val k.val⟩
theorem Vm.sub {x y : E5} {n m : Nat} (h : Vm x n) (k : Vm y m) : Vm (subE x y) (n + (Pq - m % Pq)) := by
  obtain ⟨o, e, hle⟩ := subE_val x y h.ok k.ok
  refine ⟨o, ?_⟩
  rw [e, sub_mod _ _ _ Pq_pos hle, k.val, h.val, ← Nat.add_mod_mod, Nat.add_mod_mod, Nat.add_mod]
  rw [Nat.mod_mod, ← Nat.add_mod]
theorem Vm.neg {x : E5} {n : Nat} (h : Vm x n) : Vm (negE x) (Pq - n % Pq) := by
  obtain ⟨o, e⟩ := neg_nat h.ok
  exact ⟨o, by rw [e, h.val]⟩
theorem vm_zero : Vm zeroE 0 := ⟨zeroE_ok, by rw [zeroE_val]⟩
theorem vm_small (n : UInt32) : Vm (smallE n) n.toNat := ⟨(smallE_val n).1, by rw [(smallE_val n).2]⟩
theorem Vm.same {x y : E5} {n m : Nat} (h : Vm x n) (k : Vm y m) : sameE x y = decide (n % Pq = m % Pq) := by rw [sameE_eq, h.val, k.val]
theorem genP : Gen Pq 2 := gen57896044618658097711785492504343953926634992332820282019728792003956564819949
theorem P3 : 3 ≤ Pq := by decide
theorem fInv : eInv = Pq - 2 := by kernel_rfl
def mP : Nat := 14474011154664524427946373126085988481658748083205070504932198000989141204987
def rP : Nat := 7237005577332262213973186563042994240829374041602535252466099000494570602494
theorem mP_eq : Pq - 1 = 4 * mP := by decide
theorem rP_eq : 2 * rP = mP + 1 := by decide
theorem fRoot : eRoot = rP := by kernel_rfl
theorem vm_inv {a : E5} {n : Nat} (h : Vm a n) : Vm (invE a) (n ^ (Pq - 2)) := by
  have p := pow_inv h.ok
  refine ⟨p.ok, ?_⟩
  rw [p.val, fInv]
  generalize Pq - 2 = e
  exact pow_congr h.val e
theorem vm_root0 {a : E5} {n : Nat} (h : Vm a n) : Vm (root0E a) (n ^ rP) := by
  have p := pow_root h.ok
  refine ⟨p.ok, ?_⟩
  rw [p.val, fRoot]
  generalize rP = e
  exact pow_congr h.val e
theorem bits_mP : bitsNat 0 (bitsL 253 5) = mP := by kernel_rfl
theorem iNat_pow : iNat % Pq = 2 ^ mP % Pq := by
  have h := natF_val 2 (bitsL 253 5) 1 0 (one_mod _)
  rw [iNat_eq, bits_mP] at h
  rw [iNat_mod]
  exact h
theorem vm_turned : Vm turnedE iNat := ⟨turned_ok, by rw [turned_val]⟩
theorem same_mul_root0 {a : E5} (ha : a.ok) (h0 : a.val % Pq ≠ 0) {k : Nat} (hk : 2 ^ k % Pq = a.val % Pq) :
    sameE (mulE (root0E a) (root0E a)) a = decide (4 ∣ k) := by
  have v0 := vm_root0 (Vm.self ha)
  rw [(v0.mul v0).same (Vm.self ha)]
  have hh := genP.root_a P3 mP_eq rP_eq h0 hk (c0 := a.val ^ rP) rfl
  revert hh
  generalize a.val ^ rP * a.val ^ rP % Pq = x
  intro hh
  exact decide_eq_decide.2 hh
theorem same_mul_root0i {a : E5} (ha : a.ok) (h0 : a.val % Pq ≠ 0) {k : Nat} (hk : 2 ^ k % Pq = a.val % Pq) :
    sameE (mulE (mulE (root0E a) turnedE) (mulE (root0E a) turnedE)) a = decide (4 ∣ k + 2) := by
  have v0 := (vm_root0 (Vm.self ha)).mul vm_turned
  rw [(v0.mul v0).same (Vm.self ha)]
  have hh := genP.root_b P3 mP_eq rP_eq h0 hk (c0 := a.val ^ rP) rfl iNat_pow
  revert hh
  generalize a.val ^ rP * iNat * (a.val ^ rP * iNat) % Pq = x
  intro hh
  exact decide_eq_decide.2 hh
theorem root1_ok {a : E5} (ha : a.ok) : (root1E a).ok := (root1_nat ha).1
theorem has_iff {a : E5} (ha : a.ok) (h0 : a.val % Pq ≠ 0) {k : Nat} (hk : 2 ^ k % Pq = a.val % Pq) : hasE a = decide (k % 2 = 0) := by
  have h1 := same_mul_root0 ha h0 hk
  have h2 := same_mul_root0i ha h0 hk
  have hu : hasE a = sameE (mulE (root1E a) (root1E a)) a := rfl
  rw [hu, root1E_eq, h1]
  by_cases h : 4 ∣ k
  · rw [decide_eq_true h, if_pos rfl, h1, decide_eq_true h]
    exact (decide_eq_true (by omega)).symm
  · rw [decide_eq_false h, if_neg (by simp), h2]
    exact decide_eq_decide.2 (by omega)
theorem root_sq {a : E5} (ha : a.ok) (h : hasE a = true) : sameE (mulE (rootE a) (rootE a)) a = true := by
  have h1 : sameE (mulE (root1E a) (root1E a)) a = true := h
  have v1 := Vm.self (root1_ok ha)
  rw [rootE_eq, if_pos h]
  by_cases h2 : oddE (root1E a) = true
  · rw [if_pos h2]
    rw [(v1.neg.mul v1.neg).same (Vm.self ha), decide_eq_true_iff]
    rw [(v1.mul v1).same (Vm.self ha), decide_eq_true_iff] at h1
    rw [← h1]
    generalize (root1E a).val = x
    have hlt := Nat.mod_lt x Pq_pos
    have e : (Pq - x % Pq) * (Pq - x % Pq) + 2 * Pq * (x % Pq) = Pq * Pq + (x % Pq) * (x % Pq) := by
      generalize x % Pq = y at hlt
      obtain ⟨z, hz⟩ : ∃ z, Pq = z + y := ⟨Pq - y, by omega⟩
      rw [hz, Nat.add_sub_cancel]
      grind
    have e2 : ((Pq - x % Pq) * (Pq - x % Pq) + 2 * Pq * (x % Pq)) % Pq = (Pq - x % Pq) * (Pq - x % Pq) % Pq := by
      rw [show 2 * Pq * (x % Pq) = Pq * (2 * (x % Pq)) by rw [Nat.mul_comm 2 Pq, Nat.mul_assoc]]
      exact Nat.add_mul_mod_self_left _ _ _
    rw [← e2, e, Nat.add_comm, Nat.add_mul_mod_self_left, ← Nat.mul_mod]
  · rw [if_neg h2]
    exact h1
theorem neg_even {P y : Nat} (hP : P % 2 = 1) (hlt : y < P) (hy : y % 2 = 1) : ¬ (P - y) % P % 2 = 1 := by
  rw [Nat.mod_eq_of_lt (show P - y < P by omega)]
  omega
theorem P_odd : Pq % 2 = 1 := by decide
theorem root_even {a : E5} (ha : a.ok) : oddE (rootE a) = false := by
  rw [rootE_eq]
  by_cases h : hasE a = true
  · rw [if_pos h]
    by_cases h2 : oddE (root1E a) = true
    · rw [if_pos h2, oddE_eq, (neg_nat (root1_ok ha)).2, decide_eq_false_iff_not]
      rw [oddE_eq, decide_eq_true_iff] at h2
      have hlt := Nat.mod_lt (root1E a).val Pq_pos
      exact neg_even P_odd hlt h2
    · rw [if_neg h2]
      exact Bool.eq_false_iff.2 h2
  · rw [if_neg h, oddE_eq, zeroE_val, decide_eq_false_iff_not, Nat.zero_mod]
    omega
theorem zero_pow_mod {P e : Nat} (he : 0 < e) : 0 ^ e % P = 0 % P := by rw [Nat.zero_pow he]
theorem rP_pos : 0 < rP := by decide
theorem has_zero {a : E5} (ha : a.ok) (h0 : a.val % Pq = 0) : hasE a = true ∧ sameE (rootE a) zeroE = true := by
  have z0 : Vm a 0 := ⟨ha, h0⟩
  have r0 : Vm (root0E a) 0 := by
    have := vm_root0 z0
    refine ⟨this.ok, ?_⟩
    rw [this.val]
    exact zero_pow_mod rP_pos
  have r1 : root1E a = root0E a := by
    rw [root1E_eq, if_pos]
    rw [(r0.mul r0).same z0]
    exact decide_eq_true rfl
  have hh : hasE a = true := by
    show sameE (mulE (root1E a) (root1E a)) a = true
    rw [r1, (r0.mul r0).same z0]
    exact decide_eq_true rfl
  refine ⟨hh, ?_⟩
  rw [rootE_eq, if_pos hh, r1]
  have ho : oddE (root0E a) = false := by
    rw [oddE_eq, r0.val]; decide
  rw [ho, if_neg (by simp), r0.same vm_zero]
  exact decide_eq_true rfl
theorem two_mul_rep {a k : Nat} (hk : 2 ^ k % Pq = a % Pq) : 2 ^ (k + 1) % Pq = a * 2 % Pq := by
  rw [Nat.pow_succ]
  exact mul_congr hk rfl
theorem has_twice {a b : E5} (ha : a.ok) (hb : Vm b (a.val * 2)) (h0 : a.val % Pq ≠ 0) : hasE b = !hasE a := by
  obtain ⟨k, hk⟩ := genP.rep h0
  have h2 := two_mul_rep hk
  have hb0 : b.val % Pq ≠ 0 := by
    rw [hb.val, ← h2]
    exact genP.ne_zero _
  rw [has_iff ha h0 hk, has_iff hb.ok hb0 (k := k + 1) (by rw [hb.val, ← h2])]
  by_cases h : k % 2 = 0
  · rw [decide_eq_true h, decide_eq_false (by omega)]; rfl
  · rw [decide_eq_false h, decide_eq_true (by omega)]; rfl
theorem inv_one {a : E5} (ha : a.ok) : sameE (mulE a (invE a)) (smallE 1) = decide (a.val % Pq ≠ 0) := by
  have v := Vm.self ha
  rw [(v.mul (vm_inv v)).same (vm_small 1)]
  refine decide_eq_decide.2 ?_
  have e1 : (1 : UInt32).toNat % Pq = 1 := by decide
  rw [e1]
  constructor
  · intro h h0
    rw [Nat.mul_mod, h0, Nat.zero_mul, Nat.zero_mod] at h
    cases h
  · exact fun h => genP.inv P3 h
theorem add_neg_mod (n : Nat) : (n + (Pq - n % Pq)) % Pq = 0 % Pq := by
  have h := Nat.mod_lt n Pq_pos
  have e : n + (Pq - n % Pq) = Pq * (n / Pq + 1) := by
    have := Nat.div_add_mod n Pq
    rw [Nat.mul_add]
    omega
  rw [e, Nat.mul_mod_right, Nat.zero_mod]
theorem sub_add_mod (n m : Nat) : (n + (Pq - m % Pq) + m) % Pq = n % Pq := by
  have h := Nat.mod_lt m Pq_pos
  have e : n + (Pq - m % Pq) + m = n + Pq * (m / Pq + 1) := by
    have := Nat.div_add_mod m Pq
    rw [Nat.mul_add]
    omega
  rw [e, Nat.add_mul_mod_self_left]
end Go.Num
