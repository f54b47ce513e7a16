/- Numbers modulo a number whose units are the powers of one: by Pratt's certificates. -/
import Derived.WalkKit
namespace Go.Num
set_option linter.unusedVariables false
set_option linter.unusedSimpArgs false
set_option maxRecDepth 100000
def Irr (q : Nat) : Prop := 1 < q ∧ ∀ d, d ∣ q → d = 1 ∨ d = q
def smallB (q : Nat) : Nat → Nat → Bool
  | 0, _ => false
  | f + 1, d => cond (Nat.ble (q + 1) (d * d)) true (cond (Nat.beq (q % d) 0) false (smallB q f (d + 1)))
theorem smallB_ok (q : Nat) (hq : 1 < q) : ∀ (f d : Nat), 2 ≤ d → (∀ e, 2 ≤ e → e < d → ¬ e ∣ q) → smallB q f d = true → Irr q
  | 0, _, _, _, h => by cases h
  | f + 1, d, hd, hn, h => by
    unfold smallB at h
    cases h1 : Nat.ble (q + 1) (d * d) with
    | true =>
      have h2 := Nat.le_of_ble_eq_true h1
      refine ⟨hq, fun e he => ?_⟩
      by_cases e1 : e = 1
      · exact .inl e1
      by_cases e2 : e = q
      · exact .inr e2
      exfalso
      obtain ⟨c, hc⟩ := he
      have hc0 : c ≠ 0 := fun h0 => by subst h0; omega
      have he0 : e ≠ 0 := fun h0 => by subst h0; omega
      have hc1 : c ≠ 1 := fun h0 => by subst h0; omega
      by_cases h3 : e < d
      · exact hn e (by omega) h3 ⟨c, hc⟩
      · by_cases h4 : c < d
        · exact hn c (by omega) h4 ⟨e, by rw [Nat.mul_comm]; exact hc⟩
        · have : d * d ≤ e * c := Nat.mul_le_mul (by omega) (by omega)
          omega
    | false =>
      rw [h1, cond_false] at h
      cases h2 : Nat.beq (q % d) 0 with
      | true => rw [h2] at h; cases h
      | false =>
        rw [h2, cond_false] at h
        refine smallB_ok q hq f (d + 1) (by omega) (fun e he1 he2 => ?_) h
        by_cases h3 : e = d
        · subst h3
          intro hdv
          have := Nat.mod_eq_zero_of_dvd hdv
          rw [this] at h2
          cases h2
        · exact hn e he1 (by omega)
theorem irr_small (q f : Nat) (hq : Nat.blt 1 q = true) (h : smallB q f 2 = true) : Irr q :=
  smallB_ok q (Nat.le_of_ble_eq_true hq) f 2 (by omega) (fun e h1 h2 => by omega) h

/-! ### powers -/
theorem pow_one_mul {n g a : Nat} (hn : 1 < n) (h : g ^ a % n = 1) (k : Nat) : g ^ (a * k) % n = 1 := by
  rw [Nat.pow_mul, Nat.pow_mod, h, Nat.one_pow]
  exact Nat.mod_eq_of_lt hn
theorem pow_gcd {n g : Nat} (hn : 1 < n) (a b : Nat) : g ^ a % n = 1 → g ^ b % n = 1 → g ^ (Nat.gcd a b) % n = 1 := by
  induction a, b using Nat.gcd.induction with
  | H0 b => intro _ h; rw [Nat.gcd_zero_left]; exact h
  | H1 a b ha ih =>
    intro h1 h2
    rw [Nat.gcd_rec]
    refine ih ?_ h1
    have e : g ^ b = g ^ (a * (b / a)) * g ^ (b % a) := by rw [← Nat.pow_add, Nat.div_add_mod]
    rw [e, Nat.mul_mod, pow_one_mul hn h1, Nat.one_mul, Nat.mod_mod] at h2
    exact h2
def prodQ : List Nat → Nat
  | [] => 1
  | q :: l => q * prodQ l
theorem prodQ_dvd : ∀ {l : List Nat} {q : Nat}, q ∈ l → q ∣ prodQ l
  | x :: l, q, h => by
    rcases List.mem_cons.1 h with rfl | h
    · exact Nat.dvd_mul_right q (prodQ l)
    · exact Nat.dvd_trans (prodQ_dvd h) (Nat.dvd_mul_left _ _)
theorem dvd_less : ∀ (l : List Nat) (g : Nat), (∀ q ∈ l, Irr q) → g ∣ prodQ l → g ≠ prodQ l → ∃ q ∈ l, g ∣ prodQ l / q
  | [], g, _, h, hne => by
    exfalso
    exact hne (Nat.dvd_one.1 h)
  | q :: l, g, hl, h, hne => by
    obtain ⟨hq1, hq2⟩ := hl q (List.mem_cons_self ..)
    have hq0 : 0 < q := by omega
    have hdiv : prodQ (q :: l) / q = prodQ l := Nat.mul_div_cancel_left _ hq0
    rcases hq2 (Nat.gcd g q) (Nat.gcd_dvd_right g q) with e | e
    · refine ⟨q, List.mem_cons_self .., ?_⟩
      rw [hdiv]
      exact Nat.Coprime.dvd_of_dvd_mul_left (k := g) (m := q) e h
    · have hqg : q ∣ g := e ▸ Nat.gcd_dvd_left g q
      obtain ⟨g', rfl⟩ := hqg
      have h1 : g' ∣ prodQ l := Nat.dvd_of_mul_dvd_mul_left hq0 h
      have h2 : g' ≠ prodQ l := fun e => hne (by rw [e]; rfl)
      obtain ⟨r, hr, hd⟩ := dvd_less l g' (fun x hx => hl x (List.mem_cons_of_mem _ hx)) h1 h2
      refine ⟨r, List.mem_cons_of_mem _ hr, ?_⟩
      show q * g' ∣ q * prodQ l / r
      rw [Nat.mul_div_assoc _ (prodQ_dvd hr)]
      exact Nat.mul_dvd_mul_left q hd
theorem pigeon : ∀ (m : Nat) (f : Nat → Nat), (∀ i, i < m → f i < m) → (∀ i j, i < m → j < m → f i = f j → i = j) → ∀ a, a < m → ∃ i, i < m ∧ f i = a
  | 0, _, _, _, a, h => by omega
  | m + 1, f, h1, h2, a, ha => by
    have key := pigeon m (fun i => if f i = m then f m else f i) (fun i hi => by
      show (if f i = m then f m else f i) < m
      split
      · rename_i e
        have := h1 m (by omega)
        have hne : f m ≠ m := fun e2 => by
          have := h2 i m (by omega) (by omega) (by rw [e, e2])
          omega
        omega
      · have := h1 i (by omega)
        omega) (fun i j hi hj he => by
      have he : (if f i = m then f m else f i) = (if f j = m then f m else f j) := he
      split at he <;> split at he
      · rename_i e1 e2
        exact h2 i j (by omega) (by omega) (by rw [e1, e2])
      · have := h2 m j (by omega) (by omega) he
        omega
      · have := h2 i m (by omega) (by omega) he
        omega
      · exact h2 i j (by omega) (by omega) he)
    by_cases e1 : a = f m
    · exact ⟨m, by omega, e1.symm⟩
    by_cases e2 : a = m
    · obtain ⟨i, hi, he⟩ := key (f m) (by have := h1 m (by omega); omega)
      have he : (if f i = m then f m else f i) = f m := he
      split at he
      · rename_i e3
        exact ⟨i, by omega, by rw [e3, e2]⟩
      · have := h2 i m (by omega) (by omega) he
        omega
    · obtain ⟨i, hi, he⟩ := key a (by omega)
      have he : (if f i = m then f m else f i) = a := he
      split at he
      · exact absurd he.symm e1
      · exact ⟨i, by omega, he⟩

/-- What Pratt's certificate shows. -/
structure Gen (n g : Nat) : Prop where
  one : 1 < n
  full : g ^ (n - 1) % n = 1
  ord : ∀ k, g ^ k % n = 1 → (n - 1) ∣ k
theorem gen_of (n g : Nat) (l : List Nat) (hn : 1 < n) (hl : ∀ q ∈ l, Irr q) (hp : prodQ l = n - 1) (h1 : g ^ (n - 1) % n = 1) (h2 : ∀ q ∈ l, g ^ ((n - 1) / q) % n ≠ 1) : Gen n g := by
  refine ⟨hn, h1, fun k hk => ?_⟩
  have hd := pow_gcd hn k (n - 1) hk h1
  by_cases e : Nat.gcd k (n - 1) = n - 1
  · rw [← e]; exact Nat.gcd_dvd_left k (n - 1)
  · exfalso
    obtain ⟨q, hq, c, hc⟩ := dvd_less l (Nat.gcd k (n - 1)) hl (hp ▸ Nat.gcd_dvd_right k (n - 1)) (hp.symm ▸ e)
    rw [hp] at hc
    exact h2 q hq (by rw [hc]; exact pow_one_mul hn hd c)
theorem Gen.ne_zero {n g : Nat} (h : Gen n g) (k : Nat) : g ^ k % n ≠ 0 := fun e => by
  have h1 := pow_one_mul h.one h.full k
  have hn := h.one
  obtain ⟨m, hm⟩ : ∃ m, n - 1 = m + 1 := ⟨n - 2, by omega⟩
  rw [hm, Nat.succ_mul, Nat.pow_add, Nat.mul_mod, e, Nat.mul_zero, Nat.zero_mod] at h1
  cases h1
theorem Gen.inj {n g : Nat} (h : Gen n g) {i j : Nat} (hij : i ≤ j) (hj : j < n - 1) (e : g ^ i % n = g ^ j % n) : i = j := by
  have hn := h.one
  have e2 : g ^ (j - i) % n = 1 := by
    have a1 : (g ^ (n - 1 - i) * g ^ i) % n = (g ^ (n - 1 - i) * g ^ j) % n := by rw [Nat.mul_mod, e, ← Nat.mul_mod]
    rw [← Nat.pow_add, ← Nat.pow_add, show n - 1 - i + i = n - 1 by omega, h.full, show n - 1 - i + j = (n - 1) + (j - i) by omega, Nat.pow_add, Nat.mul_mod, h.full, Nat.one_mul, Nat.mod_mod] at a1
    exact a1.symm
  obtain ⟨c, hc⟩ := h.ord _ e2
  cases c with
  | zero => omega
  | succ c =>
    exfalso
    have : n - 1 ≤ (n - 1) * (c + 1) := Nat.le_mul_of_pos_right _ (by omega)
    omega
theorem Gen.gens {n g : Nat} (h : Gen n g) (a : Nat) (h0 : 0 < a) (ha : a < n) : ∃ i, i < n - 1 ∧ g ^ i % n = a := by
  have hn := h.one
  obtain ⟨i, hi, e⟩ := pigeon (n - 1) (fun i => g ^ i % n - 1) (fun i hi => by
      have := h.ne_zero i
      have := Nat.mod_lt (g ^ i) (show 0 < n by omega)
      show g ^ i % n - 1 < n - 1
      omega) (fun i j hi hj e => by
      have a1 := h.ne_zero i
      have a2 := h.ne_zero j
      have e : g ^ i % n - 1 = g ^ j % n - 1 := e
      rcases Nat.le_total i j with k | k
      · exact h.inj k hj (by omega)
      · exact (h.inj k hi (by omega)).symm) (a - 1) (by omega)
  have e : g ^ i % n - 1 = a - 1 := e
  have := h.ne_zero i
  exact ⟨i, hi, by omega⟩
theorem Gen.irr {n g : Nat} (h : Gen n g) : Irr n := by
  refine ⟨h.one, fun d hd => ?_⟩
  have hn := h.one
  by_cases e1 : d = 1
  · exact .inl e1
  by_cases e2 : d = n
  · exact .inr e2
  exfalso
  obtain ⟨c, hc⟩ := hd
  have hd0 : d ≠ 0 := fun e => by subst e; omega
  have hc0 : c ≠ 0 := fun e => by subst e; omega
  have hc1 : c ≠ 1 := fun e => by subst e; omega
  have hdn : d < n := by rw [hc]; exact (Nat.lt_mul_iff_one_lt_right (by omega)).2 (by omega)
  have hcn : c < n := by rw [hc]; exact (Nat.lt_mul_iff_one_lt_left (by omega)).2 (by omega)
  obtain ⟨i, _, hi⟩ := h.gens d (by omega) hdn
  obtain ⟨j, _, hj⟩ := h.gens c (by omega) hcn
  refine h.ne_zero (i + j) ?_
  rw [Nat.pow_add, Nat.mul_mod, hi, hj, ← hc, Nat.mod_self]

/-! ### computing powers -/
def pwB (n a x : Nat) : List Bool → Nat
  | [] => x
  | b :: l => pwB n a (cond b (x * x % n * a % n) (x * x % n)) l
def bN (k : Nat) : List Bool → Nat
  | [] => k
  | b :: l => bN (cond b (k + k + 1) (k + k)) l
theorem pwB_val (n a : Nat) : ∀ (l : List Bool) (x k : Nat), x = a ^ k % n → pwB n a x l = a ^ (bN k l) % n
  | [], x, k, h => h
  | b :: l, x, k, h => by
    unfold pwB bN
    refine pwB_val n a l _ _ ?_
    have e : x * x % n = a ^ (k + k) % n := by rw [h, Nat.pow_add, ← Nat.mul_mod]
    cases b with
    | false => exact e
    | true =>
      show x * x % n * a % n = a ^ (k + k + 1) % n
      rw [e, Nat.pow_succ, Nat.mod_mul_mod]
def bitsOf (e : Nat) : List Bool := (List.range 256).map fun i => e.testBit (255 - i)
def pwE (n a e : Nat) : Nat := pwB n a 1 (bitsOf e)
theorem pwE_val {n a e : Nat} (hn : 1 < n) (h : bN 0 (bitsOf e) = e) : a ^ e % n = pwE n a e := by
  have := pwB_val n a (bitsOf e) 1 0 (by rw [Nat.pow_zero]; exact (Nat.mod_eq_of_lt hn).symm)
  unfold pwE
  rw [this, h]
def certB (n g : Nat) (l : List Nat) : Bool :=
  Nat.blt 1 n && (Nat.beq (prodQ l) (n - 1) && (Nat.beq (bN 0 (bitsOf (n - 1))) (n - 1) && (Nat.beq (pwE n g (n - 1)) 1 && l.all fun q => Nat.beq (bN 0 (bitsOf ((n - 1) / q))) ((n - 1) / q) && !Nat.beq (pwE n g ((n - 1) / q)) 1)))
theorem gen_cert (n g : Nat) (l : List Nat) (hl : ∀ q ∈ l, Irr q) (h : certB n g l = true) : Gen n g := by
  unfold certB at h
  simp only [Bool.and_eq_true, List.all_eq_true, Bool.not_eq_true'] at h
  obtain ⟨h1, h2, h3, h4, h5⟩ := h
  have hn : 1 < n := Nat.le_of_ble_eq_true h1
  refine gen_of n g l hn hl (Nat.eq_of_beq_eq_true h2) ?_ fun q hq => ?_
  · rw [pwE_val hn (Nat.eq_of_beq_eq_true h3)]
    exact Nat.eq_of_beq_eq_true h4
  · obtain ⟨a, b⟩ := h5 q hq
    rw [pwE_val hn (Nat.eq_of_beq_eq_true a)]
    intro e
    rw [e] at b
    cases b
theorem gen8574133 : Gen 8574133 2 := gen_cert 8574133 2 [2, 2, 3, 7, 103, 991] (fun q hq => by
  simp only [List.mem_cons, List.mem_nil_iff, or_false] at hq
  rcases hq with rfl | rfl | rfl | rfl | rfl | rfl
  · exact (irr_small 2 2000 rfl (by kernel_rfl))
  · exact (irr_small 2 2000 rfl (by kernel_rfl))
  · exact (irr_small 3 2000 rfl (by kernel_rfl))
  · exact (irr_small 7 2000 rfl (by kernel_rfl))
  · exact (irr_small 103 2000 rfl (by kernel_rfl))
  · exact (irr_small 991 2000 rfl (by kernel_rfl))
  ) (by kernel_rfl)
theorem irr8574133 : Irr 8574133 := gen8574133.irr
theorem gen1919519569386763 : Gen 1919519569386763 2 := gen_cert 1919519569386763 2 [2, 3, 7, 19, 47, 47, 127, 8574133] (fun q hq => by
  simp only [List.mem_cons, List.mem_nil_iff, or_false] at hq
  rcases hq with rfl | rfl | rfl | rfl | rfl | rfl | rfl | rfl
  · exact (irr_small 2 2000 rfl (by kernel_rfl))
  · exact (irr_small 3 2000 rfl (by kernel_rfl))
  · exact (irr_small 7 2000 rfl (by kernel_rfl))
  · exact (irr_small 19 2000 rfl (by kernel_rfl))
  · exact (irr_small 47 2000 rfl (by kernel_rfl))
  · exact (irr_small 47 2000 rfl (by kernel_rfl))
  · exact (irr_small 127 2000 rfl (by kernel_rfl))
  · exact (irr8574133)
  ) (by kernel_rfl)
theorem irr1919519569386763 : Irr 1919519569386763 := gen1919519569386763.irr
theorem gen2773320623 : Gen 2773320623 5 := gen_cert 2773320623 5 [2, 2437, 569003] (fun q hq => by
  simp only [List.mem_cons, List.mem_nil_iff, or_false] at hq
  rcases hq with rfl | rfl | rfl
  · exact (irr_small 2 2000 rfl (by kernel_rfl))
  · exact (irr_small 2437 2000 rfl (by kernel_rfl))
  · exact (irr_small 569003 2000 rfl (by kernel_rfl))
  ) (by kernel_rfl)
theorem irr2773320623 : Irr 2773320623 := gen2773320623.irr
theorem gen72106336199 : Gen 72106336199 7 := gen_cert 72106336199 7 [2, 13, 2773320623] (fun q hq => by
  simp only [List.mem_cons, List.mem_nil_iff, or_false] at hq
  rcases hq with rfl | rfl | rfl
  · exact (irr_small 2 2000 rfl (by kernel_rfl))
  · exact (irr_small 13 2000 rfl (by kernel_rfl))
  · exact (irr2773320623)
  ) (by kernel_rfl)
theorem irr72106336199 : Irr 72106336199 := gen72106336199.irr
theorem gen75445702479781427272750846543864801 : Gen 75445702479781427272750846543864801 7 := gen_cert 75445702479781427272750846543864801 7 [2, 2, 2, 2, 2, 3, 3, 5, 5, 75707, 72106336199, 1919519569386763] (fun q hq => by
  simp only [List.mem_cons, List.mem_nil_iff, or_false] at hq
  rcases hq with rfl | rfl | rfl | rfl | rfl | rfl | rfl | rfl | rfl | rfl | rfl | rfl
  · exact (irr_small 2 2000 rfl (by kernel_rfl))
  · exact (irr_small 2 2000 rfl (by kernel_rfl))
  · exact (irr_small 2 2000 rfl (by kernel_rfl))
  · exact (irr_small 2 2000 rfl (by kernel_rfl))
  · exact (irr_small 2 2000 rfl (by kernel_rfl))
  · exact (irr_small 3 2000 rfl (by kernel_rfl))
  · exact (irr_small 3 2000 rfl (by kernel_rfl))
  · exact (irr_small 5 2000 rfl (by kernel_rfl))
  · exact (irr_small 5 2000 rfl (by kernel_rfl))
  · exact (irr_small 75707 2000 rfl (by kernel_rfl))
  · exact (irr72106336199)
  · exact (irr1919519569386763)
  ) (by kernel_rfl)
theorem irr75445702479781427272750846543864801 : Irr 75445702479781427272750846543864801 := gen75445702479781427272750846543864801.irr
theorem gen31757755568855353 : Gen 31757755568855353 10 := gen_cert 31757755568855353 10 [2, 2, 2, 3, 31, 107, 223, 4153, 430751] (fun q hq => by
  simp only [List.mem_cons, List.mem_nil_iff, or_false] at hq
  rcases hq with rfl | rfl | rfl | rfl | rfl | rfl | rfl | rfl | rfl
  · exact (irr_small 2 2000 rfl (by kernel_rfl))
  · exact (irr_small 2 2000 rfl (by kernel_rfl))
  · exact (irr_small 2 2000 rfl (by kernel_rfl))
  · exact (irr_small 3 2000 rfl (by kernel_rfl))
  · exact (irr_small 31 2000 rfl (by kernel_rfl))
  · exact (irr_small 107 2000 rfl (by kernel_rfl))
  · exact (irr_small 223 2000 rfl (by kernel_rfl))
  · exact (irr_small 4153 2000 rfl (by kernel_rfl))
  · exact (irr_small 430751 2000 rfl (by kernel_rfl))
  ) (by kernel_rfl)
theorem irr31757755568855353 : Irr 31757755568855353 := gen31757755568855353.irr
theorem gen74058212732561358302231226437062788676166966415465897661863160754340907 : Gen 74058212732561358302231226437062788676166966415465897661863160754340907 2 := gen_cert 74058212732561358302231226437062788676166966415465897661863160754340907 2 [2, 3, 353, 57467, 132049, 1923133, 31757755568855353, 75445702479781427272750846543864801] (fun q hq => by
  simp only [List.mem_cons, List.mem_nil_iff, or_false] at hq
  rcases hq with rfl | rfl | rfl | rfl | rfl | rfl | rfl | rfl
  · exact (irr_small 2 2000 rfl (by kernel_rfl))
  · exact (irr_small 3 2000 rfl (by kernel_rfl))
  · exact (irr_small 353 2000 rfl (by kernel_rfl))
  · exact (irr_small 57467 2000 rfl (by kernel_rfl))
  · exact (irr_small 132049 2000 rfl (by kernel_rfl))
  · exact (irr_small 1923133 2000 rfl (by kernel_rfl))
  · exact (irr31757755568855353)
  · exact (irr75445702479781427272750846543864801)
  ) (by kernel_rfl)
theorem irr74058212732561358302231226437062788676166966415465897661863160754340907 : Irr 74058212732561358302231226437062788676166966415465897661863160754340907 := gen74058212732561358302231226437062788676166966415465897661863160754340907.irr
theorem gen57896044618658097711785492504343953926634992332820282019728792003956564819949 : Gen 57896044618658097711785492504343953926634992332820282019728792003956564819949 2 := gen_cert 57896044618658097711785492504343953926634992332820282019728792003956564819949 2 [2, 2, 3, 65147, 74058212732561358302231226437062788676166966415465897661863160754340907] (fun q hq => by
  simp only [List.mem_cons, List.mem_nil_iff, or_false] at hq
  rcases hq with rfl | rfl | rfl | rfl | rfl
  · exact (irr_small 2 2000 rfl (by kernel_rfl))
  · exact (irr_small 2 2000 rfl (by kernel_rfl))
  · exact (irr_small 3 2000 rfl (by kernel_rfl))
  · exact (irr_small 65147 2000 rfl (by kernel_rfl))
  · exact (irr74058212732561358302231226437062788676166966415465897661863160754340907)
  ) (by kernel_rfl)
theorem irr57896044618658097711785492504343953926634992332820282019728792003956564819949 : Irr 57896044618658097711785492504343953926634992332820282019728792003956564819949 := gen57896044618658097711785492504343953926634992332820282019728792003956564819949.irr
end Go.Num
