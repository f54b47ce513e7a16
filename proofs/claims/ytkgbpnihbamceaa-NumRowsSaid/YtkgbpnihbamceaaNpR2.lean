/- The law on rows of calls. -/
import Derived.Test.YtkgbpnihbamceaaNpR1
import Derived.Test.YtkgbpnihbamceaaEng30
namespace Go.Proofs.Ytkgbpnihbamceaa
set_option linter.unusedVariables false
set_option linter.unusedSimpArgs false
open Go Go.Eng Go.Num
set_option maxRecDepth 100000
set_option maxHeartbeats 1000000
set_option linter.unusedSimpArgs false
set_option linter.unusedVariables false
theorem gl0 : Try.prog.globals.size = 0 := by kernel_rfl
theorem ok6 (s : List UInt8) (n : Nat) (l : List St) (a : E5) (x : N16) (i : Int) : okS Try.prog (S6 s n (l.flatMap St.cells) false a x i) = true := by
  have h : ∀ (m : Nat) (l : List St), ltL m (l.flatMap St.cells) = true := fun m l => by
    induction l with
    | nil => rfl
    | cons y l ih => simp [List.flatMap_cons, St.cells, ltL, ltS, ih]
  simp [okS, gl0, S6, ltT, ltH, ltV, ltS, ltL, h, E5.cells, N16.cells, nble]
def itE (y : St) (a : E5) : E5 := stE realFs y.d a (ofEl y.s)
def itN (y : St) (x : N16) : N16 := stN realFs y.d x (cond (isLen y.s 32) (ofP y.s) zeroN)
theorem rel_step {y : St} {a : E5} {x : N16} (h : Rel a x) : Rel (itE y a) (itN y x) := by
  have hw : Rel (ofEl y.s) (cond (isLen y.s 32) (ofP y.s) zeroN) := by
    cases hs : isLen y.s 32
    · have : ofEl y.s = zeroE := by unfold ofEl; rw [hs]; rfl
      rw [this]; exact rel_zero
    · exact rel_of hs
  unfold itE itN stE stN
  simp only [realFs]
  generalize (cond (isLen y.s 32) (ofP y.s) zeroN) = w at hw
  cases y.d == 1
  · cases y.d == 2
    · cases y.d == 3
      · cases y.d == 4
        · exact rel_add h hw
        · exact rel_mul h h
      · exact rel_neg h
    · exact rel_mul h hw
  · exact rel_sub h hw
theorem rnd6 (s : List UInt8) (l : List St) (a a0 : E5) (x x0 : N16) (j : Int) (i : Nat) (y : St) (h : Rel a x) (hy : l[i]? = some y) (hl : l.length ≤ 100) :
    roundA (evC Try.prog (nl realFs) Try.f6.ntmps (mask 6) 1000 1 b6) (headA Try.prog 1 (S6 s l.length (l.flatMap St.cells) false a0 x0 j)) (S6 s l.length (l.flatMap St.cells) false a x i) = some (S6 s l.length (l.flatMap St.cells) false (itE y a) (itN y x) ((i + 1 : Nat) : Int)) := by
  have hi : i < l.length := (List.getElem?_eq_some_iff.1 hy).1
  have hw : IntKind.wrap .i64 ((i : Int) + 1) = ((i + 1 : Nat) : Int) := wrapI _ (by omega) (by omega)
  obtain ⟨d, e⟩ := y
  have c1 : isAt (l.flatMap St.cells) (0 + Int.toNat (i : Int) * 2 + 1) (.str e) = true := isAt_of (by
    rw [Nat.zero_add]
    exact flatMap_at (k := 2) (fun _ => rfl) hy (by omega)) (by simp [eqS])
  have c0 : isAt (l.flatMap St.cells) (0 + Int.toNat (i : Int) * 2 + 0) (.int .i64 d) = true := isAt_of (by
    rw [Nat.zero_add]
    exact flatMap_at (k := 2) (fun _ => rfl) hy (by omega)) (by simp [eqS])
  have d1 : decide ((0 : Int) ≤ (i : Int)) = true := by rw [decide_eq_true_iff]; omega
  have d2 : decide ((i : Int) < (l.length : Int)) = true := by rw [decide_eq_true_iff]; omega
  have hr := rel_step (y := ⟨d, e⟩) h
  have o1 := okB_iff.2 h.okP
  have hb := hr.bytes
  rw [← hw]
  generalize hc : l.flatMap St.cells = c at c1 c0
  have ho : ∀ A X, okS Try.prog (S6 s l.length c false A X (IntKind.wrap .i64 ((i : Int) + 1))) = true := fun A X => by rw [← hc]; exact ok6 _ _ _ _ _ _
  have c1n : isAt c (i * 2 + 1) (.str e) = true := by have := c1; rwa [Nat.zero_add] at this
  have c0n : isAt c (i * 2) (.int .i64 d) = true := by have := c0; rwa [Nat.zero_add] at this
  cases hs : isLen e 32
  · have ow := okB_iff.2 zeroN_ok
    cases h1 : (d == 1)
    rotate_left
    · have e1 : itE ⟨d, e⟩ a = subE a (ofEl e) := by simp [itE, stE, realFs, h1]
      have e2 : itN ⟨d, e⟩ x = subP x (zeroN) := by simp [itN, stN, realFs, hs, h1]
      rw [e1, e2] at hb ⊢
      cases hm : (Int.tmod (i : Int) 8 == 7)
      · exact roundO2_ok (nl_ps _) (r6f1f realFs s e l.length c d i j a a0 x x0) (by simp [allT, realFs, c1n, c0n, hi, ofEr_eq, hs, o1, ow, h1, hm, hb]) (ho _ _)
      · exact roundO2_ok (nl_ps _) (r6f1t realFs s e l.length c d i j a a0 x x0) (by simp [allT, realFs, c1n, c0n, hi, ofEr_eq, hs, o1, ow, h1, hm, hb]) (ho _ _)
    cases h2 : (d == 2)
    rotate_left
    · have e1 : itE ⟨d, e⟩ a = mulE a (ofEl e) := by simp [itE, stE, realFs, h1, h2]
      have e2 : itN ⟨d, e⟩ x = mulP x (zeroN) := by simp [itN, stN, realFs, hs, h1, h2]
      rw [e1, e2] at hb ⊢
      cases hm : (Int.tmod (i : Int) 8 == 7)
      · exact roundO2_ok (nl_ps _) (r6f2f realFs s e l.length c d i j a a0 x x0) (by simp [allT, realFs, c1n, c0n, hi, ofEr_eq, hs, o1, ow, h1, h2, hm, hb]) (ho _ _)
      · exact roundO2_ok (nl_ps _) (r6f2t realFs s e l.length c d i j a a0 x x0) (by simp [allT, realFs, c1n, c0n, hi, ofEr_eq, hs, o1, ow, h1, h2, hm, hb]) (ho _ _)
    cases h3 : (d == 3)
    rotate_left
    · have e1 : itE ⟨d, e⟩ a = negE a := by simp [itE, stE, realFs, h1, h2, h3]
      have e2 : itN ⟨d, e⟩ x = negP x := by simp [itN, stN, realFs, hs, h1, h2, h3]
      rw [e1, e2] at hb ⊢
      cases hm : (Int.tmod (i : Int) 8 == 7)
      · exact roundO2_ok (nl_ps _) (r6f3f realFs s e l.length c d i j a a0 x x0) (by simp [allT, realFs, c1n, c0n, hi, ofEr_eq, hs, o1, ow, h1, h2, h3, hm, hb]) (ho _ _)
      · exact roundO2_ok (nl_ps _) (r6f3t realFs s e l.length c d i j a a0 x x0) (by simp [allT, realFs, c1n, c0n, hi, ofEr_eq, hs, o1, ow, h1, h2, h3, hm, hb]) (ho _ _)
    cases h4 : (d == 4)
    rotate_left
    · have e1 : itE ⟨d, e⟩ a = mulE a a := by simp [itE, stE, realFs, h1, h2, h3, h4]
      have e2 : itN ⟨d, e⟩ x = mulP x x := by simp [itN, stN, realFs, hs, h1, h2, h3, h4]
      rw [e1, e2] at hb ⊢
      cases hm : (Int.tmod (i : Int) 8 == 7)
      · exact roundO2_ok (nl_ps _) (r6f4f realFs s e l.length c d i j a a0 x x0) (by simp [allT, realFs, c1n, c0n, hi, ofEr_eq, hs, o1, ow, h1, h2, h3, h4, hm, hb]) (ho _ _)
      · exact roundO2_ok (nl_ps _) (r6f4t realFs s e l.length c d i j a a0 x x0) (by simp [allT, realFs, c1n, c0n, hi, ofEr_eq, hs, o1, ow, h1, h2, h3, h4, hm, hb]) (ho _ _)
    · have e1 : itE ⟨d, e⟩ a = addE a (ofEl e) := by simp [itE, stE, realFs, h1, h2, h3, h4]
      have e2 : itN ⟨d, e⟩ x = addP x (zeroN) := by simp [itN, stN, realFs, hs, h1, h2, h3, h4]
      rw [e1, e2] at hb ⊢
      cases hm : (Int.tmod (i : Int) 8 == 7)
      · exact roundO2_ok (nl_ps _) (r6f0f realFs s e l.length c d i j a a0 x x0) (by simp [allT, realFs, c1n, c0n, hi, ofEr_eq, hs, o1, ow, h1, h2, h3, h4, hm, hb]) (ho _ _)
      · exact roundO2_ok (nl_ps _) (r6f0t realFs s e l.length c d i j a a0 x x0) (by simp [allT, realFs, c1n, c0n, hi, ofEr_eq, hs, o1, ow, h1, h2, h3, h4, hm, hb]) (ho _ _)
  · have ow := okB_iff.2 (rel_of hs).okP
    cases h1 : (d == 1)
    rotate_left
    · have e1 : itE ⟨d, e⟩ a = subE a (ofEl e) := by simp [itE, stE, realFs, h1]
      have e2 : itN ⟨d, e⟩ x = subP x (ofP e) := by simp [itN, stN, realFs, hs, h1]
      rw [e1, e2] at hb ⊢
      cases hm : (Int.tmod (i : Int) 8 == 7)
      · exact roundO2_ok (nl_ps _) (r6t1f realFs s e l.length c d i j a a0 x x0) (by simp [allT, realFs, c1n, c0n, hi, ofEr_eq, hs, o1, ow, h1, hm, hb]) (ho _ _)
      · exact roundO2_ok (nl_ps _) (r6t1t realFs s e l.length c d i j a a0 x x0) (by simp [allT, realFs, c1n, c0n, hi, ofEr_eq, hs, o1, ow, h1, hm, hb]) (ho _ _)
    cases h2 : (d == 2)
    rotate_left
    · have e1 : itE ⟨d, e⟩ a = mulE a (ofEl e) := by simp [itE, stE, realFs, h1, h2]
      have e2 : itN ⟨d, e⟩ x = mulP x (ofP e) := by simp [itN, stN, realFs, hs, h1, h2]
      rw [e1, e2] at hb ⊢
      cases hm : (Int.tmod (i : Int) 8 == 7)
      · exact roundO2_ok (nl_ps _) (r6t2f realFs s e l.length c d i j a a0 x x0) (by simp [allT, realFs, c1n, c0n, hi, ofEr_eq, hs, o1, ow, h1, h2, hm, hb]) (ho _ _)
      · exact roundO2_ok (nl_ps _) (r6t2t realFs s e l.length c d i j a a0 x x0) (by simp [allT, realFs, c1n, c0n, hi, ofEr_eq, hs, o1, ow, h1, h2, hm, hb]) (ho _ _)
    cases h3 : (d == 3)
    rotate_left
    · have e1 : itE ⟨d, e⟩ a = negE a := by simp [itE, stE, realFs, h1, h2, h3]
      have e2 : itN ⟨d, e⟩ x = negP x := by simp [itN, stN, realFs, hs, h1, h2, h3]
      rw [e1, e2] at hb ⊢
      cases hm : (Int.tmod (i : Int) 8 == 7)
      · exact roundO2_ok (nl_ps _) (r6t3f realFs s e l.length c d i j a a0 x x0) (by simp [allT, realFs, c1n, c0n, hi, ofEr_eq, hs, o1, ow, h1, h2, h3, hm, hb]) (ho _ _)
      · exact roundO2_ok (nl_ps _) (r6t3t realFs s e l.length c d i j a a0 x x0) (by simp [allT, realFs, c1n, c0n, hi, ofEr_eq, hs, o1, ow, h1, h2, h3, hm, hb]) (ho _ _)
    cases h4 : (d == 4)
    rotate_left
    · have e1 : itE ⟨d, e⟩ a = mulE a a := by simp [itE, stE, realFs, h1, h2, h3, h4]
      have e2 : itN ⟨d, e⟩ x = mulP x x := by simp [itN, stN, realFs, hs, h1, h2, h3, h4]
      rw [e1, e2] at hb ⊢
      cases hm : (Int.tmod (i : Int) 8 == 7)
      · exact roundO2_ok (nl_ps _) (r6t4f realFs s e l.length c d i j a a0 x x0) (by simp [allT, realFs, c1n, c0n, hi, ofEr_eq, hs, o1, ow, h1, h2, h3, h4, hm, hb]) (ho _ _)
      · exact roundO2_ok (nl_ps _) (r6t4t realFs s e l.length c d i j a a0 x x0) (by simp [allT, realFs, c1n, c0n, hi, ofEr_eq, hs, o1, ow, h1, h2, h3, h4, hm, hb]) (ho _ _)
    · have e1 : itE ⟨d, e⟩ a = addE a (ofEl e) := by simp [itE, stE, realFs, h1, h2, h3, h4]
      have e2 : itN ⟨d, e⟩ x = addP x (ofP e) := by simp [itN, stN, realFs, hs, h1, h2, h3, h4]
      rw [e1, e2] at hb ⊢
      cases hm : (Int.tmod (i : Int) 8 == 7)
      · exact roundO2_ok (nl_ps _) (r6t0f realFs s e l.length c d i j a a0 x x0) (by simp [allT, realFs, c1n, c0n, hi, ofEr_eq, hs, o1, ow, h1, h2, h3, h4, hm, hb]) (ho _ _)
      · exact roundO2_ok (nl_ps _) (r6t0t realFs s e l.length c d i j a a0 x x0) (by simp [allT, realFs, c1n, c0n, hi, ofEr_eq, hs, o1, ow, h1, h2, h3, h4, hm, hb]) (ho _ _)
def accE (a : E5) (l : List St) : Nat → E5
  | 0 => a
  | j + 1 => itE (l.getD j ⟨0, []⟩) (accE a l j)
def accN (x : N16) (l : List St) : Nat → N16
  | 0 => x
  | j + 1 => itN (l.getD j ⟨0, []⟩) (accN x l j)
theorem acc_rel {a : E5} {x : N16} (h : Rel a x) (l : List St) : ∀ j, Rel (accE a l j) (accN x l j)
  | 0 => h
  | j + 1 => rel_step (acc_rel h l j)
theorem pre6 (φ : Fs) (s : List UInt8) (n : Nat) (c : List AVal) : segO (evSO Try.prog (psnl φ) (nl φ) [16, 22, 26] Try.f6.ntmps (mask 6) 1000 1 (p6.take 6) ⟨startT [.str s, .slice 0 0 n 2] 0, [(0, .cells true c)], 1⟩ ⟨[true, false], [], []⟩) = some (S6 s n c false (φ.of s) (φ.ofN s) 0, [φ.l32 s, !decide ((100 : Int) < (n : Int)), φ.ofB s]) := by kernel_rfl
theorem end6 (φ : Fs) (s : List UInt8) (n : Nat) (c : List AVal) (a : E5) (x : N16) (i : Int) : endO Try.prog (psnl φ) (nl φ) [30, 102] Try.f6 (mask 6) 1000 1 0 b6 (p6.drop 7) (S6 s n c false a x i) ⟨[false, true], [], []⟩ = some (.bool true, [φ.is a x, !decide (i < (n : Int))]) := by kernel_rfl
theorem w6a (φ : Fs) (s : List UInt8) (n : Nat) (c : List AVal) : ansO (run1O Try.prog (psnl φ) (nl φ) [16] [false] [] (mask 6) 1000 6 [.str s, .slice 0 0 n 2] [(0, .cells true c)] 1) = some (.bool true, [!φ.ofB s]) := by kernel_rfl
theorem w6b (φ : Fs) (s : List UInt8) (n : Nat) (c : List AVal) : ansO (run1O Try.prog (psnl φ) (nl φ) [16, 22] [true, true] [] (mask 6) 1000 6 [.str s, .slice 0 0 n 2] [(0, .cells true c)] 1) = some (.bool true, [decide ((100 : Int) < (n : Int)), φ.ofB s]) := by kernel_rfl
theorem run6 (s : List UInt8) (l : List St) : (run1 Try.prog (nl realFs) (mask 6) 1000 6 [.str s, .slice 0 0 l.length 2] [(0, .cells true (l.flatMap St.cells))] 1).map (·.1) = some (.bool true) := by
  cases hs : isLen s 32
  · exact ansO_run (nl_ps _) (w6a realFs s l.length _) (by simp [allT, realFs, ofEr_eq, hs])
  by_cases hl : l.length ≤ 100
  rotate_left
  · exact ansO_run (nl_ps _) (w6b realFs s l.length _) (by
      have : decide ((100 : Int) < (l.length : Int)) = true := by rw [decide_eq_true_iff]; omega
      simp [allT, realFs, ofEr_eq, hs, this])
  have r := rel_of hs
  have hz := (acc_rel r l l.length).bytes
  refine run_loopO (nl_ps _) (fn := Try.f6) (c := bodyOf Try.f6) (by kernel_rfl) (by kernel_rfl) (by kernel_rfl) 6 (id := 0) (b := b6) (by kernel_rfl) (fun j => S6 s l.length (l.flatMap St.cells) false (accE (ofEl s) l j) (accN (ofP s) l j) j) l.length (pre6 realFs s l.length _) ?_ (fun j hj => ?_) (end6 realFs s l.length _ _ _ _) ?_ (by omega)
  · have : decide ((100 : Int) < (l.length : Int)) = false := by rw [decide_eq_false_iff_not]; omega
    simp [allT, realFs, ofEr_eq, hs, this]
  · have hj2 : l[j]? = some (l.getD j ⟨0, []⟩) := by rw [List.getD_eq_getElem?_getD, List.getElem?_eq_getElem hj]; rfl
    exact rnd6 s l _ _ _ _ _ j _ (acc_rel r l j) hj2 hl
  · have : decide ((l.length : Int) < (l.length : Int)) = false := by rw [decide_eq_false_iff_not]; omega
    simp [allT, realFs, this, hz]
theorem w6n0 (φ : Fs) (s : List UInt8) : ansO (run1O Try.prog (psnl φ) (nl φ) [16, 26, 102] [true, true] [] (mask 6) 1000 6 [.str s, .nilSlice] [] 0) = some (.bool true, [φ.is (φ.of s) (φ.ofN s), φ.l32 s, φ.ofB s]) := by kernel_rfl
theorem w6n1 (φ : Fs) (s : List UInt8) : ansO (run1O Try.prog (psnl φ) (nl φ) [16] [false] [] (mask 6) 1000 6 [.str s, .nilSlice] [] 0) = some (.bool true, [!φ.ofB s]) := by kernel_rfl
theorem w6e0 (φ : Fs) (s : List UInt8) : ansO (run1O Try.prog (psnl φ) (nl φ) [16, 26, 102] [true, true] [] (mask 6) 1000 6 [.str s, .slice 0 0 0 2] [] 1) = some (.bool true, [φ.is (φ.of s) (φ.ofN s), φ.l32 s, φ.ofB s]) := by kernel_rfl
theorem w6e1 (φ : Fs) (s : List UInt8) : ansO (run1O Try.prog (psnl φ) (nl φ) [16] [false] [] (mask 6) 1000 6 [.str s, .slice 0 0 0 2] [] 1) = some (.bool true, [!φ.ofB s]) := by kernel_rfl
theorem run6n (s : List UInt8) : (run1 Try.prog (nl realFs) (mask 6) 1000 6 [.str s, .nilSlice] [] 0).map (·.1) = some (.bool true) := by
  cases hs : isLen s 32
  · exact ansO_run (nl_ps _) (w6n1 realFs s) (by simp [allT, realFs, ofEr_eq, hs])
  · exact ansO_run (nl_ps _) (w6n0 realFs s) (by
      have := (rel_of hs).bytes
      simp [allT, realFs, ofEr_eq, hs, this])
theorem run6e (s : List UInt8) : (run1 Try.prog (nl realFs) (mask 6) 1000 6 [.str s, .slice 0 0 0 2] [] 1).map (·.1) = some (.bool true) := by
  cases hs : isLen s 32
  · exact ansO_run (nl_ps _) (w6e1 realFs s) (by simp [allT, realFs, ofEr_eq, hs])
  · exact ansO_run (nl_ps _) (w6e0 realFs s) (by
      have := (rel_of hs).bytes
      simp [allT, realFs, ofEr_eq, hs, this])
end Go.Proofs.Ytkgbpnihbamceaa
