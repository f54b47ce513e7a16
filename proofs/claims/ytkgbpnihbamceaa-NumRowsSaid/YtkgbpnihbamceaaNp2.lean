/- Numbers modulo 2^255 - 19: the program's powers and roots. -/
import Derived.Test.YtkgbpnihbamceaaNp1
namespace Go.Proofs.Ytkgbpnihbamceaa
set_option linter.unusedVariables false
set_option linter.unusedSimpArgs false
open Go Go.Eng Go.Num
set_option maxRecDepth 100000
set_option maxHeartbeats 1000000
set_option linter.unusedSimpArgs false
set_option linter.unusedVariables false
def Ssq (a0 a : E5) (n k : Int) : SA := ⟨[(0, a0.av), (1, .int .i64 n), (2, .ptr 0 0), (4, .ptr 8 0), (5, .int .i64 n), (6, .int .i64 k)], [(0, .cells false a.cells), (8, .cells false zeroE.cells)], 32⟩
noncomputable def bsq : Code := loopOf ((pieces (bodyOf Try.f36)).getD 2 .skip)
theorem rndsq (F : Nat) (a0 a b : E5) (n k j : Int) : roundO Try.prog noPS nc4 [7] [true] [] 13 (mask 36) F Try.prog.globals.size bsq (Ssq a0 b n j) (Ssq a0 a n k) = some (Ssq a0 (mulE a a) n (IntKind.wrap .i64 (k + 1)), [decide (k < n)]) := by kernel_rfl
theorem endsq (F : Nat) (a0 a : E5) (n : Int) (os : List Bool) (k : Int) : (match evT Try.prog noPS nc4 [7] 13 (mask 36) F Try.prog.globals.size bsq (Ssq a0 a n k) ⟨[false], [], []⟩ with | some (.exit 0, s1, q) => (finV Try.prog Try.f36 (evS Try.prog nc4 13 (mask 36) F Try.prog.globals.size ((pieces (bodyOf Try.f36)).drop 3) s1)).map fun v => (v, q.ob) | _ => none) = some (a.av, [!decide (k < n)]) := by kernel_rfl
theorem presq (F : Nat) (a : E5) (n : Int) : evS Try.prog nc4 13 (mask 36) F Try.prog.globals.size ((pieces (bodyOf Try.f36)).take 2) ⟨startT [a.av, .int .i64 n] 0, [], Try.prog.globals.size⟩ = some (.normal, Ssq a a n 0) := by kernel_rfl
def accsq (a : E5) : Nat → E5
  | 0 => a
  | j + 1 => mulE (accsq a j) (accsq a j)
theorem accsq_shift (a : E5) : ∀ j, accsq a (j + 1) = accsq (mulE a a) j
  | 0 => rfl
  | j + 1 => by
    have := accsq_shift a j
    simp only [accsq] at this ⊢
    rw [this]
theorem accsq_eq : ∀ (n : Nat) (a : E5), accsq a n = sqE a n
  | 0, _ => rfl
  | n + 1, a => by rw [accsq_shift, accsq_eq n]; rfl
theorem run36 (a : E5) (n : Nat) (hn : n < 1000) : (run1 Try.prog nc4 (mask 36) 1000 36 [a.av, .int .i64 (n : Int)] [] Try.prog.globals.size).map (·.1) = some (sqE a n).av := by
  have he := endsq 1000 a (accsq a n) n [] n
  split at he
  · rename_i s1 q h1
    cases hv : finV Try.prog Try.f36 (evS Try.prog nc4 13 (mask 36) 1000 Try.prog.globals.size ((pieces (bodyOf Try.f36)).drop 3) s1) with
    | none => rw [hv] at he; cases he
    | some v =>
      rw [hv] at he
      simp only [Option.map_some, Option.some.injEq, Prod.mk.injEq] at he
      obtain ⟨rfl, hq⟩ := he
      rw [accsq_eq] at hv
      refine run_loop (fn := Try.f36) (c := bodyOf Try.f36) (by kernel_rfl) (by kernel_rfl) (by kernel_rfl) 2 (id := 0) (b := bsq) (by kernel_rfl) (fun j => Ssq a (accsq a j) n j) n (presq 1000 a n) (fun j hj => ?_) (s1 := s1) ?_ hn hv
      · have hw : IntKind.wrap .i64 ((j : Int) + 1) = ((j + 1 : Nat) : Int) := wrapI _ (by omega) (by omega)
        have := roundO_ok (noPS_ok _) (rndsq 1000 a (accsq a j) (accsq a 0) n j ((0 : Nat) : Int)) (by simp [allT]; omega)
        rw [hw] at this
        exact this
      · exact (evT_ok (noPS_ok _) _ _ _ _ _ _ h1 (by rw [hq]; simp [allT])).1
  · cases he
def g36 : List AVal → Option EffA
  | [.agg [.u64 a0, .u64 a1, .u64 a2, .u64 a3, .u64 a4], .int .i64 (.ofNat n)] => cond (Nat.ble n 999) (some (.pure (sqE ⟨a0, a1, a2, a3, a4⟩ n).av)) none
  | _ => none
theorem g36_ok : CSOk Try.prog (csOne 36 g36) := csOne_ok fun args e he => by
  unfold g36 at he
  split at he
  · rename_i a0 a1 a2 a3 a4 n
    cases hb : Nat.ble n 999 <;> rw [hb] at he <;> simp only [cond_true, cond_false] at he
    · cases he
    · cases he
      have := Nat.le_of_ble_eq_true hb
      exact callOk_val nc4_ok hmix (run36 ⟨a0, a1, a2, a3, a4⟩ n (by omega)) rfl rfl
  · cases he
def nc5 : CS := (csAlt (csOne 36 g36) (csAlt (csOne 17 g17) nc4))
theorem nc5_ok : CSOk Try.prog nc5 := (csAlt_ok g36_ok (csAlt_ok g17_ok nc4_ok))
theorem run35_1 (a : E5) : (run1 Try.prog nc5 (mask 35) 100 35 [a.av, .int .i64 1] [] Try.prog.globals.size).map (·.1) = some (onesF a 1 1).av := by kernel_rfl
def g35_1 : List AVal → Option EffA
  | [.agg [.u64 a0, .u64 a1, .u64 a2, .u64 a3, .u64 a4], .int .i64 (.ofNat n)] => cond (Nat.beq n 1) (some (.pure (onesF ⟨a0, a1, a2, a3, a4⟩ 1 1).av)) none
  | _ => none
theorem g35_1_ok : CSOk Try.prog (csOne 35 g35_1) := csOne_ok fun args e he => by
  unfold g35_1 at he
  split at he
  · rename_i a0 a1 a2 a3 a4 n
    cases hb : Nat.beq n 1 <;> rw [hb] at he <;> simp only [cond_true, cond_false] at he
    · cases he
    · cases he
      rw [Nat.eq_of_beq_eq_true hb]
      exact callOk_val nc5_ok hmix (run35_1 ⟨a0, a1, a2, a3, a4⟩) rfl rfl
  · cases he
def nc5_1 : CS := csAlt (csOne 35 g35_1) nc5
theorem nc5_1_ok : CSOk Try.prog nc5_1 := csAlt_ok g35_1_ok nc5_ok
theorem run35_3 (a : E5) : (run1 Try.prog nc5_1 (mask 35) 100 35 [a.av, .int .i64 3] [] Try.prog.globals.size).map (·.1) = some (onesF a 2 3).av := by kernel_rfl
def g35_3 : List AVal → Option EffA
  | [.agg [.u64 a0, .u64 a1, .u64 a2, .u64 a3, .u64 a4], .int .i64 (.ofNat n)] => cond (Nat.beq n 3) (some (.pure (onesF ⟨a0, a1, a2, a3, a4⟩ 2 3).av)) none
  | _ => none
theorem g35_3_ok : CSOk Try.prog (csOne 35 g35_3) := csOne_ok fun args e he => by
  unfold g35_3 at he
  split at he
  · rename_i a0 a1 a2 a3 a4 n
    cases hb : Nat.beq n 3 <;> rw [hb] at he <;> simp only [cond_true, cond_false] at he
    · cases he
    · cases he
      rw [Nat.eq_of_beq_eq_true hb]
      exact callOk_val nc5_1_ok hmix (run35_3 ⟨a0, a1, a2, a3, a4⟩) rfl rfl
  · cases he
def nc5_3 : CS := csAlt (csOne 35 g35_3) nc5_1
theorem nc5_3_ok : CSOk Try.prog nc5_3 := csAlt_ok g35_3_ok nc5_1_ok
theorem run35_7 (a : E5) : (run1 Try.prog nc5_3 (mask 35) 100 35 [a.av, .int .i64 7] [] Try.prog.globals.size).map (·.1) = some (onesF a 3 7).av := by kernel_rfl
def g35_7 : List AVal → Option EffA
  | [.agg [.u64 a0, .u64 a1, .u64 a2, .u64 a3, .u64 a4], .int .i64 (.ofNat n)] => cond (Nat.beq n 7) (some (.pure (onesF ⟨a0, a1, a2, a3, a4⟩ 3 7).av)) none
  | _ => none
theorem g35_7_ok : CSOk Try.prog (csOne 35 g35_7) := csOne_ok fun args e he => by
  unfold g35_7 at he
  split at he
  · rename_i a0 a1 a2 a3 a4 n
    cases hb : Nat.beq n 7 <;> rw [hb] at he <;> simp only [cond_true, cond_false] at he
    · cases he
    · cases he
      rw [Nat.eq_of_beq_eq_true hb]
      exact callOk_val nc5_3_ok hmix (run35_7 ⟨a0, a1, a2, a3, a4⟩) rfl rfl
  · cases he
def nc5_7 : CS := csAlt (csOne 35 g35_7) nc5_3
theorem nc5_7_ok : CSOk Try.prog nc5_7 := csAlt_ok g35_7_ok nc5_3_ok
theorem run35_15 (a : E5) : (run1 Try.prog nc5_7 (mask 35) 100 35 [a.av, .int .i64 15] [] Try.prog.globals.size).map (·.1) = some (onesF a 4 15).av := by kernel_rfl
def g35_15 : List AVal → Option EffA
  | [.agg [.u64 a0, .u64 a1, .u64 a2, .u64 a3, .u64 a4], .int .i64 (.ofNat n)] => cond (Nat.beq n 15) (some (.pure (onesF ⟨a0, a1, a2, a3, a4⟩ 4 15).av)) none
  | _ => none
theorem g35_15_ok : CSOk Try.prog (csOne 35 g35_15) := csOne_ok fun args e he => by
  unfold g35_15 at he
  split at he
  · rename_i a0 a1 a2 a3 a4 n
    cases hb : Nat.beq n 15 <;> rw [hb] at he <;> simp only [cond_true, cond_false] at he
    · cases he
    · cases he
      rw [Nat.eq_of_beq_eq_true hb]
      exact callOk_val nc5_7_ok hmix (run35_15 ⟨a0, a1, a2, a3, a4⟩) rfl rfl
  · cases he
def nc5_15 : CS := csAlt (csOne 35 g35_15) nc5_7
theorem nc5_15_ok : CSOk Try.prog nc5_15 := csAlt_ok g35_15_ok nc5_7_ok
theorem run35_31 (a : E5) : (run1 Try.prog nc5_15 (mask 35) 100 35 [a.av, .int .i64 31] [] Try.prog.globals.size).map (·.1) = some (onesF a 5 31).av := by kernel_rfl
def g35_31 : List AVal → Option EffA
  | [.agg [.u64 a0, .u64 a1, .u64 a2, .u64 a3, .u64 a4], .int .i64 (.ofNat n)] => cond (Nat.beq n 31) (some (.pure (onesF ⟨a0, a1, a2, a3, a4⟩ 5 31).av)) none
  | _ => none
theorem g35_31_ok : CSOk Try.prog (csOne 35 g35_31) := csOne_ok fun args e he => by
  unfold g35_31 at he
  split at he
  · rename_i a0 a1 a2 a3 a4 n
    cases hb : Nat.beq n 31 <;> rw [hb] at he <;> simp only [cond_true, cond_false] at he
    · cases he
    · cases he
      rw [Nat.eq_of_beq_eq_true hb]
      exact callOk_val nc5_15_ok hmix (run35_31 ⟨a0, a1, a2, a3, a4⟩) rfl rfl
  · cases he
def nc5_31 : CS := csAlt (csOne 35 g35_31) nc5_15
theorem nc5_31_ok : CSOk Try.prog nc5_31 := csAlt_ok g35_31_ok nc5_15_ok
theorem run35_62 (a : E5) : (run1 Try.prog nc5_31 (mask 35) 100 35 [a.av, .int .i64 62] [] Try.prog.globals.size).map (·.1) = some (onesF a 6 62).av := by kernel_rfl
def g35_62 : List AVal → Option EffA
  | [.agg [.u64 a0, .u64 a1, .u64 a2, .u64 a3, .u64 a4], .int .i64 (.ofNat n)] => cond (Nat.beq n 62) (some (.pure (onesF ⟨a0, a1, a2, a3, a4⟩ 6 62).av)) none
  | _ => none
theorem g35_62_ok : CSOk Try.prog (csOne 35 g35_62) := csOne_ok fun args e he => by
  unfold g35_62 at he
  split at he
  · rename_i a0 a1 a2 a3 a4 n
    cases hb : Nat.beq n 62 <;> rw [hb] at he <;> simp only [cond_true, cond_false] at he
    · cases he
    · cases he
      rw [Nat.eq_of_beq_eq_true hb]
      exact callOk_val nc5_31_ok hmix (run35_62 ⟨a0, a1, a2, a3, a4⟩) rfl rfl
  · cases he
def nc5_62 : CS := csAlt (csOne 35 g35_62) nc5_31
theorem nc5_62_ok : CSOk Try.prog nc5_62 := csAlt_ok g35_62_ok nc5_31_ok
theorem run35_125 (a : E5) : (run1 Try.prog nc5_62 (mask 35) 100 35 [a.av, .int .i64 125] [] Try.prog.globals.size).map (·.1) = some (onesF a 7 125).av := by kernel_rfl
def g35_125 : List AVal → Option EffA
  | [.agg [.u64 a0, .u64 a1, .u64 a2, .u64 a3, .u64 a4], .int .i64 (.ofNat n)] => cond (Nat.beq n 125) (some (.pure (onesF ⟨a0, a1, a2, a3, a4⟩ 7 125).av)) none
  | _ => none
theorem g35_125_ok : CSOk Try.prog (csOne 35 g35_125) := csOne_ok fun args e he => by
  unfold g35_125 at he
  split at he
  · rename_i a0 a1 a2 a3 a4 n
    cases hb : Nat.beq n 125 <;> rw [hb] at he <;> simp only [cond_true, cond_false] at he
    · cases he
    · cases he
      rw [Nat.eq_of_beq_eq_true hb]
      exact callOk_val nc5_62_ok hmix (run35_125 ⟨a0, a1, a2, a3, a4⟩) rfl rfl
  · cases he
def nc5_125 : CS := csAlt (csOne 35 g35_125) nc5_62
theorem nc5_125_ok : CSOk Try.prog nc5_125 := csAlt_ok g35_125_ok nc5_62_ok
theorem run35 (a : E5) : (run1 Try.prog nc5_125 (mask 35) 100 35 [a.av, .int .i64 250] [] Try.prog.globals.size).map (·.1) = some (onesF a 8 250).av := by kernel_rfl
def g35 : List AVal → Option EffA
  | [.agg [.u64 a0, .u64 a1, .u64 a2, .u64 a3, .u64 a4], .int .i64 (.ofNat n)] => cond (Nat.beq n 250) (some (.pure (onesF ⟨a0, a1, a2, a3, a4⟩ 8 250).av)) none
  | _ => none
theorem g35_ok : CSOk Try.prog (csOne 35 g35) := csOne_ok fun args e he => by
  unfold g35 at he
  split at he
  · rename_i a0 a1 a2 a3 a4 n
    cases hb : Nat.beq n 250 <;> rw [hb] at he <;> simp only [cond_true, cond_false] at he
    · cases he
    · cases he
      rw [Nat.eq_of_beq_eq_true hb]
      exact callOk_val nc5_125_ok hmix (run35 ⟨a0, a1, a2, a3, a4⟩) rfl rfl
  · cases he
def nc6 : CS := (csAlt (csOne 35 g35) nc5)
theorem nc6_ok : CSOk Try.prog nc6 := (csAlt_ok g35_ok nc5_ok)
theorem run14 (a : E5) : (run1 Try.prog nc6 (mask 14) 100 14 [(E5.av a)] [] Try.prog.globals.size).map (·.1) = some (E5.av (invE a)) := by kernel_rfl
def g14 : List AVal → Option EffA
  | [.agg [.u64 a0, .u64 a1, .u64 a2, .u64 a3, .u64 a4]] => some (.pure (E5.av (invE (E5.mk a0 a1 a2 a3 a4))))
  | _ => none
theorem g14_ok : CSOk Try.prog (csOne 14 g14) := csOne_ok fun args e he => by
  unfold g14 at he
  split at he
  · rename_i a0 a1 a2 a3 a4
    cases he
    exact callOk_val nc6_ok hmix (run14 (E5.mk a0 a1 a2 a3 a4)) rfl rfl
  · cases he
def Sr (a c : E5) : SA := ⟨[(0, a.av), (1, .ptr 0 0), (2, .ptr 8 0), (3, .bool false), (4, .ptr 80 0)], [(0, .cells false a.cells), (8, .cells false zeroE.cells), (80, .cells false c.cells)], 96⟩
def Sr2 (a c : E5) (b : Bool) (fr : Nat) : SA := ⟨[(0, a.av), (1, .ptr 0 0), (2, .ptr 8 0), (3, .bool false), (4, .ptr 80 0), (17, .bool b)], [(0, .cells false a.cells), (8, .cells false zeroE.cells), (80, .cells false c.cells)], fr⟩
noncomputable def pr : List Code := pieces (bodyOf Try.f11)
theorem rootA (a : E5) : segO (evSO Try.prog noPS nc6 [] 33 (mask 11) 100 Try.prog.globals.size ((pr.drop 0).take 2) ⟨startT [a.av] 0, [], Try.prog.globals.size⟩ ⟨[], [], []⟩) = some (Sr a (root0E a), []) := by kernel_rfl
theorem rootBf (a c : E5) : segO (evSO Try.prog noPS nc6 [17] 33 (mask 11) 100 Try.prog.globals.size ((pr.drop 2).take 2) (Sr a c) ⟨[false], [], []⟩) = some (Sr2 a c false 144, [!(!(sameE (mulE c c) a))]) := by kernel_rfl
theorem rootBt (a c : E5) : segO (evSO Try.prog noPS nc6 [17] 33 (mask 11) 100 Try.prog.globals.size ((pr.drop 2).take 2) (Sr a c) ⟨[true], [], []⟩) = some (Sr2 a (mulE c turnedE) true 176, [!(sameE (mulE c c) a)]) := by kernel_rfl
theorem rootC144n (a c : E5) (b : Bool) : ansF Try.prog Try.f11 (evSO Try.prog noPS nc6 [26, 29] 33 (mask 11) 100 Try.prog.globals.size (pr.drop 4) (Sr2 a c b 144) ⟨[true], [], []⟩) = some (.tup [zeroE.av, .bool false], [!(sameE (mulE c c) a)]) := by kernel_rfl
theorem rootC144f (a c : E5) (b : Bool) : ansF Try.prog Try.f11 (evSO Try.prog noPS nc6 [26, 29] 33 (mask 11) 100 Try.prog.globals.size (pr.drop 4) (Sr2 a c b 144) ⟨[false, false], [], []⟩) = some (.tup [c.av, .bool true], [!(oddE c), !(!(sameE (mulE c c) a))]) := by kernel_rfl
theorem rootC144t (a c : E5) (b : Bool) : ansF Try.prog Try.f11 (evSO Try.prog noPS nc6 [26, 29] 33 (mask 11) 100 Try.prog.globals.size (pr.drop 4) (Sr2 a c b 144) ⟨[false, true], [], []⟩) = some (.tup [(negE c).av, .bool true], [oddE c, !(!(sameE (mulE c c) a))]) := by kernel_rfl
theorem rootC144 (a c : E5) (b : Bool) : finV Try.prog Try.f11 (evS Try.prog nc6 33 (mask 11) 100 Try.prog.globals.size (pr.drop 4) (Sr2 a c b 144)) = some (.tup [(cond (sameE (mulE c c) a) (cond (oddE c) (negE c) c) zeroE).av, .bool (sameE (mulE c c) a)]) := by
  cases h2 : sameE (mulE c c) a
  · exact ansF_ok (noPS_ok _) (rootC144n a c b) (by simp [allT, h2])
  · cases h3 : oddE c
    · exact ansF_ok (noPS_ok _) (rootC144f a c b) (by simp [allT, h2, h3])
    · exact ansF_ok (noPS_ok _) (rootC144t a c b) (by simp [allT, h2, h3])
theorem rootC176n (a c : E5) (b : Bool) : ansF Try.prog Try.f11 (evSO Try.prog noPS nc6 [26, 29] 33 (mask 11) 100 Try.prog.globals.size (pr.drop 4) (Sr2 a c b 176) ⟨[true], [], []⟩) = some (.tup [zeroE.av, .bool false], [!(sameE (mulE c c) a)]) := by kernel_rfl
theorem rootC176f (a c : E5) (b : Bool) : ansF Try.prog Try.f11 (evSO Try.prog noPS nc6 [26, 29] 33 (mask 11) 100 Try.prog.globals.size (pr.drop 4) (Sr2 a c b 176) ⟨[false, false], [], []⟩) = some (.tup [c.av, .bool true], [!(oddE c), !(!(sameE (mulE c c) a))]) := by kernel_rfl
theorem rootC176t (a c : E5) (b : Bool) : ansF Try.prog Try.f11 (evSO Try.prog noPS nc6 [26, 29] 33 (mask 11) 100 Try.prog.globals.size (pr.drop 4) (Sr2 a c b 176) ⟨[false, true], [], []⟩) = some (.tup [(negE c).av, .bool true], [oddE c, !(!(sameE (mulE c c) a))]) := by kernel_rfl
theorem rootC176 (a c : E5) (b : Bool) : finV Try.prog Try.f11 (evS Try.prog nc6 33 (mask 11) 100 Try.prog.globals.size (pr.drop 4) (Sr2 a c b 176)) = some (.tup [(cond (sameE (mulE c c) a) (cond (oddE c) (negE c) c) zeroE).av, .bool (sameE (mulE c c) a)]) := by
  cases h2 : sameE (mulE c c) a
  · exact ansF_ok (noPS_ok _) (rootC176n a c b) (by simp [allT, h2])
  · cases h3 : oddE c
    · exact ansF_ok (noPS_ok _) (rootC176f a c b) (by simp [allT, h2, h3])
    · exact ansF_ok (noPS_ok _) (rootC176t a c b) (by simp [allT, h2, h3])
theorem run11 (a : E5) : (run1 Try.prog nc6 (mask 11) 100 11 [a.av] [] Try.prog.globals.size).map (·.1) = some (.tup [(rootE a).av, .bool (hasE a)]) := by
  rw [run1_val (fn := Try.f11) (c := bodyOf Try.f11) (by kernel_rfl) (by kernel_rfl) (by kernel_rfl)]
  have hA := segO_ok (noPS_ok _) (rootA a) rfl
  rw [List.drop_zero] at hA
  have hC : ∀ c, root1E a = c → rootE a = cond (sameE (mulE c c) a) (cond (oddE c) (negE c) c) zeroE ∧ hasE a = sameE (mulE c c) a := fun c h => by
    subst h
    exact ⟨rfl, rfl⟩
  show finV Try.prog Try.f11 (evS Try.prog nc6 33 (mask 11) 100 Try.prog.globals.size pr ⟨startT [a.av] 0, [], Try.prog.globals.size⟩) = _
  rw [hA]
  generalize hc : root0E a = c
  cases h1 : sameE (mulE c c) a
  · obtain ⟨e1, e2⟩ := hC (mulE c turnedE) (by simp only [root1E, hc, h1, cond_false])
    rw [segO_ok (noPS_ok _) (rootBt a c) (by simp [allT, h1]), e1, e2]
    exact rootC176 a _ true
  · obtain ⟨e1, e2⟩ := hC c (by simp only [root1E, hc, h1, cond_true])
    rw [segO_ok (noPS_ok _) (rootBf a c) (by simp [allT, h1]), e1, e2]
    exact rootC144 a _ false
def g11 : List AVal → Option EffA
  | [.agg [.u64 a0, .u64 a1, .u64 a2, .u64 a3, .u64 a4]] => some (.pure (.tup [(E5.av (rootE (E5.mk a0 a1 a2 a3 a4))), .bool (hasE (E5.mk a0 a1 a2 a3 a4))]))
  | _ => none
theorem g11_ok : CSOk Try.prog (csOne 11 g11) := csOne_ok fun args e he => by
  unfold g11 at he
  split at he
  · rename_i a0 a1 a2 a3 a4
    cases he
    exact callOk_val nc6_ok hmix (run11 (E5.mk a0 a1 a2 a3 a4)) rfl rfl
  · cases he
def nc7 : CS := (csAlt (csOne 14 g14) (csAlt (csOne 11 g11) nc6))
theorem nc7_ok : CSOk Try.prog nc7 := (csAlt_ok g14_ok (csAlt_ok g11_ok nc6_ok))
end Go.Proofs.Ytkgbpnihbamceaa
