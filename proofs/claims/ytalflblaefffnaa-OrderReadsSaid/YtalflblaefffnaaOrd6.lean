/- Numbers modulo the order: the document's sums, products. -/
import Derived.Test.YtalflblaefffnaaOrd5
namespace Go.Proofs.Ytalflblaefffnaa
set_option linter.unusedVariables false
set_option linter.unusedSimpArgs false
open Go Go.Eng Go.Num
set_option maxRecDepth 100000
set_option maxHeartbeats 1000000
set_option linter.unusedSimpArgs false
set_option linter.unusedVariables false
def cr2 : CS := csAlt (csP (psOne 14 p14)) cr1
theorem cr2_ok : CSOk Try.prog cr2 := csAlt_ok p14_ok cr1_ok
noncomputable def cr2i : CS := inlW Try.prog mask 200 cr2 3
theorem cr2i_ok : CSOk Try.prog cr2i := inlW_ok hmix cr2_ok 3
theorem run17 (a : N16) (b : N16) : (run1 Try.prog cr2i (mask 17) 200 17 [(N16.av a), (N16.av b)] [] Try.prog.globals.size).map (·.1) = some (N16.av (addN a b)) := by kernel_rfl
def g17 : List AVal → Option EffA
  | [.agg [.u64 a0, .u64 a1, .u64 a2, .u64 a3, .u64 a4, .u64 a5, .u64 a6, .u64 a7, .u64 a8, .u64 a9, .u64 a10, .u64 a11, .u64 a12, .u64 a13, .u64 a14, .u64 a15], .agg [.u64 b0, .u64 b1, .u64 b2, .u64 b3, .u64 b4, .u64 b5, .u64 b6, .u64 b7, .u64 b8, .u64 b9, .u64 b10, .u64 b11, .u64 b12, .u64 b13, .u64 b14, .u64 b15]] => some (.pure (N16.av (addN (N16.mk a0 a1 a2 a3 a4 a5 a6 a7 a8 a9 a10 a11 a12 a13 a14 a15) (N16.mk b0 b1 b2 b3 b4 b5 b6 b7 b8 b9 b10 b11 b12 b13 b14 b15))))
  | _ => none
theorem g17_ok : CSOk Try.prog (csOne 17 g17) := csOne_ok fun args e he => by
  unfold g17 at he
  split at he
  · rename_i a0 a1 a2 a3 a4 a5 a6 a7 a8 a9 a10 a11 a12 a13 a14 a15 b0 b1 b2 b3 b4 b5 b6 b7 b8 b9 b10 b11 b12 b13 b14 b15
    cases he
    exact callOk_val cr2i_ok hmix (run17 (N16.mk a0 a1 a2 a3 a4 a5 a6 a7 a8 a9 a10 a11 a12 a13 a14 a15) (N16.mk b0 b1 b2 b3 b4 b5 b6 b7 b8 b9 b10 b11 b12 b13 b14 b15)) rfl rfl
  · cases he
theorem run19 (a : N16) (b : N16) : (run1 Try.prog cr2i (mask 19) 200 19 [(N16.av a), (N16.av b)] [] Try.prog.globals.size).map (·.1) = some (N16.av (mulN a b)) := by kernel_rfl
def g19 : List AVal → Option EffA
  | [.agg [.u64 a0, .u64 a1, .u64 a2, .u64 a3, .u64 a4, .u64 a5, .u64 a6, .u64 a7, .u64 a8, .u64 a9, .u64 a10, .u64 a11, .u64 a12, .u64 a13, .u64 a14, .u64 a15], .agg [.u64 b0, .u64 b1, .u64 b2, .u64 b3, .u64 b4, .u64 b5, .u64 b6, .u64 b7, .u64 b8, .u64 b9, .u64 b10, .u64 b11, .u64 b12, .u64 b13, .u64 b14, .u64 b15]] => some (.pure (N16.av (mulN (N16.mk a0 a1 a2 a3 a4 a5 a6 a7 a8 a9 a10 a11 a12 a13 a14 a15) (N16.mk b0 b1 b2 b3 b4 b5 b6 b7 b8 b9 b10 b11 b12 b13 b14 b15))))
  | _ => none
theorem g19_ok : CSOk Try.prog (csOne 19 g19) := csOne_ok fun args e he => by
  unfold g19 at he
  split at he
  · rename_i a0 a1 a2 a3 a4 a5 a6 a7 a8 a9 a10 a11 a12 a13 a14 a15 b0 b1 b2 b3 b4 b5 b6 b7 b8 b9 b10 b11 b12 b13 b14 b15
    cases he
    exact callOk_val cr2i_ok hmix (run19 (N16.mk a0 a1 a2 a3 a4 a5 a6 a7 a8 a9 a10 a11 a12 a13 a14 a15) (N16.mk b0 b1 b2 b3 b4 b5 b6 b7 b8 b9 b10 b11 b12 b13 b14 b15)) rfl rfl
  · cases he
theorem run21 (a : N16) : (run1 Try.prog cr2 (mask 21) 100 21 [a.av] [] Try.prog.globals.size).map (·.1) = some (negN a).av := by
  cases h : isZ16 a
  · have e : negN a = minusN orderN a := by simp [negN, ← isZ16_eq, h]
    rw [e]
    exact ansO_run (noPS_ok _) (P := Try.prog) (cs := cr2) (sy := [5]) (os := [false]) (nn := mask 21) (F := 100) (f := 21) (ob := [!isZ16 a]) (show ansO (run1O Try.prog noPS cr2 [5] [false] (mask 21) 100 21 [a.av] [] Try.prog.globals.size) = some ((minusN orderN a).av, [!isZ16 a]) from by kernel_rfl) (by simp [allT, h])
  · have e : negN a = a := by simp [negN, ← isZ16_eq, h]
    rw [e]
    exact ansO_run (noPS_ok _) (P := Try.prog) (cs := cr2) (sy := [5]) (os := [true]) (nn := mask 21) (F := 100) (f := 21) (ob := [isZ16 a]) (show ansO (run1O Try.prog noPS cr2 [5] [true] (mask 21) 100 21 [a.av] [] Try.prog.globals.size) = some (a.av, [isZ16 a]) from by kernel_rfl) (by simp [allT, h])
def g21 : List AVal → Option EffA
  | [.agg [.u64 a0, .u64 a1, .u64 a2, .u64 a3, .u64 a4, .u64 a5, .u64 a6, .u64 a7, .u64 a8, .u64 a9, .u64 a10, .u64 a11, .u64 a12, .u64 a13, .u64 a14, .u64 a15]] => some (.pure (N16.av (negN (N16.mk a0 a1 a2 a3 a4 a5 a6 a7 a8 a9 a10 a11 a12 a13 a14 a15))))
  | _ => none
theorem g21_ok : CSOk Try.prog (csOne 21 g21) := csOne_ok fun args e he => by
  unfold g21 at he
  split at he
  · rename_i a0 a1 a2 a3 a4 a5 a6 a7 a8 a9 a10 a11 a12 a13 a14 a15
    cases he
    exact callOk_val cr2_ok hmix (run21 (N16.mk a0 a1 a2 a3 a4 a5 a6 a7 a8 a9 a10 a11 a12 a13 a14 a15)) rfl rfl
  · cases he
theorem run10t (a0 a1 a2 a3 a4 a5 a6 a7 a8 a9 a10 a11 a12 a13 a14 a15 a16 a17 a18 a19 a20 a21 a22 a23 a24 a25 a26 a27 a28 a29 a30 a31 : UInt8) : (run1 Try.prog cr2 (mask 10) 100 10 [.str [a0, a1, a2, a3, a4, a5, a6, a7, a8, a9, a10, a11, a12, a13, a14, a15, a16, a17, a18, a19, a20, a21, a22, a23, a24, a25, a26, a27, a28, a29, a30, a31]] [] Try.prog.globals.size).map (·.1) = some (.bool (lessN (partsN [a0, a1, a2, a3, a4, a5, a6, a7, a8, a9, a10, a11, a12, a13, a14, a15, a16, a17, a18, a19, a20, a21, a22, a23, a24, a25, a26, a27, a28, a29, a30, a31]) orderN)) := by kernel_rfl
theorem run10 (s : List UInt8) : (run1 Try.prog cr2 (mask 10) 100 10 [.str s] [] Try.prog.globals.size).map (·.1) = some (.bool (canonN s)) := by
  cases h : isLen s 32
  · have e : canonN s = false := by simp [canonN, h]
    rw [e]
    exact ansO_run (noPS_ok _) (P := Try.prog) (cs := cr2) (sy := [5]) (os := [false]) (nn := mask 10) (F := 100) (f := 10) (ob := [!((s.length : Int) == 32)]) (show ansO (run1O Try.prog noPS cr2 [5] [false] (mask 10) 100 10 [.str s] [] Try.prog.globals.size) = some (.bool false, [!((s.length : Int) == 32)]) from by kernel_rfl) (by simp [allT, ne32 h])
  · have e : canonN s = lessN (partsN s) orderN := by simp [canonN, h]
    rw [e]
    obtain ⟨a0, a1, a2, a3, a4, a5, a6, a7, a8, a9, a10, a11, a12, a13, a14, a15, a16, a17, a18, a19, a20, a21, a22, a23, a24, a25, a26, a27, a28, a29, a30, a31, rfl⟩ := len32 (isLen_eq.1 h)
    exact run10t a0 a1 a2 a3 a4 a5 a6 a7 a8 a9 a10 a11 a12 a13 a14 a15 a16 a17 a18 a19 a20 a21 a22 a23 a24 a25 a26 a27 a28 a29 a30 a31
def g10 : List AVal → Option EffA
  | [.str s] => some (.pure (.bool (canonN s)))
  | _ => none
theorem g10_ok : CSOk Try.prog (csOne 10 g10) := csOne_ok fun args e he => by
  unfold g10 at he
  split at he
  · cases he
    exact callOk_val cr2_ok hmix (run10 _) rfl rfl
  · cases he
theorem run11 (a0 a1 a2 a3 a4 a5 a6 a7 a8 a9 a10 a11 a12 a13 a14 a15 a16 a17 a18 a19 a20 a21 a22 a23 a24 a25 a26 a27 a28 a29 a30 a31 : UInt8) : (run1 Try.prog cr2 (mask 11) 100 11 [.str [a0, a1, a2, a3, a4, a5, a6, a7, a8, a9, a10, a11, a12, a13, a14, a15, a16, a17, a18, a19, a20, a21, a22, a23, a24, a25, a26, a27, a28, a29, a30, a31]] [] Try.prog.globals.size).map (·.1) = some (.str (clampL [a0, a1, a2, a3, a4, a5, a6, a7, a8, a9, a10, a11, a12, a13, a14, a15, a16, a17, a18, a19, a20, a21, a22, a23, a24, a25, a26, a27, a28, a29, a30, a31])) := by kernel_rfl
def p11 : List AVal → Option (AVal × Bool)
  | [.str s] => some (.str (clampL s), isLen s 32)
  | _ => none
theorem p11_ok : CSOk Try.prog (csP (psOne 11 p11)) := csP_one fun args v he => by
  unfold p11 at he
  split at he
  · rename_i s
    simp only [Option.some.injEq, Prod.mk.injEq] at he
    obtain ⟨rfl, h⟩ := he
    obtain ⟨a0, a1, a2, a3, a4, a5, a6, a7, a8, a9, a10, a11, a12, a13, a14, a15, a16, a17, a18, a19, a20, a21, a22, a23, a24, a25, a26, a27, a28, a29, a30, a31, rfl⟩ := len32 (isLen_eq.1 h)
    exact callOk_val cr2_ok hmix (run11 a0 a1 a2 a3 a4 a5 a6 a7 a8 a9 a10 a11 a12 a13 a14 a15 a16 a17 a18 a19 a20 a21 a22 a23 a24 a25 a26 a27 a28 a29 a30 a31) rfl rfl
  · cases he
end Go.Proofs.Ytalflblaefffnaa
