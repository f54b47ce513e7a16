/- The laws on numbers modulo the order: helpers. -/
import Derived.Test.YtalflblaefffnaaOrd6
import Derived.Test.YtalflblaefffnaaOrd7
namespace Go.Proofs.Ytalflblaefffnaa
set_option linter.unusedVariables false
set_option linter.unusedSimpArgs false
open Go Go.Eng Go.Num
set_option maxRecDepth 100000
set_option maxHeartbeats 1000000
set_option linter.unusedSimpArgs false
set_option linter.unusedVariables false
def cl0 : CS := (csAlt (csOne 17 g17) (csAlt (csOne 19 g19) (csAlt (csOne 21 g21) (csAlt (csOne 10 g10) cr2))))
theorem cl0_ok : CSOk Try.prog cl0 := (csAlt_ok g17_ok (csAlt_ok g19_ok (csAlt_ok g21_ok (csAlt_ok g10_ok cr2_ok))))
def cl1 : CS := csAlt cs6 (csAlt (csP (psOne 11 p11)) cl0)
theorem cl1_ok : CSOk Try.prog cl1 := csAlt_ok cs6_ok (csAlt_ok p11_ok cl0_ok)
def psL : PS := psAlt (psOne 14 p14) (psOne 11 p11)
theorem run13 (a : W4) (b : N16) : (run1 Try.prog cl1 (mask 13) 100 13 [(W4.av a), (N16.av b)] [] Try.prog.globals.size).map (·.1) = some (.bool (bytesW a == bytesN b)) := by kernel_rfl
def g13 : List AVal → Option EffA
  | [.agg [.u64 a0, .u64 a1, .u64 a2, .u64 a3], .agg [.u64 b0, .u64 b1, .u64 b2, .u64 b3, .u64 b4, .u64 b5, .u64 b6, .u64 b7, .u64 b8, .u64 b9, .u64 b10, .u64 b11, .u64 b12, .u64 b13, .u64 b14, .u64 b15]] => some (.pure (.bool (bytesW (W4.mk a0 a1 a2 a3) == bytesN (N16.mk b0 b1 b2 b3 b4 b5 b6 b7 b8 b9 b10 b11 b12 b13 b14 b15))))
  | _ => none
theorem g13_ok : CSOk Try.prog (csOne 13 g13) := csOne_ok fun args e he => by
  unfold g13 at he
  split at he
  · rename_i a0 a1 a2 a3 b0 b1 b2 b3 b4 b5 b6 b7 b8 b9 b10 b11 b12 b13 b14 b15
    cases he
    exact callOk_val cl1_ok hmix (run13 (W4.mk a0 a1 a2 a3) (N16.mk b0 b1 b2 b3 b4 b5 b6 b7 b8 b9 b10 b11 b12 b13 b14 b15)) rfl rfl
  · cases he
theorem run15 (a : List UInt8) : (run1 Try.prog cl1 (mask 15) 100 15 [(.str a)] [] Try.prog.globals.size).map (·.1) = some (.tup [(W4.av (oV a)), .bool (oE a == 0)]) := by kernel_rfl
def g15 : List AVal → Option EffA
  | [.str a] => some (.pure (.tup [(W4.av (oV a)), .bool (oE a == 0)]))
  | _ => none
theorem g15_ok : CSOk Try.prog (csOne 15 g15) := csOne_ok fun args e he => by
  unfold g15 at he
  split at he
  · rename_i a
    cases he
    exact callOk_val cl1_ok hmix (run15 a) rfl rfl
  · cases he
theorem run6 : (run1 Try.prog cl1 (mask 6) 100 6 [] [] Try.prog.globals.size).map (·.1) = some (.bool true) := by kernel_rfl
def g6 : List AVal → Option EffA
  | [] => some (.pure (.bool true))
  | _ => none
theorem g6_ok : CSOk Try.prog (csOne 6 g6) := csOne_ok fun args e he => by
  unfold g6 at he
  split at he
  · skip
    cases he
    exact callOk_val cl1_ok hmix (run6 ) rfl rfl
  · cases he
def cl2 : CS := csAlt (csP psL) (csAlt (csOne 13 g13) (csAlt (csOne 15 g15) (csAlt (csOne 6 g6) cl1)))
theorem psL_ok : CSOk Try.prog (csP psL) := by
  intro f args e h
  unfold csP psL psAlt at h
  cases h1 : psOne 14 p14 f args with
  | some q =>
    rw [h1] at h
    exact p14_ok f args e (by unfold csP; rw [h1]; exact h)
  | none =>
    rw [h1] at h
    exact p11_ok f args e (by unfold csP; exact h)
theorem cl2_ok : CSOk Try.prog cl2 := csAlt_ok psL_ok (csAlt_ok g13_ok (csAlt_ok g15_ok (csAlt_ok g6_ok cl1_ok)))
theorem hpsL : PSOk psL cl2 := csP_ok
end Go.Proofs.Ytalflblaefffnaa
