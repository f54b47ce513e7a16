/- Numbers modulo the order: the program's functions. -/
import Derived.Test.YtalflblaefffnaaNum1
import Derived.Test.YtalflblaefffnaaChecked
namespace Go.Proofs.Ytalflblaefffnaa
set_option linter.unusedVariables false
set_option linter.unusedSimpArgs false
open Go Go.Eng Go.Num
set_option maxRecDepth 100000
set_option maxHeartbeats 1000000
set_option linter.unusedSimpArgs false
set_option linter.unusedVariables false
def bodyOf (f : Func) : Code := f.body.getD .skip
def mask : FuncId → Nat := fun f => match f with | 2 => 0 | 3 => 1130315435213437 | 4 => 67110899 | 5 => 85070612012644219517514078004216725447 | 6 => 239 | 7 => 2061 | 8 => 157 | 9 => 29 | 10 => 5 | 11 => 13 | 12 => 31 | 13 => 31 | 14 => 268436509 | 15 => 61 | 16 => 1023 | 17 => 383 | 18 => 2508757194024529428479 | 19 => 8959 | 20 => 143 | 21 => 39 | 22 => 127 | 23 => 1 | 24 => 159 | 25 => 501 | 26 => 3613 | 27 => 65727 | 28 => 4125 | 29 => 2551 | 30 => 1535 | 32 => 4127 | 33 => 639 | 34 => 16371 | 35 => 1 | 36 => 1023 | 37 => 787191 | _ => 0
theorem hmix : Try.prog.follows .mixedOrders = true := by kernel_rfl
def cs0 : CS := noCS
theorem cs0_ok : CSOk Try.prog cs0 := noCS_ok _
theorem run36 (a : W4) (b : W4) : (run1 Try.prog cs0 (mask 36) 100 36 [(W4.av a), (W4.av b)] [] Try.prog.globals.size).map (·.1) = some (.tup [(W4.av (minusW a b)), .bool (belowW a b)]) := by kernel_rfl
def g36 : List AVal → Option EffA
  | [.agg [.u64 a0, .u64 a1, .u64 a2, .u64 a3], .agg [.u64 b0, .u64 b1, .u64 b2, .u64 b3]] => some (.pure (.tup [(W4.av (minusW (W4.mk a0 a1 a2 a3) (W4.mk b0 b1 b2 b3))), .bool (belowW (W4.mk a0 a1 a2 a3) (W4.mk b0 b1 b2 b3))]))
  | _ => none
theorem g36_ok : CSOk Try.prog (csOne 36 g36) := csOne_ok fun args e he => by
  unfold g36 at he
  split at he
  · rename_i a0 a1 a2 a3 b0 b1 b2 b3
    cases he
    exact callOk_val cs0_ok hmix (run36 (W4.mk a0 a1 a2 a3) (W4.mk b0 b1 b2 b3)) rfl rfl
  · cases he
theorem run35  : (run1 Try.prog cs0 (mask 35) 100 35 [] [] Try.prog.globals.size).map (·.1) = some (W4.av orderW) := by kernel_rfl
def g35 : List AVal → Option EffA
  | [] => some (.pure (W4.av orderW))
  | _ => none
theorem g35_ok : CSOk Try.prog (csOne 35 g35) := csOne_ok fun args e he => by
  unfold g35 at he
  split at he
  · skip
    cases he
    exact callOk_val cs0_ok hmix (run35 ) rfl rfl
  · cases he
def cs1 : CS := (csAlt (csOne 36 g36) (csOne 35 g35))
theorem cs1_ok : CSOk Try.prog cs1 := (csAlt_ok g36_ok g35_ok)
end Go.Proofs.Ytalflblaefffnaa
