/- Numbers modulo the order: the program's functions, part 2. -/
import Derived.Test.YtalflblaefffnaaOrd1
namespace Go.Proofs.Ytalflblaefffnaa
set_option linter.unusedVariables false
set_option linter.unusedSimpArgs false
open Go Go.Eng Go.Num
set_option maxRecDepth 100000
set_option maxHeartbeats 1000000
set_option linter.unusedSimpArgs false
set_option linter.unusedVariables false
theorem run32 (a : W4) : (run1 Try.prog cs1 (mask 32) 100 32 [a.av] [] Try.prog.globals.size).map (·.1) = some (lessW a).av := by
  cases h : belowW a orderW
  · have e : lessW a = minusW a orderW := by simp [lessW, h]
    rw [e]
    exact ansO_run (noPS_ok _) (P := Try.prog) (cs := cs1) (sy := [10]) (os := [false]) (nn := mask 32) (F := 100) (f := 32) (ob := [!(belowW a orderW)]) (show ansO (run1O Try.prog noPS cs1 [10] [false] (mask 32) 100 32 [a.av] [] Try.prog.globals.size) = some ((minusW a orderW).av, [!(belowW a orderW)]) from by kernel_rfl) (by simp [allT, h])
  · have e : lessW a = a := by simp [lessW, h]
    rw [e]
    exact ansO_run (noPS_ok _) (P := Try.prog) (cs := cs1) (sy := [10]) (os := [true]) (nn := mask 32) (F := 100) (f := 32) (ob := [belowW a orderW]) (show ansO (run1O Try.prog noPS cs1 [10] [true] (mask 32) 100 32 [a.av] [] Try.prog.globals.size) = some (a.av, [belowW a orderW]) from by kernel_rfl) (by simp [allT, h])
def g32 : List AVal → Option EffA
  | [.agg [.u64 a0, .u64 a1, .u64 a2, .u64 a3]] => some (.pure (W4.av (lessW (W4.mk a0 a1 a2 a3))))
  | _ => none
theorem g32_ok : CSOk Try.prog (csOne 32 g32) := csOne_ok fun args e he => by
  unfold g32 at he
  split at he
  · rename_i a0 a1 a2 a3
    cases he
    exact callOk_val cs1_ok hmix (run32 (W4.mk a0 a1 a2 a3)) rfl rfl
  · cases he
def cs2 : CS := (csAlt (csOne 32 g32) cs1)
theorem cs2_ok : CSOk Try.prog cs2 := (csAlt_ok g32_ok cs1_ok)
theorem run37 (a : W4) (b : UInt8) : (run1 Try.prog cs2 (mask 37) 100 37 [(W4.av a), (.u8 b)] [] Try.prog.globals.size).map (·.1) = some (W4.av (byteW a b)) := by kernel_rfl
def g37 : List AVal → Option EffA
  | [.agg [.u64 a0, .u64 a1, .u64 a2, .u64 a3], .u8 b] => some (.pure (W4.av (byteW (W4.mk a0 a1 a2 a3) b)))
  | _ => none
theorem g37_ok : CSOk Try.prog (csOne 37 g37) := csOne_ok fun args e he => by
  unfold g37 at he
  split at he
  · rename_i a0 a1 a2 a3 b
    cases he
    exact callOk_val cs2_ok hmix (run37 (W4.mk a0 a1 a2 a3) b) rfl rfl
  · cases he
theorem run16 (a : W4) (b : W4) : (run1 Try.prog cs2 (mask 16) 100 16 [(W4.av a), (W4.av b)] [] Try.prog.globals.size).map (·.1) = some (W4.av (addW a b)) := by kernel_rfl
def g16 : List AVal → Option EffA
  | [.agg [.u64 a0, .u64 a1, .u64 a2, .u64 a3], .agg [.u64 b0, .u64 b1, .u64 b2, .u64 b3]] => some (.pure (W4.av (addW (W4.mk a0 a1 a2 a3) (W4.mk b0 b1 b2 b3))))
  | _ => none
theorem g16_ok : CSOk Try.prog (csOne 16 g16) := csOne_ok fun args e he => by
  unfold g16 at he
  split at he
  · rename_i a0 a1 a2 a3 b0 b1 b2 b3
    cases he
    exact callOk_val cs2_ok hmix (run16 (W4.mk a0 a1 a2 a3) (W4.mk b0 b1 b2 b3)) rfl rfl
  · cases he
end Go.Proofs.Ytalflblaefffnaa
