/- Numbers modulo 2^255 - 19: the document's powers and roots. -/
import Derived.Test.YtkgbpnihbamceaaNp4
namespace Go.Proofs.Ytkgbpnihbamceaa
set_option linter.unusedVariables false
set_option linter.unusedSimpArgs false
open Go Go.Eng Go.Num
set_option maxRecDepth 100000
set_option maxHeartbeats 1000000
set_option linter.unusedSimpArgs false
set_option linter.unusedVariables false
theorem run15 (a : N16) (h : okB a = true) : (run1 Try.prog nr4 (mask 15) 300 15 [a.av] [] Try.prog.globals.size).map (·.1) = some (invP a).av :=
  ansO_run nr4_ps (P := Try.prog) (cs := nr4) (sy := [5]) (os := []) (vs := []) (nn := mask 15) (F := 300) (f := 15) (ob := [okB a]) (show ansO (run1O Try.prog np2 nr4 [5] [] [] (mask 15) 300 15 [a.av] [] Try.prog.globals.size) = some ((invP a).av, [okB a]) from by kernel_rfl) (by rw [h]; rfl)
def p15 : List AVal → Option (EffA × Bool)
  | [.agg [.u64 a0, .u64 a1, .u64 a2, .u64 a3, .u64 a4, .u64 a5, .u64 a6, .u64 a7, .u64 a8, .u64 a9, .u64 a10, .u64 a11, .u64 a12, .u64 a13, .u64 a14, .u64 a15]] => some (.pure ((invP (N16.mk a0 a1 a2 a3 a4 a5 a6 a7 a8 a9 a10 a11 a12 a13 a14 a15)).av), okB (N16.mk a0 a1 a2 a3 a4 a5 a6 a7 a8 a9 a10 a11 a12 a13 a14 a15))
  | _ => none
theorem p15_ok : CSOk Try.prog (csP (psOne 15 p15)) := csP_one fun args v he => by
  unfold p15 at he
  split at he
  · rename_i a0 a1 a2 a3 a4 a5 a6 a7 a8 a9 a10 a11 a12 a13 a14 a15
    simp only [Option.some.injEq, Prod.mk.injEq] at he
    obtain ⟨rfl, h⟩ := he
    exact callOk_val nr4_ok hmix (run15 (N16.mk a0 a1 a2 a3 a4 a5 a6 a7 a8 a9 a10 a11 a12 a13 a14 a15) h) rfl rfl
  · cases he
end Go.Proofs.Ytkgbpnihbamceaa
