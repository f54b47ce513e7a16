/- The laws on numbers modulo 2^255 - 19: helpers. -/
import Derived.Test.YtkgbpnihbamceaaNp2
import Derived.Test.YtkgbpnihbamceaaNp6
import Derived.Test.YtkgbpnihbamceaaNum12
namespace Go.Proofs.Ytkgbpnihbamceaa
set_option linter.unusedVariables false
set_option linter.unusedSimpArgs false
open Go Go.Eng Go.Num
set_option maxRecDepth 100000
set_option maxHeartbeats 1000000
set_option linter.unusedSimpArgs false
set_option linter.unusedVariables false
def npL : PS := psAlt (psOne 12 p12) (psAlt (psOne 15 p15) (psAlt (psOne 26 p26) (psAlt (psOne 24 p24) (psAlt (psOne 28 p28) (psOne 10 p10)))))
theorem npL_ok : CSOk Try.prog (csP npL) := csP_alt p12_ok (csP_alt p15_ok (csP_alt p26_ok (csP_alt p24_ok (csP_alt p28_ok (p10_ok)))))
def nl0 : CS := csAlt nc7 (csAlt (csP npL) nr3a)
theorem nl0_ok : CSOk Try.prog nl0 := csAlt_ok nc7_ok (csAlt_ok npL_ok nr3a_ok)
theorem run13 (a : E5) (b : N16) : (run1 Try.prog nl0 (mask 13) 100 13 [(E5.av a), (N16.av b)] [] Try.prog.globals.size).map (·.1) = some (.bool (bytesE a == bytesN b)) := by kernel_rfl
def g13 : List AVal → Option EffA
  | [.agg [.u64 a0, .u64 a1, .u64 a2, .u64 a3, .u64 a4], .agg [.u64 b0, .u64 b1, .u64 b2, .u64 b3, .u64 b4, .u64 b5, .u64 b6, .u64 b7, .u64 b8, .u64 b9, .u64 b10, .u64 b11, .u64 b12, .u64 b13, .u64 b14, .u64 b15]] => some (.pure (.bool (bytesE (E5.mk a0 a1 a2 a3 a4) == bytesN (N16.mk b0 b1 b2 b3 b4 b5 b6 b7 b8 b9 b10 b11 b12 b13 b14 b15))))
  | _ => none
theorem g13_ok : CSOk Try.prog (csOne 13 g13) := csOne_ok fun args e he => by
  unfold g13 at he
  split at he
  · rename_i a0 a1 a2 a3 a4 b0 b1 b2 b3 b4 b5 b6 b7 b8 b9 b10 b11 b12 b13 b14 b15
    cases he
    exact callOk_val nl0_ok hmix (run13 (E5.mk a0 a1 a2 a3 a4) (N16.mk b0 b1 b2 b3 b4 b5 b6 b7 b8 b9 b10 b11 b12 b13 b14 b15)) rfl rfl
  · cases he
theorem run8 (a : List UInt8) : (run1 Try.prog nl0 (mask 8) 100 8 [(.str a)] [] Try.prog.globals.size).map (·.1) = some (.tup [(E5.av (ofEl a)), .bool (ofEr a == 0)]) := by kernel_rfl
def g8 : List AVal → Option EffA
  | [.str a] => some (.pure (.tup [(E5.av (ofEl a)), .bool (ofEr a == 0)]))
  | _ => none
theorem g8_ok : CSOk Try.prog (csOne 8 g8) := csOne_ok fun args e he => by
  unfold g8 at he
  split at he
  · rename_i a
    cases he
    exact callOk_val nl0_ok hmix (run8 a) rfl rfl
  · cases he
theorem run9 : (run1 Try.prog nl0 (mask 9) 100 9 [] [] Try.prog.globals.size).map (·.1) = some (.bool true) :=
  ansO_run (noPS_ok _) (P := Try.prog) (cs := nl0) (sy := [14, 19, 35, 40, 57, 61]) (os := [true, false, true, true, true, true]) (vs := []) (nn := mask 9) (F := 100) (f := 9) (ob := [oddE (smallE 3), !(oddE (negE (smallE 1))), sameE (rootE (smallE 4)) (smallE 2), byteE (reducedE (mulE (smallE 2) (invE (smallE 2)))) 0 == 1, !(hasE (smallE 2)), hasE (smallE 4)]) (show ansO (run1O Try.prog noPS nl0 [14, 19, 35, 40, 57, 61] [true, false, true, true, true, true] [] (mask 9) 100 9 [] [] Try.prog.globals.size) = some (.bool true, [oddE (smallE 3), !(oddE (negE (smallE 1))), sameE (rootE (smallE 4)) (smallE 2), byteE (reducedE (mulE (smallE 2) (invE (smallE 2)))) 0 == 1, !(hasE (smallE 2)), hasE (smallE 4)]) from by kernel_rfl) (by rw [odd3, odd_neg1, root4, one_byte, has2, has4]; rfl)
def g9 : List AVal → Option EffA
  | [] => some (.pure (.bool true))
  | _ => none
theorem g9_ok : CSOk Try.prog (csOne 9 g9) := csOne_ok fun args e he => by
  unfold g9 at he
  split at he
  · skip
    cases he
    exact callOk_val nl0_ok hmix (run9 ) rfl rfl
  · cases he
def nl1 : CS := (csAlt (csOne 13 g13) (csAlt (csOne 8 g8) (csAlt (csOne 9 g9) nl0)))
theorem nl1_ok : CSOk Try.prog nl1 := (csAlt_ok g13_ok (csAlt_ok g8_ok (csAlt_ok g9_ok nl0_ok)))
def nl2 : CS := csAlt (csP npL) nl1
theorem nl2_ok : CSOk Try.prog nl2 := csAlt_ok npL_ok nl1_ok
theorem nl2_ps : PSOk npL nl2 := csP_ok
end Go.Proofs.Ytkgbpnihbamceaa
