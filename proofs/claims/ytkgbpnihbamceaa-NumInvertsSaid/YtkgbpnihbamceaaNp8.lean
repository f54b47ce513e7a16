/- The laws on numbers modulo 2^255 - 19. -/
import Derived.Test.YtkgbpnihbamceaaNp7
namespace Go.Proofs.Ytkgbpnihbamceaa
set_option linter.unusedVariables false
set_option linter.unusedSimpArgs false
open Go Go.Eng Go.Num
set_option maxRecDepth 100000
set_option maxHeartbeats 1000000
set_option linter.unusedSimpArgs false
set_option linter.unusedVariables false
theorem run3 (s : List UInt8) : (run1 Try.prog nl2 (mask 3) 200 3 [.str s] [] Try.prog.globals.size).map (·.1) = some (.bool true) := by
  cases hs : isLen s 32
  · exact ansO_run nl2_ps (P := Try.prog) (cs := nl2) (sy := [16]) (os := [true]) (vs := []) (nn := mask 3) (F := 200) (f := 3) (ob := [!(ofEr s == 0)]) (show ansO (run1O Try.prog npL nl2 [16] [true] [] (mask 3) 200 3 [.str s] [] Try.prog.globals.size) = some (.bool true, [!(ofEr s == 0)]) from by kernel_rfl) (by simp [allT, ofEr_eq, hs])
  · have r := rel_of hs
    have ho := okB_iff.2 r.okP
    have h1 := (rel_inv r).bytes
    have h2 := rel_has r
    have h3 := (rel_root r).bytes
    exact ansO_run nl2_ps (P := Try.prog) (cs := nl2) (sy := [16, 19, 27, 33, 34, 38, 43]) (os := [false, true, true, true]) (vs := []) (nn := mask 3) (F := 200) (f := 3) (ob := [bytesE ((etaE (rootE (etaE (ofEl s))))) == bytesN ((etaN (rootP (etaN (ofP s))))), hasE (etaE (ofEl s)) == hasP (etaN (ofP s)), bytesE ((etaE (invE (etaE (ofEl s))))) == bytesN ((etaN (invP (etaN (ofP s))))), okB (etaN (ofP s)), okB (etaN (ofP s)), isLen s 32, !(!(ofEr s == 0))]) (show ansO (run1O Try.prog npL nl2 [16, 19, 27, 33, 34, 38, 43] [false, true, true, true] [] (mask 3) 200 3 [.str s] [] Try.prog.globals.size) = some (.bool true, [bytesE ((etaE (rootE (etaE (ofEl s))))) == bytesN ((etaN (rootP (etaN (ofP s))))), hasE (etaE (ofEl s)) == hasP (etaN (ofP s)), bytesE ((etaE (invE (etaE (ofEl s))))) == bytesN ((etaN (invP (etaN (ofP s))))), okB (etaN (ofP s)), okB (etaN (ofP s)), isLen s 32, !(!(ofEr s == 0))]) from by kernel_rfl) (by simp [allT, etaE_eq, etaN_eq, ofEr_eq, hs, ho, h1, h2, h3])
theorem run4 (s : List UInt8) (n : UInt32) : (run1 Try.prog nl2 (mask 4) 200 4 [.str s, .u32 n] [] Try.prog.globals.size).map (·.1) = some (.bool true) := by
  by_cases hb : (4096 : Int) < (s.length : Int)
  · exact ansO_run nl2_ps (P := Try.prog) (cs := nl2) (sy := [10]) (os := [true]) (vs := []) (nn := mask 4) (F := 200) (f := 4) (ob := [decide ((4096 : Int) < (s.length : Int))]) (show ansO (run1O Try.prog npL nl2 [10] [true] [] (mask 4) 200 4 [.str s, .u32 n] [] Try.prog.globals.size) = some (.bool true, [decide ((4096 : Int) < (s.length : Int))]) from by kernel_rfl) (by simp [allT, hb])
  · have hc : (canonE s == canonP s) = true := by rw [canonE_eq]; simp
    have hn := (rel_small n).bytes
    cases h1 : isLen s 32
    · have n1 := ne32 h1
      have e1 : ofEr s = 2 := by unfold ofEr; rw [h1]; rfl
      have e2 : ofEl s = zeroE := by unfold ofEl; rw [h1]; rfl
      have e3 : sameE (ofEl s) zeroE = true := by rw [e2, sameE_eq]; simp
      exact ansO_run nl2_ps (P := Try.prog) (cs := nl2) (sy := [10, 21, 28, 32, 34, 38]) (os := [false, false, false, true, true, true]) (vs := []) (nn := mask 4) (F := 200) (f := 4) (ob := [sameE (ofEl s) zeroE, ofEr s == 2, ((s.length : Int) != 32), !(!(bytesE (smallE n) == bytesN (smallN n))), !(!(canonE s == canonP s)), !(decide ((4096 : Int) < (s.length : Int)))]) (show ansO (run1O Try.prog npL nl2 [10, 21, 28, 32, 34, 38] [false, false, false, true, true, true] [] (mask 4) 200 4 [.str s, .u32 n] [] Try.prog.globals.size) = some (.bool true, [sameE (ofEl s) zeroE, ofEr s == 2, ((s.length : Int) != 32), !(!(bytesE (smallE n) == bytesN (smallN n))), !(!(canonE s == canonP s)), !(decide ((4096 : Int) < (s.length : Int)))]) from by kernel_rfl) (by simp [allT, hb, hc, hn, n1, e1, e3])
    · have n1 := to32 h1
      have r := rel_of h1
      have e1 := r.bytes
      have e2 := rel_odd r
      have e3 : (oddE (ofEl s) == ((ofP s).x0 &&& 1 == 1)) = true := by rw [e2]; unfold oddP; simp
      exact ansO_run nl2_ps (P := Try.prog) (cs := nl2) (sy := [10, 21, 28, 32, 44, 46, 50, 59]) (os := [false, false, false, false, true, true, true]) (vs := []) (nn := mask 4) (F := 200) (f := 4) (ob := [oddE (ofEl s) == ((ofP s).x0 &&& 1 == 1), bytesE (ofEl s) == bytesN (ofP s), ofEr s == 0, isLen s 32, !(((s.length : Int) != 32)), !(!(bytesE (smallE n) == bytesN (smallN n))), !(!(canonE s == canonP s)), !(decide ((4096 : Int) < (s.length : Int)))]) (show ansO (run1O Try.prog npL nl2 [10, 21, 28, 32, 44, 46, 50, 59] [false, false, false, false, true, true, true] [] (mask 4) 200 4 [.str s, .u32 n] [] Try.prog.globals.size) = some (.bool true, [oddE (ofEl s) == ((ofP s).x0 &&& 1 == 1), bytesE (ofEl s) == bytesN (ofP s), ofEr s == 0, isLen s 32, !(((s.length : Int) != 32)), !(!(bytesE (smallE n) == bytesN (smallN n))), !(!(canonE s == canonP s)), !(decide ((4096 : Int) < (s.length : Int)))]) from by kernel_rfl) (by simp [allT, hb, hc, hn, n1, ofEr_eq, h1, e1, e3])
theorem law3 (s : List UInt8) : CallOk Try.prog 3 [.str s] (.pure (.bool true)) := callOk_val nl2_ok hmix (run3 s) rfl rfl
theorem law4 (s : List UInt8) (n : UInt32) : CallOk Try.prog 4 [.str s, .u32 n] (.pure (.bool true)) := callOk_val nl2_ok hmix (run4 s n) rfl rfl
end Go.Proofs.Ytkgbpnihbamceaa
