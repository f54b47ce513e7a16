/- Numbers modulo 2^255 - 19: the program's functions. -/
import Derived.Test.YtkgbpnihbamceaaNu0
import Derived.Test.YtkgbpnihbamceaaNum7
namespace Go.Proofs.Ytkgbpnihbamceaa
set_option linter.unusedVariables false
set_option linter.unusedSimpArgs false
open Go Go.Eng Go.Num
set_option maxRecDepth 100000
set_option maxHeartbeats 1000000
set_option linter.unusedSimpArgs false
set_option linter.unusedVariables false
theorem run49 (a b : UInt64) : (run1 Try.prog cs0 (mask 49) 100 49 [.u64 a, .u64 b] [] Try.prog.globals.size).map (·.1) = some (.tup [.u64 (mulHi a b), .u64 (a * b)]) := by
  rw [← mulHiRaw_eq]
  kernel_rfl
def g49 : List AVal → Option EffA
  | [.u64 a, .u64 b] => some (.pure (.tup [.u64 (mulHi a b), .u64 (a * b)]))
  | _ => none
theorem g49_ok : CSOk Try.prog (csOne 49 g49) := csOne_ok fun args e he => by
  unfold g49 at he
  split at he
  · rename_i a b
    cases he
    exact callOk_val cs0_ok hmix (run49 a b) rfl rfl
  · cases he
theorem run42 (a : E5) : (run1 Try.prog cs0 (mask 42) 100 42 [(E5.av a)] [] Try.prog.globals.size).map (·.1) = some (E5.av (carriedE a)) := by kernel_rfl
def g42 : List AVal → Option EffA
  | [.agg [.u64 a0, .u64 a1, .u64 a2, .u64 a3, .u64 a4]] => some (.pure (E5.av (carriedE (E5.mk a0 a1 a2 a3 a4))))
  | _ => none
theorem g42_ok : CSOk Try.prog (csOne 42 g42) := csOne_ok fun args e he => by
  unfold g42 at he
  split at he
  · rename_i a0 a1 a2 a3 a4
    cases he
    exact callOk_val cs0_ok hmix (run42 (E5.mk a0 a1 a2 a3 a4)) rfl rfl
  · cases he
theorem run47 (a : Wd) : (run1 Try.prog cs0 (mask 47) 100 47 [(a.av)] [] Try.prog.globals.size).map (·.1) = some (.u64 (shiftE a)) := by kernel_rfl
def g47 : List AVal → Option EffA
  | [.agg [.u64 a0, .u64 a1]] => some (.pure (.u64 (shiftE (Wd.mk a0 a1))))
  | _ => none
theorem g47_ok : CSOk Try.prog (csOne 47 g47) := csOne_ok fun args e he => by
  unfold g47 at he
  split at he
  · rename_i a0 a1
    cases he
    exact callOk_val cs0_ok hmix (run47 (Wd.mk a0 a1)) rfl rfl
  · cases he
theorem run37  : (run1 Try.prog cs0 (mask 37) 100 37 [] [] Try.prog.globals.size).map (·.1) = some (turnedE.av) := by kernel_rfl
def g37 : List AVal → Option EffA
  | [] => some (.pure (turnedE.av))
  | _ => none
theorem g37_ok : CSOk Try.prog (csOne 37 g37) := csOne_ok fun args e he => by
  unfold g37 at he
  split at he
  · skip
    cases he
    exact callOk_val cs0_ok hmix (run37 ) rfl rfl
  · cases he
def nc1 : CS := (csAlt (csOne 49 g49) (csAlt (csOne 42 g42) (csAlt (csOne 47 g47) (csAlt (csOne 37 g37) cs0))))
theorem nc1_ok : CSOk Try.prog nc1 := (csAlt_ok g49_ok (csAlt_ok g42_ok (csAlt_ok g47_ok (csAlt_ok g37_ok cs0_ok))))
theorem run46 (a : Wd) (b : UInt64) (c : UInt64) : (run1 Try.prog nc1 (mask 46) 100 46 [(a.av), (.u64 b), (.u64 c)] [] Try.prog.globals.size).map (·.1) = some (Wd.av (plusE a b c)) := by kernel_rfl
def g46 : List AVal → Option EffA
  | [.agg [.u64 a0, .u64 a1], .u64 b, .u64 c] => some (.pure (Wd.av (plusE (Wd.mk a0 a1) b c)))
  | _ => none
theorem g46_ok : CSOk Try.prog (csOne 46 g46) := csOne_ok fun args e he => by
  unfold g46 at he
  split at he
  · rename_i a0 a1 b c
    cases he
    exact callOk_val nc1_ok hmix (run46 (Wd.mk a0 a1) b c) rfl rfl
  · cases he
theorem run19 (a : UInt32) : (run1 Try.prog nc1 (mask 19) 100 19 [(.u32 a)] [] Try.prog.globals.size).map (·.1) = some (E5.av (smallE a)) := by kernel_rfl
def g19 : List AVal → Option EffA
  | [.u32 a] => some (.pure (E5.av (smallE a)))
  | _ => none
theorem g19_ok : CSOk Try.prog (csOne 19 g19) := csOne_ok fun args e he => by
  unfold g19 at he
  split at he
  · rename_i a
    cases he
    exact callOk_val nc1_ok hmix (run19 a) rfl rfl
  · cases he
theorem run45 (a : E5) : (run1 Try.prog nc1 (mask 45) 100 45 [(E5.av a)] [] Try.prog.globals.size).map (·.1) = some (E5.av (reducedE a)) := by kernel_rfl
def g45 : List AVal → Option EffA
  | [.agg [.u64 a0, .u64 a1, .u64 a2, .u64 a3, .u64 a4]] => some (.pure (E5.av (reducedE (E5.mk a0 a1 a2 a3 a4))))
  | _ => none
theorem g45_ok : CSOk Try.prog (csOne 45 g45) := csOne_ok fun args e he => by
  unfold g45 at he
  split at he
  · rename_i a0 a1 a2 a3 a4
    cases he
    exact callOk_val nc1_ok hmix (run45 (E5.mk a0 a1 a2 a3 a4)) rfl rfl
  · cases he
theorem run23 (a : E5) (b : E5) : (run1 Try.prog nc1 (mask 23) 100 23 [(E5.av a), (E5.av b)] [] Try.prog.globals.size).map (·.1) = some (E5.av (addE a b)) := by kernel_rfl
def g23 : List AVal → Option EffA
  | [.agg [.u64 a0, .u64 a1, .u64 a2, .u64 a3, .u64 a4], .agg [.u64 b0, .u64 b1, .u64 b2, .u64 b3, .u64 b4]] => some (.pure (E5.av (addE (E5.mk a0 a1 a2 a3 a4) (E5.mk b0 b1 b2 b3 b4))))
  | _ => none
theorem g23_ok : CSOk Try.prog (csOne 23 g23) := csOne_ok fun args e he => by
  unfold g23 at he
  split at he
  · rename_i a0 a1 a2 a3 a4 b0 b1 b2 b3 b4
    cases he
    exact callOk_val nc1_ok hmix (run23 (E5.mk a0 a1 a2 a3 a4) (E5.mk b0 b1 b2 b3 b4)) rfl rfl
  · cases he
theorem run25 (a : E5) (b : E5) : (run1 Try.prog nc1 (mask 25) 100 25 [(E5.av a), (E5.av b)] [] Try.prog.globals.size).map (·.1) = some (E5.av (subE a b)) := by kernel_rfl
def g25 : List AVal → Option EffA
  | [.agg [.u64 a0, .u64 a1, .u64 a2, .u64 a3, .u64 a4], .agg [.u64 b0, .u64 b1, .u64 b2, .u64 b3, .u64 b4]] => some (.pure (E5.av (subE (E5.mk a0 a1 a2 a3 a4) (E5.mk b0 b1 b2 b3 b4))))
  | _ => none
theorem g25_ok : CSOk Try.prog (csOne 25 g25) := csOne_ok fun args e he => by
  unfold g25 at he
  split at he
  · rename_i a0 a1 a2 a3 a4 b0 b1 b2 b3 b4
    cases he
    exact callOk_val nc1_ok hmix (run25 (E5.mk a0 a1 a2 a3 a4) (E5.mk b0 b1 b2 b3 b4)) rfl rfl
  · cases he
def nc2 : CS := (csAlt (csOne 46 g46) (csAlt (csOne 19 g19) (csAlt (csOne 45 g45) (csAlt (csOne 23 g23) (csAlt (csOne 25 g25) nc1)))))
theorem nc2_ok : CSOk Try.prog nc2 := (csAlt_ok g46_ok (csAlt_ok g19_ok (csAlt_ok g45_ok (csAlt_ok g23_ok (csAlt_ok g25_ok nc1_ok)))))
theorem run31 (a : E5) : (run1 Try.prog nc2 (mask 31) 100 31 [(E5.av a)] [] Try.prog.globals.size).map (·.1) = some (.str (bytesE a)) := by kernel_rfl
def g31 : List AVal → Option EffA
  | [.agg [.u64 a0, .u64 a1, .u64 a2, .u64 a3, .u64 a4]] => some (.pure (.str (bytesE (E5.mk a0 a1 a2 a3 a4))))
  | _ => none
theorem g31_ok : CSOk Try.prog (csOne 31 g31) := csOne_ok fun args e he => by
  unfold g31 at he
  split at he
  · rename_i a0 a1 a2 a3 a4
    cases he
    exact callOk_val nc2_ok hmix (run31 (E5.mk a0 a1 a2 a3 a4)) rfl rfl
  · cases he
theorem run29 (a : E5) : (run1 Try.prog nc2 (mask 29) 100 29 [(E5.av a)] [] Try.prog.globals.size).map (·.1) = some (E5.av (negE a)) := by kernel_rfl
def g29 : List AVal → Option EffA
  | [.agg [.u64 a0, .u64 a1, .u64 a2, .u64 a3, .u64 a4]] => some (.pure (E5.av (negE (E5.mk a0 a1 a2 a3 a4))))
  | _ => none
theorem g29_ok : CSOk Try.prog (csOne 29 g29) := csOne_ok fun args e he => by
  unfold g29 at he
  split at he
  · rename_i a0 a1 a2 a3 a4
    cases he
    exact callOk_val nc2_ok hmix (run29 (E5.mk a0 a1 a2 a3 a4)) rfl rfl
  · cases he
theorem run27 (a : E5) (b : E5) : (run1 Try.prog nc2 (mask 27) 100 27 [(E5.av a), (E5.av b)] [] Try.prog.globals.size).map (·.1) = some (E5.av (mulE a b)) := by kernel_rfl
def g27 : List AVal → Option EffA
  | [.agg [.u64 a0, .u64 a1, .u64 a2, .u64 a3, .u64 a4], .agg [.u64 b0, .u64 b1, .u64 b2, .u64 b3, .u64 b4]] => some (.pure (E5.av (mulE (E5.mk a0 a1 a2 a3 a4) (E5.mk b0 b1 b2 b3 b4))))
  | _ => none
theorem g27_ok : CSOk Try.prog (csOne 27 g27) := csOne_ok fun args e he => by
  unfold g27 at he
  split at he
  · rename_i a0 a1 a2 a3 a4 b0 b1 b2 b3 b4
    cases he
    exact callOk_val nc2_ok hmix (run27 (E5.mk a0 a1 a2 a3 a4) (E5.mk b0 b1 b2 b3 b4)) rfl rfl
  · cases he
theorem run21 (a : E5) (b : E5) : (run1 Try.prog nc2 (mask 21) 100 21 [(E5.av a), (E5.av b)] [] Try.prog.globals.size).map (·.1) = some (.bool (sameE a b)) := by kernel_rfl
def g21 : List AVal → Option EffA
  | [.agg [.u64 a0, .u64 a1, .u64 a2, .u64 a3, .u64 a4], .agg [.u64 b0, .u64 b1, .u64 b2, .u64 b3, .u64 b4]] => some (.pure (.bool (sameE (E5.mk a0 a1 a2 a3 a4) (E5.mk b0 b1 b2 b3 b4))))
  | _ => none
theorem g21_ok : CSOk Try.prog (csOne 21 g21) := csOne_ok fun args e he => by
  unfold g21 at he
  split at he
  · rename_i a0 a1 a2 a3 a4 b0 b1 b2 b3 b4
    cases he
    exact callOk_val nc2_ok hmix (run21 (E5.mk a0 a1 a2 a3 a4) (E5.mk b0 b1 b2 b3 b4)) rfl rfl
  · cases he
theorem run22 (a : E5) : (run1 Try.prog nc2 (mask 22) 100 22 [(E5.av a)] [] Try.prog.globals.size).map (·.1) = some (.bool (oddE a)) := by kernel_rfl
def g22 : List AVal → Option EffA
  | [.agg [.u64 a0, .u64 a1, .u64 a2, .u64 a3, .u64 a4]] => some (.pure (.bool (oddE (E5.mk a0 a1 a2 a3 a4))))
  | _ => none
theorem g22_ok : CSOk Try.prog (csOne 22 g22) := csOne_ok fun args e he => by
  unfold g22 at he
  split at he
  · rename_i a0 a1 a2 a3 a4
    cases he
    exact callOk_val nc2_ok hmix (run22 (E5.mk a0 a1 a2 a3 a4)) rfl rfl
  · cases he
def nc3 : CS := (csAlt (csOne 31 g31) (csAlt (csOne 29 g29) (csAlt (csOne 27 g27) (csAlt (csOne 21 g21) (csAlt (csOne 22 g22) nc2)))))
theorem nc3_ok : CSOk Try.prog nc3 := (csAlt_ok g31_ok (csAlt_ok g29_ok (csAlt_ok g27_ok (csAlt_ok g21_ok (csAlt_ok g22_ok nc2_ok)))))
noncomputable def nc3i : CS := inlW Try.prog mask 200 nc3 3
theorem nc3i_ok : CSOk Try.prog nc3i := inlW_ok hmix nc3_ok 3
theorem run16t (a0 a1 a2 a3 a4 a5 a6 a7 a8 a9 a10 a11 a12 a13 a14 a15 a16 a17 a18 a19 a20 a21 a22 a23 a24 a25 a26 a27 a28 a29 a30 a31 : UInt8) : (run1 Try.prog nc3i (mask 16) 200 16 [.str [a0, a1, a2, a3, a4, a5, a6, a7, a8, a9, a10, a11, a12, a13, a14, a15, a16, a17, a18, a19, a20, a21, a22, a23, a24, a25, a26, a27, a28, a29, a30, a31]] [] Try.prog.globals.size).map (·.1) = some (.tup [(carriedE (ofE0 [a0, a1, a2, a3, a4, a5, a6, a7, a8, a9, a10, a11, a12, a13, a14, a15, a16, a17, a18, a19, a20, a21, a22, a23, a24, a25, a26, a27, a28, a29, a30, a31])).av, .int .i64 0]) := by kernel_rfl
theorem run16 (s : List UInt8) : (run1 Try.prog nc3i (mask 16) 200 16 [.str s] [] Try.prog.globals.size).map (·.1) = some (.tup [(ofEl s).av, .int .i64 (ofEr s)]) := by
  cases h : isLen s 32
  · have e1 : ofEl s = zeroE := by simp only [ofEl, h, cond_false]
    have e2 : ofEr s = 2 := by simp only [ofEr, h, cond_false]
    rw [e1, e2]
    exact ansO_run (noPS_ok _) (P := Try.prog) (cs := nc3i) (sy := [7]) (os := [true]) (vs := []) (nn := mask 16) (F := 200) (f := 16) (ob := [((s.length : Int) != 32)]) (show ansO (run1O Try.prog noPS nc3i [7] [true] [] (mask 16) 200 16 [.str s] [] Try.prog.globals.size) = some (.tup [zeroE.av, .int .i64 2], [((s.length : Int) != 32)]) from by kernel_rfl) (by simp [allT, ne32 h])
  · have e1 : ofEl s = carriedE (ofE0 s) := by simp only [ofEl, h, cond_true]
    have e2 : ofEr s = 0 := by simp only [ofEr, h, cond_true]
    rw [e1, e2]
    obtain ⟨a0, a1, a2, a3, a4, a5, a6, a7, a8, a9, a10, a11, a12, a13, a14, a15, a16, a17, a18, a19, a20, a21, a22, a23, a24, a25, a26, a27, a28, a29, a30, a31, rfl⟩ := len32 (isLen_eq.1 h)
    exact run16t a0 a1 a2 a3 a4 a5 a6 a7 a8 a9 a10 a11 a12 a13 a14 a15 a16 a17 a18 a19 a20 a21 a22 a23 a24 a25 a26 a27 a28 a29 a30 a31
def g16 : List AVal → Option EffA
  | [.str a] => some (.pure (.tup [(E5.av (ofEl a)), .int .i64 (ofEr a)]))
  | _ => none
theorem g16_ok : CSOk Try.prog (csOne 16 g16) := csOne_ok fun args e he => by
  unfold g16 at he
  split at he
  · rename_i a
    cases he
    exact callOk_val nc3i_ok hmix (run16 a) rfl rfl
  · cases he
def nc4 : CS := (csAlt (csOne 16 g16) nc3)
theorem nc4_ok : CSOk Try.prog nc4 := (csAlt_ok g16_ok nc3_ok)
theorem run17 (s : List UInt8) : (run1 Try.prog nc4 (mask 17) 100 17 [.str s] [] Try.prog.globals.size).map (·.1) = some (.bool (canonE s)) := by
  cases h : (ofEr s == 0)
  · have e : canonE s = false := by simp only [canonE, h, Bool.false_and]
    rw [e]
    exact ansO_run (noPS_ok _) (P := Try.prog) (cs := nc4) (sy := [11]) (os := [false]) (vs := []) (nn := mask 17) (F := 100) (f := 17) (ob := [!(ofEr s == 0)]) (show ansO (run1O Try.prog noPS nc4 [11] [false] [] (mask 17) 100 17 [.str s] [] Try.prog.globals.size) = some (.bool false, [!(ofEr s == 0)]) from by kernel_rfl) (by simp [allT, h])
  · have e : canonE s = (bytesE (ofEl s) == s) := by simp only [canonE, h, Bool.true_and]
    rw [e]
    exact ansO_run (noPS_ok _) (P := Try.prog) (cs := nc4) (sy := [11]) (os := [true]) (vs := []) (nn := mask 17) (F := 100) (f := 17) (ob := [(ofEr s == 0)]) (show ansO (run1O Try.prog noPS nc4 [11] [true] [] (mask 17) 100 17 [.str s] [] Try.prog.globals.size) = some (.bool (bytesE (ofEl s) == s), [(ofEr s == 0)]) from by kernel_rfl) (by simp [allT, h])
def g17 : List AVal → Option EffA
  | [.str a] => some (.pure (.bool (canonE a)))
  | _ => none
theorem g17_ok : CSOk Try.prog (csOne 17 g17) := csOne_ok fun args e he => by
  unfold g17 at he
  split at he
  · rename_i a
    cases he
    exact callOk_val nc4_ok hmix (run17 a) rfl rfl
  · cases he
end Go.Proofs.Ytkgbpnihbamceaa
