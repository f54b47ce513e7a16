/- Numbers modulo the order: the program's other functions. -/
import Derived.Test.YtalflblaefffnaaOrd3
import Derived.Test.YtalflblaefffnaaNum3
namespace Go.Proofs.Ytalflblaefffnaa
set_option linter.unusedVariables false
set_option linter.unusedSimpArgs false
open Go Go.Eng Go.Num
set_option maxRecDepth 100000
set_option maxHeartbeats 1000000
set_option linter.unusedSimpArgs false
set_option linter.unusedVariables false
theorem run7 (s : List UInt8) : (run1 Try.prog cs3i (mask 7) 200 7 [.str s] [] Try.prog.globals.size).map (·.1) = some (.tup [(oV s).av, .int .i64 (oE s)]) := by
  cases h1 : isLen s 32
  · cases h2 : isLen s 64
    · have e1 : oV s = zeroW := by simp only [oV, okL_eq, h1, h2, Bool.or_self, cond_false]
      have e2 : oE s = 2 := by simp only [oE, okL_eq, h1, h2, Bool.or_self, cond_false]
      rw [e1, e2]
      exact ansO_run (noPS_ok _) (P := Try.prog) (cs := cs3i) (sy := [6, 10]) (os := [true, true]) (nn := mask 7) (F := 200) (f := 7) (ob := [((s.length : Int) != 64), ((s.length : Int) != 32)]) (show ansO (run1O Try.prog noPS cs3i [6, 10] [true, true] (mask 7) 200 7 [.str s] [] Try.prog.globals.size) = some (.tup [zeroW.av, .int .i64 2], [((s.length : Int) != 64), ((s.length : Int) != 32)]) from by kernel_rfl) (by simp [allT, ne32 h1, ne64 h2])
    · have e1 : oV s = ofW s := by simp only [oV, okL_eq, h1, h2, Bool.false_or, cond_true]
      have e2 : oE s = 0 := by simp only [oE, okL_eq, h1, h2, Bool.false_or, cond_true]
      rw [e1, e2]
      obtain ⟨a, b, rfl, ha, hb⟩ := len64 (isLen_eq.1 h2)
      obtain ⟨a0, a1, a2, a3, a4, a5, a6, a7, a8, a9, a10, a11, a12, a13, a14, a15, a16, a17, a18, a19, a20, a21, a22, a23, a24, a25, a26, a27, a28, a29, a30, a31, rfl⟩ := len32 ha
      obtain ⟨b0, b1, b2, b3, b4, b5, b6, b7, b8, b9, b10, b11, b12, b13, b14, b15, b16, b17, b18, b19, b20, b21, b22, b23, b24, b25, b26, b27, b28, b29, b30, b31, rfl⟩ := len32 hb
      exact runOf64 a0 a1 a2 a3 a4 a5 a6 a7 a8 a9 a10 a11 a12 a13 a14 a15 a16 a17 a18 a19 a20 a21 a22 a23 a24 a25 a26 a27 a28 a29 a30 a31 b0 b1 b2 b3 b4 b5 b6 b7 b8 b9 b10 b11 b12 b13 b14 b15 b16 b17 b18 b19 b20 b21 b22 b23 b24 b25 b26 b27 b28 b29 b30 b31
  · have e1 : oV s = ofW s := by simp only [oV, okL_eq, h1, Bool.true_or, cond_true]
    have e2 : oE s = 0 := by simp only [oE, okL_eq, h1, Bool.true_or, cond_true]
    rw [e1, e2]
    obtain ⟨a0, a1, a2, a3, a4, a5, a6, a7, a8, a9, a10, a11, a12, a13, a14, a15, a16, a17, a18, a19, a20, a21, a22, a23, a24, a25, a26, a27, a28, a29, a30, a31, rfl⟩ := len32 (isLen_eq.1 h1)
    exact runOf32 a0 a1 a2 a3 a4 a5 a6 a7 a8 a9 a10 a11 a12 a13 a14 a15 a16 a17 a18 a19 a20 a21 a22 a23 a24 a25 a26 a27 a28 a29 a30 a31
def g7 : List AVal → Option EffA
  | [.str a] => some (.pure (.tup [(W4.av (oV a)), .int .i64 (oE a)]))
  | _ => none
theorem g7_ok : CSOk Try.prog (csOne 7 g7) := csOne_ok fun args e he => by
  unfold g7 at he
  split at he
  · rename_i a
    cases he
    exact callOk_val cs3i_ok hmix (run7 a) rfl rfl
  · cases he
theorem run22 (a : W4) : (run1 Try.prog cs3 (mask 22) 100 22 [(W4.av a)] [] Try.prog.globals.size).map (·.1) = some (.str (bytesW a)) := by kernel_rfl
def g22 : List AVal → Option EffA
  | [.agg [.u64 a0, .u64 a1, .u64 a2, .u64 a3]] => some (.pure (.str (bytesW (W4.mk a0 a1 a2 a3))))
  | _ => none
theorem g22_ok : CSOk Try.prog (csOne 22 g22) := csOne_ok fun args e he => by
  unfold g22 at he
  split at he
  · rename_i a0 a1 a2 a3
    cases he
    exact callOk_val cs3_ok hmix (run22 (W4.mk a0 a1 a2 a3)) rfl rfl
  · cases he
theorem run12 (a : W4) (b : W4) : (run1 Try.prog cs3 (mask 12) 100 12 [(W4.av a), (W4.av b)] [] Try.prog.globals.size).map (·.1) = some (.bool (sameW a b)) := by kernel_rfl
def g12 : List AVal → Option EffA
  | [.agg [.u64 a0, .u64 a1, .u64 a2, .u64 a3], .agg [.u64 b0, .u64 b1, .u64 b2, .u64 b3]] => some (.pure (.bool (sameW (W4.mk a0 a1 a2 a3) (W4.mk b0 b1 b2 b3))))
  | _ => none
theorem g12_ok : CSOk Try.prog (csOne 12 g12) := csOne_ok fun args e he => by
  unfold g12 at he
  split at he
  · rename_i a0 a1 a2 a3 b0 b1 b2 b3
    cases he
    exact callOk_val cs3_ok hmix (run12 (W4.mk a0 a1 a2 a3) (W4.mk b0 b1 b2 b3)) rfl rfl
  · cases he
theorem run8t (a0 a1 a2 a3 a4 a5 a6 a7 a8 a9 a10 a11 a12 a13 a14 a15 a16 a17 a18 a19 a20 a21 a22 a23 a24 a25 a26 a27 a28 a29 a30 a31 : UInt8) : (run1 Try.prog cs3 (mask 8) 100 8 [.str [a0, a1, a2, a3, a4, a5, a6, a7, a8, a9, a10, a11, a12, a13, a14, a15, a16, a17, a18, a19, a20, a21, a22, a23, a24, a25, a26, a27, a28, a29, a30, a31]] [] Try.prog.globals.size).map (·.1) = some (.tup [.str (clampL [a0, a1, a2, a3, a4, a5, a6, a7, a8, a9, a10, a11, a12, a13, a14, a15, a16, a17, a18, a19, a20, a21, a22, a23, a24, a25, a26, a27, a28, a29, a30, a31]), .int .i64 0]) := by kernel_rfl
theorem run8 (s : List UInt8) : (run1 Try.prog cs3 (mask 8) 100 8 [.str s] [] Try.prog.globals.size).map (·.1) = some (.tup [.str (clampV s), .int .i64 (clampE s)]) := by
  cases h : isLen s 32
  · have e1 : clampV s = [] := by simp only [clampV, h, cond_false]
    have e2 : clampE s = 2 := by simp only [clampE, h, cond_false]
    rw [e1, e2]
    exact ansO_run (noPS_ok _) (P := Try.prog) (cs := cs3) (sy := [7]) (os := [true]) (nn := mask 8) (F := 100) (f := 8) (ob := [((s.length : Int) != 32)]) (show ansO (run1O Try.prog noPS cs3 [7] [true] (mask 8) 100 8 [.str s] [] Try.prog.globals.size) = some (.tup [.str [], .int .i64 2], [((s.length : Int) != 32)]) from by kernel_rfl) (by simp [allT, ne32 h])
  · have e1 : clampV s = clampL s := by simp only [clampV, h, cond_true]
    have e2 : clampE s = 0 := by simp only [clampE, h, cond_true]
    rw [e1, e2]
    obtain ⟨a0, a1, a2, a3, a4, a5, a6, a7, a8, a9, a10, a11, a12, a13, a14, a15, a16, a17, a18, a19, a20, a21, a22, a23, a24, a25, a26, a27, a28, a29, a30, a31, rfl⟩ := len32 (isLen_eq.1 h)
    exact run8t a0 a1 a2 a3 a4 a5 a6 a7 a8 a9 a10 a11 a12 a13 a14 a15 a16 a17 a18 a19 a20 a21 a22 a23 a24 a25 a26 a27 a28 a29 a30 a31
def g8 : List AVal → Option EffA
  | [.str a] => some (.pure (.tup [.str (clampV a), .int .i64 (clampE a)]))
  | _ => none
theorem g8_ok : CSOk Try.prog (csOne 8 g8) := csOne_ok fun args e he => by
  unfold g8 at he
  split at he
  · rename_i a
    cases he
    exact callOk_val cs3_ok hmix (run8 a) rfl rfl
  · cases he
def cs4 : CS := (csAlt (csOne 7 g7) (csAlt (csOne 22 g22) (csAlt (csOne 12 g12) (csAlt (csOne 8 g8) cs3))))
theorem cs4_ok : CSOk Try.prog cs4 := (csAlt_ok g7_ok (csAlt_ok g22_ok (csAlt_ok g12_ok (csAlt_ok g8_ok cs3_ok))))
theorem run9 (s : List UInt8) : (run1 Try.prog cs4 (mask 9) 100 9 [.str s] [] Try.prog.globals.size).map (·.1) = some (.bool (canonW s)) := by
  cases h : (oE s == 0)
  · have e : canonW s = false := by simp only [canonW, h, Bool.false_and]
    rw [e]
    exact ansO_run (noPS_ok _) (P := Try.prog) (cs := cs4) (sy := [11]) (os := [false]) (nn := mask 9) (F := 100) (f := 9) (ob := [!(oE s == 0)]) (show ansO (run1O Try.prog noPS cs4 [11] [false] (mask 9) 100 9 [.str s] [] Try.prog.globals.size) = some (.bool false, [!(oE s == 0)]) from by kernel_rfl) (by simp [allT, h])
  · have e : canonW s = (bytesW (oV s) == s) := by simp only [canonW, h, Bool.true_and]
    rw [e]
    exact ansO_run (noPS_ok _) (P := Try.prog) (cs := cs4) (sy := [11]) (os := [true]) (nn := mask 9) (F := 100) (f := 9) (ob := [(oE s == 0)]) (show ansO (run1O Try.prog noPS cs4 [11] [true] (mask 9) 100 9 [.str s] [] Try.prog.globals.size) = some (.bool (bytesW (oV s) == s), [(oE s == 0)]) from by kernel_rfl) (by simp [allT, h])
def g9 : List AVal → Option EffA
  | [.str a] => some (.pure (.bool (canonW a)))
  | _ => none
theorem g9_ok : CSOk Try.prog (csOne 9 g9) := csOne_ok fun args e he => by
  unfold g9 at he
  split at he
  · rename_i a
    cases he
    exact callOk_val cs4_ok hmix (run9 a) rfl rfl
  · cases he
theorem run34 (a b : UInt64) : (run1 Try.prog cs0 (mask 34) 100 34 [.u64 a, .u64 b] [] Try.prog.globals.size).map (·.1) = some (.tup [.u64 (mulHi a b), .u64 (a * b)]) := by
  rw [← mulHiRaw_eq]
  kernel_rfl
def g34 : List AVal → Option EffA
  | [.u64 a, .u64 b] => some (.pure (.tup [.u64 (mulHi a b), .u64 (a * b)]))
  | _ => none
theorem g34_ok : CSOk Try.prog (csOne 34 g34) := csOne_ok fun args e he => by
  unfold g34 at he
  split at he
  · rename_i a b
    cases he
    exact callOk_val cs0_ok hmix (run34 a b) rfl rfl
  · cases he
def cs5 : CS := (csAlt (csOne 9 g9) (csAlt (csOne 34 g34) cs4))
theorem cs5_ok : CSOk Try.prog cs5 := (csAlt_ok g9_ok (csAlt_ok g34_ok cs4_ok))
noncomputable def cs5i : CS := inlW Try.prog mask 200 cs5 3
theorem cs5i_ok : CSOk Try.prog cs5i := inlW_ok hmix cs5_ok 3
theorem run18 (a : W4) (b : W4) : (run1 Try.prog cs5i (mask 18) 200 18 [(W4.av a), (W4.av b)] [] Try.prog.globals.size).map (·.1) = some (W4.av (mulW a b)) := by kernel_rfl
def g18 : List AVal → Option EffA
  | [.agg [.u64 a0, .u64 a1, .u64 a2, .u64 a3], .agg [.u64 b0, .u64 b1, .u64 b2, .u64 b3]] => some (.pure (W4.av (mulW (W4.mk a0 a1 a2 a3) (W4.mk b0 b1 b2 b3))))
  | _ => none
theorem g18_ok : CSOk Try.prog (csOne 18 g18) := csOne_ok fun args e he => by
  unfold g18 at he
  split at he
  · rename_i a0 a1 a2 a3 b0 b1 b2 b3
    cases he
    exact callOk_val cs5i_ok hmix (run18 (W4.mk a0 a1 a2 a3) (W4.mk b0 b1 b2 b3)) rfl rfl
  · cases he
theorem run20 (a : W4) : (run1 Try.prog cs5 (mask 20) 100 20 [a.av] [] Try.prog.globals.size).map (·.1) = some (negW a).av := by
  cases h : isZ4 a
  · have e : negW a = minusW orderW a := by simp [negW, ← isZ4_eq, h]
    rw [e]
    exact ansO_run (noPS_ok _) (P := Try.prog) (cs := cs5) (sy := [7]) (os := [false]) (nn := mask 20) (F := 100) (f := 20) (ob := [!isZ4 a]) (show ansO (run1O Try.prog noPS cs5 [7] [false] (mask 20) 100 20 [a.av] [] Try.prog.globals.size) = some ((minusW orderW a).av, [!isZ4 a]) from by kernel_rfl) (by simp [allT, h])
  · have e : negW a = a := by simp [negW, ← isZ4_eq, h]
    rw [e]
    exact ansO_run (noPS_ok _) (P := Try.prog) (cs := cs5) (sy := [7]) (os := [true]) (nn := mask 20) (F := 100) (f := 20) (ob := [isZ4 a]) (show ansO (run1O Try.prog noPS cs5 [7] [true] (mask 20) 100 20 [a.av] [] Try.prog.globals.size) = some (a.av, [isZ4 a]) from by kernel_rfl) (by simp [allT, h])
def g20 : List AVal → Option EffA
  | [.agg [.u64 a0, .u64 a1, .u64 a2, .u64 a3]] => some (.pure (W4.av (negW (W4.mk a0 a1 a2 a3))))
  | _ => none
theorem g20_ok : CSOk Try.prog (csOne 20 g20) := csOne_ok fun args e he => by
  unfold g20 at he
  split at he
  · rename_i a0 a1 a2 a3
    cases he
    exact callOk_val cs5_ok hmix (run20 (W4.mk a0 a1 a2 a3)) rfl rfl
  · cases he
def cs6 : CS := (csAlt (csOne 18 g18) (csAlt (csOne 20 g20) cs5))
theorem cs6_ok : CSOk Try.prog cs6 := (csAlt_ok g18_ok (csAlt_ok g20_ok cs5_ok))
end Go.Proofs.Ytalflblaefffnaa
