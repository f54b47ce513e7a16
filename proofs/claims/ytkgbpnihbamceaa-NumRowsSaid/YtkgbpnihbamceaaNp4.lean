/- Numbers modulo 2^255 - 19: the document's sums and products. -/
import Derived.Test.YtkgbpnihbamceaaNp3
namespace Go.Proofs.Ytkgbpnihbamceaa
set_option linter.unusedVariables false
set_option linter.unusedSimpArgs false
open Go Go.Eng Go.Num
set_option maxRecDepth 100000
set_option maxHeartbeats 1000000
set_option linter.unusedSimpArgs false
set_option linter.unusedVariables false
theorem run20 (a : UInt32) : (run1 Try.prog nr1 (mask 20) 100 20 [(.u32 a)] [] Try.prog.globals.size).map (·.1) = some (N16.av (smallN a)) := by kernel_rfl
def g20 : List AVal → Option EffA
  | [.u32 a] => some (.pure (N16.av (smallN a)))
  | _ => none
theorem g20_ok : CSOk Try.prog (csOne 20 g20) := csOne_ok fun args e he => by
  unfold g20 at he
  split at he
  · rename_i a
    cases he
    exact callOk_val nr1_ok hmix (run20 a) rfl rfl
  · cases he
theorem run10t (a0 a1 a2 a3 a4 a5 a6 a7 a8 a9 a10 a11 a12 a13 a14 a15 a16 a17 a18 a19 a20 a21 a22 a23 a24 a25 a26 a27 a28 a29 a30 a31 : UInt8) : (run1 Try.prog nr2 (mask 10) 100 10 [.str [a0, a1, a2, a3, a4, a5, a6, a7, a8, a9, a10, a11, a12, a13, a14, a15, a16, a17, a18, a19, a20, a21, a22, a23, a24, a25, a26, a27, a28, a29, a30, a31]] [] Try.prog.globals.size).map (·.1) = some (ofP [a0, a1, a2, a3, a4, a5, a6, a7, a8, a9, a10, a11, a12, a13, a14, a15, a16, a17, a18, a19, a20, a21, a22, a23, a24, a25, a26, a27, a28, a29, a30, a31]).av :=
  ansO_run nr2_ps (P := Try.prog) (cs := nr2) (sy := [6]) (os := []) (vs := []) (nn := mask 10) (F := 100) (f := 10) (ob := [bndL (wideN (partsN [a0, a1, a2, a3, a4, a5, a6, a7, a8, a9, a10, a11, a12, a13, a14, a15, a16, a17, a18, a19, a20, a21, a22, a23, a24, a25, a26, a27, a28, a29, a30, a31])).list]) (show ansO (run1O Try.prog (psOne 32 p32) nr2 [6] [] [] (mask 10) 100 10 [.str [a0, a1, a2, a3, a4, a5, a6, a7, a8, a9, a10, a11, a12, a13, a14, a15, a16, a17, a18, a19, a20, a21, a22, a23, a24, a25, a26, a27, a28, a29, a30, a31]] [] Try.prog.globals.size) = some ((ofP [a0, a1, a2, a3, a4, a5, a6, a7, a8, a9, a10, a11, a12, a13, a14, a15, a16, a17, a18, a19, a20, a21, a22, a23, a24, a25, a26, a27, a28, a29, a30, a31]).av, [bndL (wideN (partsN [a0, a1, a2, a3, a4, a5, a6, a7, a8, a9, a10, a11, a12, a13, a14, a15, a16, a17, a18, a19, a20, a21, a22, a23, a24, a25, a26, a27, a28, a29, a30, a31])).list]) from by kernel_rfl) (by rw [ofP_bnd (s := [a0, a1, a2, a3, a4, a5, a6, a7, a8, a9, a10, a11, a12, a13, a14, a15, a16, a17, a18, a19, a20, a21, a22, a23, a24, a25, a26, a27, a28, a29, a30, a31]) rfl]; rfl)
theorem run10 (s : List UInt8) (h : isLen s 32 = true) : (run1 Try.prog nr2 (mask 10) 100 10 [.str s] [] Try.prog.globals.size).map (·.1) = some (ofP s).av := by
  obtain ⟨a0, a1, a2, a3, a4, a5, a6, a7, a8, a9, a10, a11, a12, a13, a14, a15, a16, a17, a18, a19, a20, a21, a22, a23, a24, a25, a26, a27, a28, a29, a30, a31, rfl⟩ := len32 (isLen_eq.1 h)
  exact run10t a0 a1 a2 a3 a4 a5 a6 a7 a8 a9 a10 a11 a12 a13 a14 a15 a16 a17 a18 a19 a20 a21 a22 a23 a24 a25 a26 a27 a28 a29 a30 a31
def p10 : List AVal → Option (EffA × Bool)
  | [.str a] => some (.pure ((ofP a).av), isLen a 32)
  | _ => none
theorem p10_ok : CSOk Try.prog (csP (psOne 10 p10)) := csP_one fun args v he => by
  unfold p10 at he
  split at he
  · rename_i a
    simp only [Option.some.injEq, Prod.mk.injEq] at he
    obtain ⟨rfl, h⟩ := he
    exact callOk_val nr2_ok hmix (run10 a h) rfl rfl
  · cases he
theorem run24 (a b : N16) (h : (okB a && okB b) = true) : (run1 Try.prog nr2 (mask 24) 200 24 [a.av, b.av] [] Try.prog.globals.size).map (·.1) = some (addP a b).av := by
  rw [Bool.and_eq_true, okB_iff, okB_iff] at h
  exact ansO_run nr2_ps (P := Try.prog) (cs := nr2) (sy := [23]) (os := []) (vs := []) (nn := mask 24) (F := 200) (f := 24) (ob := [bndL (N32.list ⟨N16.ofL (sumL a.list b.list), zeroN⟩)]) (show ansO (run1O Try.prog (psOne 32 p32) nr2 [23] [] [] (mask 24) 200 24 [a.av, b.av] [] Try.prog.globals.size) = some ((addP a b).av, [bndL (N32.list ⟨N16.ofL (sumL a.list b.list), zeroN⟩)]) from by kernel_rfl) (by rw [(addP_bnd a b h.1 h.2).1]; rfl)
def p24 : List AVal → Option (EffA × Bool)
  | [.agg [.u64 a0, .u64 a1, .u64 a2, .u64 a3, .u64 a4, .u64 a5, .u64 a6, .u64 a7, .u64 a8, .u64 a9, .u64 a10, .u64 a11, .u64 a12, .u64 a13, .u64 a14, .u64 a15], .agg [.u64 b0, .u64 b1, .u64 b2, .u64 b3, .u64 b4, .u64 b5, .u64 b6, .u64 b7, .u64 b8, .u64 b9, .u64 b10, .u64 b11, .u64 b12, .u64 b13, .u64 b14, .u64 b15]] => some (.pure ((addP (N16.mk a0 a1 a2 a3 a4 a5 a6 a7 a8 a9 a10 a11 a12 a13 a14 a15) (N16.mk b0 b1 b2 b3 b4 b5 b6 b7 b8 b9 b10 b11 b12 b13 b14 b15)).av), okB (N16.mk a0 a1 a2 a3 a4 a5 a6 a7 a8 a9 a10 a11 a12 a13 a14 a15) && okB (N16.mk b0 b1 b2 b3 b4 b5 b6 b7 b8 b9 b10 b11 b12 b13 b14 b15))
  | _ => none
theorem p24_ok : CSOk Try.prog (csP (psOne 24 p24)) := csP_one fun args v he => by
  unfold p24 at he
  split at he
  · rename_i a0 a1 a2 a3 a4 a5 a6 a7 a8 a9 a10 a11 a12 a13 a14 a15 b0 b1 b2 b3 b4 b5 b6 b7 b8 b9 b10 b11 b12 b13 b14 b15
    simp only [Option.some.injEq, Prod.mk.injEq] at he
    obtain ⟨rfl, h⟩ := he
    exact callOk_val nr2_ok hmix (run24 (N16.mk a0 a1 a2 a3 a4 a5 a6 a7 a8 a9 a10 a11 a12 a13 a14 a15) (N16.mk b0 b1 b2 b3 b4 b5 b6 b7 b8 b9 b10 b11 b12 b13 b14 b15) h) rfl rfl
  · cases he
theorem run28 (a b : N16) (h : (okB a && okB b) = true) : (run1 Try.prog nr2 (mask 28) 200 28 [a.av, b.av] [] Try.prog.globals.size).map (·.1) = some (mulP a b).av := by
  rw [Bool.and_eq_true, okB_iff, okB_iff] at h
  exact ansO_run nr2_ps (P := Try.prog) (cs := nr2) (sy := [34]) (os := []) (vs := []) (nn := mask 28) (F := 200) (f := 28) (ob := [bndL (prodT a b).list]) (show ansO (run1O Try.prog (psOne 32 p32) nr2 [34] [] [] (mask 28) 200 28 [a.av, b.av] [] Try.prog.globals.size) = some ((mulP a b).av, [bndL (prodT a b).list]) from by kernel_rfl) (by rw [(mulP_bnd a b h.1 h.2).1]; rfl)
def p28 : List AVal → Option (EffA × Bool)
  | [.agg [.u64 a0, .u64 a1, .u64 a2, .u64 a3, .u64 a4, .u64 a5, .u64 a6, .u64 a7, .u64 a8, .u64 a9, .u64 a10, .u64 a11, .u64 a12, .u64 a13, .u64 a14, .u64 a15], .agg [.u64 b0, .u64 b1, .u64 b2, .u64 b3, .u64 b4, .u64 b5, .u64 b6, .u64 b7, .u64 b8, .u64 b9, .u64 b10, .u64 b11, .u64 b12, .u64 b13, .u64 b14, .u64 b15]] => some (.pure ((mulP (N16.mk a0 a1 a2 a3 a4 a5 a6 a7 a8 a9 a10 a11 a12 a13 a14 a15) (N16.mk b0 b1 b2 b3 b4 b5 b6 b7 b8 b9 b10 b11 b12 b13 b14 b15)).av), okB (N16.mk a0 a1 a2 a3 a4 a5 a6 a7 a8 a9 a10 a11 a12 a13 a14 a15) && okB (N16.mk b0 b1 b2 b3 b4 b5 b6 b7 b8 b9 b10 b11 b12 b13 b14 b15))
  | _ => none
theorem p28_ok : CSOk Try.prog (csP (psOne 28 p28)) := csP_one fun args v he => by
  unfold p28 at he
  split at he
  · rename_i a0 a1 a2 a3 a4 a5 a6 a7 a8 a9 a10 a11 a12 a13 a14 a15 b0 b1 b2 b3 b4 b5 b6 b7 b8 b9 b10 b11 b12 b13 b14 b15
    simp only [Option.some.injEq, Prod.mk.injEq] at he
    obtain ⟨rfl, h⟩ := he
    exact callOk_val nr2_ok hmix (run28 (N16.mk a0 a1 a2 a3 a4 a5 a6 a7 a8 a9 a10 a11 a12 a13 a14 a15) (N16.mk b0 b1 b2 b3 b4 b5 b6 b7 b8 b9 b10 b11 b12 b13 b14 b15) h) rfl rfl
  · cases he
theorem run30 (a : N16) : (run1 Try.prog nr2 (mask 30) 100 30 [a.av] [] Try.prog.globals.size).map (·.1) = some (negP a).av := by
  cases h : isZ16 a
  · have e : negP a = minusN primeN a := by simp only [negP, h, cond_false]
    rw [e]
    exact ansO_run (noPS_ok _) (P := Try.prog) (cs := nr2) (sy := [5]) (os := [false]) (vs := []) (nn := mask 30) (F := 100) (f := 30) (ob := [!isZ16 a]) (show ansO (run1O Try.prog noPS nr2 [5] [false] [] (mask 30) 100 30 [a.av] [] Try.prog.globals.size) = some ((minusN primeN a).av, [!isZ16 a]) from by kernel_rfl) (by simp [allT, h])
  · have e : negP a = a := by simp only [negP, h, cond_true]
    rw [e]
    exact ansO_run (noPS_ok _) (P := Try.prog) (cs := nr2) (sy := [5]) (os := [true]) (vs := []) (nn := mask 30) (F := 100) (f := 30) (ob := [isZ16 a]) (show ansO (run1O Try.prog noPS nr2 [5] [true] [] (mask 30) 100 30 [a.av] [] Try.prog.globals.size) = some (a.av, [isZ16 a]) from by kernel_rfl) (by simp [allT, h])
def g30 : List AVal → Option EffA
  | [.agg [.u64 a0, .u64 a1, .u64 a2, .u64 a3, .u64 a4, .u64 a5, .u64 a6, .u64 a7, .u64 a8, .u64 a9, .u64 a10, .u64 a11, .u64 a12, .u64 a13, .u64 a14, .u64 a15]] => some (.pure (N16.av (negP (N16.mk a0 a1 a2 a3 a4 a5 a6 a7 a8 a9 a10 a11 a12 a13 a14 a15))))
  | _ => none
theorem g30_ok : CSOk Try.prog (csOne 30 g30) := csOne_ok fun args e he => by
  unfold g30 at he
  split at he
  · rename_i a0 a1 a2 a3 a4 a5 a6 a7 a8 a9 a10 a11 a12 a13 a14 a15
    cases he
    exact callOk_val nr2_ok hmix (run30 (N16.mk a0 a1 a2 a3 a4 a5 a6 a7 a8 a9 a10 a11 a12 a13 a14 a15)) rfl rfl
  · cases he
theorem run18t (a0 a1 a2 a3 a4 a5 a6 a7 a8 a9 a10 a11 a12 a13 a14 a15 a16 a17 a18 a19 a20 a21 a22 a23 a24 a25 a26 a27 a28 a29 a30 a31 : UInt8) : (run1 Try.prog nr2 (mask 18) 100 18 [.str [a0, a1, a2, a3, a4, a5, a6, a7, a8, a9, a10, a11, a12, a13, a14, a15, a16, a17, a18, a19, a20, a21, a22, a23, a24, a25, a26, a27, a28, a29, a30, a31]] [] Try.prog.globals.size).map (·.1) = some (.bool (lessN (partsN [a0, a1, a2, a3, a4, a5, a6, a7, a8, a9, a10, a11, a12, a13, a14, a15, a16, a17, a18, a19, a20, a21, a22, a23, a24, a25, a26, a27, a28, a29, a30, a31]) primeN)) := by kernel_rfl
theorem run18 (s : List UInt8) : (run1 Try.prog nr2 (mask 18) 100 18 [.str s] [] Try.prog.globals.size).map (·.1) = some (.bool (canonP s)) := by
  cases h : isLen s 32
  · have e : canonP s = false := by simp [canonP, h]
    rw [e]
    exact ansO_run (noPS_ok _) (P := Try.prog) (cs := nr2) (sy := [5]) (os := [false]) (vs := []) (nn := mask 18) (F := 100) (f := 18) (ob := [!((s.length : Int) == 32)]) (show ansO (run1O Try.prog noPS nr2 [5] [false] [] (mask 18) 100 18 [.str s] [] Try.prog.globals.size) = some (.bool false, [!((s.length : Int) == 32)]) from by kernel_rfl) (by simp [allT, ne32 h])
  · have e : canonP s = lessN (partsN s) primeN := by simp [canonP, h]
    rw [e]
    obtain ⟨a0, a1, a2, a3, a4, a5, a6, a7, a8, a9, a10, a11, a12, a13, a14, a15, a16, a17, a18, a19, a20, a21, a22, a23, a24, a25, a26, a27, a28, a29, a30, a31, rfl⟩ := len32 (isLen_eq.1 h)
    exact run18t a0 a1 a2 a3 a4 a5 a6 a7 a8 a9 a10 a11 a12 a13 a14 a15 a16 a17 a18 a19 a20 a21 a22 a23 a24 a25 a26 a27 a28 a29 a30 a31
def g18 : List AVal → Option EffA
  | [.str s] => some (.pure (.bool (canonP s)))
  | _ => none
theorem g18_ok : CSOk Try.prog (csOne 18 g18) := csOne_ok fun args e he => by
  unfold g18 at he
  split at he
  · cases he
    exact callOk_val nr2_ok hmix (run18 _) rfl rfl
  · cases he
def np1 : PS := psAlt (psOne 24 p24) (psAlt (psOne 28 p28) (psOne 10 p10))
theorem np1_ok : CSOk Try.prog (csP np1) := csP_alt p24_ok (csP_alt p28_ok (p10_ok))
def nr3a : CS := (csAlt (csOne 20 g20) (csAlt (csOne 30 g30) (csAlt (csOne 18 g18) nr2)))
theorem nr3a_ok : CSOk Try.prog nr3a := (csAlt_ok g20_ok (csAlt_ok g30_ok (csAlt_ok g18_ok nr2_ok)))
def nr3 : CS := csAlt (csP np1) nr3a
theorem nr3_ok : CSOk Try.prog nr3 := csAlt_ok np1_ok nr3a_ok
theorem nr3_ps : PSOk np1 nr3 := csP_ok
theorem run26 (a b : N16) (h : (okB a && okB b) = true) : (run1 Try.prog nr3 (mask 26) 200 26 [a.av, b.av] [] Try.prog.globals.size).map (·.1) = some (subP a b).av := by
  rw [Bool.and_eq_true, okB_iff, okB_iff] at h
  exact ansO_run nr3_ps (P := Try.prog) (cs := nr3) (sy := [8]) (os := []) (vs := []) (nn := mask 26) (F := 200) (f := 26) (ob := [okB a && okB (negP b)]) (show ansO (run1O Try.prog np1 nr3 [8] [] [] (mask 26) 200 26 [a.av, b.av] [] Try.prog.globals.size) = some ((subP a b).av, [okB a && okB (negP b)]) from by kernel_rfl) (by rw [okB_iff.2 h.1, okB_iff.2 (negP_ok b h.2)]; rfl)
def p26 : List AVal → Option (EffA × Bool)
  | [.agg [.u64 a0, .u64 a1, .u64 a2, .u64 a3, .u64 a4, .u64 a5, .u64 a6, .u64 a7, .u64 a8, .u64 a9, .u64 a10, .u64 a11, .u64 a12, .u64 a13, .u64 a14, .u64 a15], .agg [.u64 b0, .u64 b1, .u64 b2, .u64 b3, .u64 b4, .u64 b5, .u64 b6, .u64 b7, .u64 b8, .u64 b9, .u64 b10, .u64 b11, .u64 b12, .u64 b13, .u64 b14, .u64 b15]] => some (.pure ((subP (N16.mk a0 a1 a2 a3 a4 a5 a6 a7 a8 a9 a10 a11 a12 a13 a14 a15) (N16.mk b0 b1 b2 b3 b4 b5 b6 b7 b8 b9 b10 b11 b12 b13 b14 b15)).av), okB (N16.mk a0 a1 a2 a3 a4 a5 a6 a7 a8 a9 a10 a11 a12 a13 a14 a15) && okB (N16.mk b0 b1 b2 b3 b4 b5 b6 b7 b8 b9 b10 b11 b12 b13 b14 b15))
  | _ => none
theorem p26_ok : CSOk Try.prog (csP (psOne 26 p26)) := csP_one fun args v he => by
  unfold p26 at he
  split at he
  · rename_i a0 a1 a2 a3 a4 a5 a6 a7 a8 a9 a10 a11 a12 a13 a14 a15 b0 b1 b2 b3 b4 b5 b6 b7 b8 b9 b10 b11 b12 b13 b14 b15
    simp only [Option.some.injEq, Prod.mk.injEq] at he
    obtain ⟨rfl, h⟩ := he
    exact callOk_val nr3_ok hmix (run26 (N16.mk a0 a1 a2 a3 a4 a5 a6 a7 a8 a9 a10 a11 a12 a13 a14 a15) (N16.mk b0 b1 b2 b3 b4 b5 b6 b7 b8 b9 b10 b11 b12 b13 b14 b15) h) rfl rfl
  · cases he
def Spw (a x : N16) (bits : List Bool) (ro : Bool) (i : Int) : SA := ⟨[(0, a.av), (1, .slice 0 0 bits.length 1), (2, .ptr 1 0), (4, .ptr 9 0), (5, .ptr 25 0), (6, .int .i64 i)], [(0, .cells ro (bits.map .bool)), (1, .cells false a.cells), (9, .cells false zeroN.cells), (25, .cells false x.cells)], 49⟩
noncomputable def ppw : List Code := pieces (bodyOf Try.f38)
noncomputable def bpw : Code := loopOf (ppw.getD 3 .skip)
theorem powA (F : Nat) (a : N16) (bits : List Bool) (ro : Bool) : segO (evSO Try.prog np1 nr3 [] 25 (mask 38) F 1 ((ppw.drop 0).take 3) ⟨startT [a.av, .slice 0 0 bits.length 1] 0, [(0, .cells ro (bits.map .bool))], 1⟩ ⟨[], [], []⟩) = some (Spw a (smallN 1) bits ro 0, []) := by kernel_rfl
theorem powT (F : Nat) (a x0 x : N16) (bits : List Bool) (ro : Bool) (j i : Int) : roundO2 Try.prog np1 nr3 [11, 16, 19, 20, 23] [true, true] [.bool true] 25 (mask 38) F 1 bpw (Spw a x0 bits ro j) (Spw a x bits ro i) = some (Spw a (mulP (mulP x x) a) bits ro (IntKind.wrap .i64 (i + 1)), [okB (mulP x x) && okB a, true, isAt (bits.map .bool) (0 + i.toNat * 1) (.bool true), (decide ((0 : Int) ≤ i) && decide (i < (bits.length : Int))), okB x && okB x, decide (i < (bits.length : Int))]) := by kernel_rfl
theorem pow_ok (a x : N16) (bits : List Bool) (ro : Bool) (i : Int) : okS Try.prog (Spw a x bits ro i) = true := by
  have hg : Try.prog.globals.size = 0 := by kernel_rfl
  simp [okS, hg, Spw, ltT, ltH, ltV, ltS, ltL, ltL_bool, N16.av, N16.cells, nble]
theorem powN (F : Nat) (a x0 x : N16) (bits : List Bool) (ro : Bool) (j i : Int) : roundO2 Try.prog np1 nr3 [11, 16, 19, 20, 23] [true, false] [.bool false] 25 (mask 38) F 1 bpw (Spw a x0 bits ro j) (Spw a x bits ro i) = some (Spw a (mulP x x) bits ro (IntKind.wrap .i64 (i + 1)), [true, isAt (bits.map .bool) (0 + i.toNat * 1) (.bool false), (decide ((0 : Int) ≤ i) && decide (i < (bits.length : Int))), okB x && okB x, decide (i < (bits.length : Int))]) := by kernel_rfl
theorem powR (F : Nat) (a x0 x : N16) (bits : List Bool) (ro : Bool) (j : Int) (i : Nat) (b : Bool) (hx : x.ok) (ha : a.ok) (hb : bits[i]? = some b) (hl : bits.length < 100000) : roundA (evC Try.prog nr3 25 (mask 38) F 1 bpw) (headA Try.prog 1 (Spw a x0 bits ro j)) (Spw a x bits ro i) = some (Spw a (cond b (mulP (mulP x x) a) (mulP x x)) bits ro ((i + 1 : Nat) : Int)) := by
  have hi : i < bits.length := (List.getElem?_eq_some_iff.1 hb).1
  have hw : IntKind.wrap .i64 ((i : Int) + 1) = ((i + 1 : Nat) : Int) := wrapI _ (by omega) (by omega)
  have h1 := okB_iff.2 hx
  have h2 := okB_iff.2 ha
  have h3 := okB_iff.2 (mulP_val x x hx hx).1
  have hat : ∀ c, b = c → isAt (bits.map AVal.bool) (0 + (i : Int).toNat * 1) (.bool c) = true := fun c hc => by
    subst hc
    have e : 0 + (i : Int).toNat * 1 = i := by omega
    unfold isAt
    rw [e, List.getElem?_map, hb]
    simp [eqS]
  have d1 : decide ((0 : Int) ≤ (i : Int)) = true := by rw [decide_eq_true_iff]; omega
  have d2 : decide ((i : Int) < (bits.length : Int)) = true := by rw [decide_eq_true_iff]; omega
  cases b
  · have := roundO2_ok nr3_ps (powN F a x0 x bits ro j i) (by rw [hat false rfl, d1, d2, h1]; rfl) (pow_ok _ _ _ _ _)
    rw [hw] at this
    exact this
  · have := roundO2_ok nr3_ps (powT F a x0 x bits ro j i) (by rw [hat true rfl, d1, d2, h1, h2, h3]; rfl) (pow_ok _ _ _ _ _)
    rw [hw] at this
    exact this
theorem powE (F : Nat) (a x : N16) (bits : List Bool) (ro : Bool) (i : Int) : (match evT Try.prog np1 nr3 [11] 25 (mask 38) F 1 bpw (Spw a x bits ro i) ⟨[false], [], []⟩ with | some (.exit 0, s1, q) => (match evS Try.prog nr3 25 (mask 38) F 1 (ppw.drop 4) s1 with | some (XA.ret, s2) => (match resA Try.prog s2.T s2.H Try.f38.results.toList with | some [v] => some (v, aget s2.H 0, q.ob) | _ => none) | _ => none) | _ => none) = some (x.av, some (.cells ro (bits.map .bool)), [!decide (i < (bits.length : Int))]) := by kernel_rfl
def accpw (a : N16) (bits : List Bool) : Nat → N16
  | 0 => smallN 1
  | j + 1 => cond (bits.getD j false) (mulP (mulP (accpw a bits j) (accpw a bits j)) a) (mulP (accpw a bits j) (accpw a bits j))
theorem accpw_eq (a : N16) (bits : List Bool) : ∀ j, j ≤ bits.length → powF a (accpw a bits j) (bits.drop j) = powP a bits
  | 0, _ => rfl
  | j + 1, h => by
    have := accpw_eq a bits j (by omega)
    have hj : j < bits.length := by omega
    rw [← this, List.drop_eq_getElem_cons hj]
    have e : bits[j] = bits.getD j false := by rw [List.getD_eq_getElem?_getD, List.getElem?_eq_getElem hj]; rfl
    rw [e]; rfl
theorem accpw_ok (a : N16) (ha : a.ok) (bits : List Bool) : ∀ j, (accpw a bits j).ok
  | 0 => (smallN_val 1).1
  | j + 1 => by
    have h1 := (mulP_val _ _ (accpw_ok a ha bits j) (accpw_ok a ha bits j)).1
    show (cond (bits.getD j false) (mulP (mulP (accpw a bits j) (accpw a bits j)) a) (mulP (accpw a bits j) (accpw a bits j))).ok
    cases bits.getD j false
    · exact h1
    · exact (mulP_val _ _ h1 ha).1
theorem run38 (a : N16) (ha : a.ok) (bits : List Bool) (hl : bits.length < 1000) (ro : Bool) : ∃ r, run1 Try.prog nr3 (mask 38) 1000 38 [a.av, .slice 0 0 bits.length 1] [(0, .cells ro (bits.map .bool))] 1 = some r ∧ r.1 = (powP a bits).av ∧ aget r.2.1 0 = some (.cells ro (bits.map .bool)) := by
  have hx : accpw a bits bits.length = powP a bits := by
    have := accpw_eq a bits bits.length (Nat.le_refl _)
    rw [List.drop_length] at this
    exact this
  have he := powE 1000 a (powP a bits) bits ro bits.length
  split at he
  · rename_i s1 q h1
    split at he
    · rename_i s2 h2
      split at he
      · rename_i v h3
        simp only [Option.some.injEq, Prod.mk.injEq] at he
        obtain ⟨rfl, e2, e3⟩ := he
        have hA := segO_ok nr3_ps (powA 1000 a bits ro) rfl
        rw [List.drop_zero] at hA
        have hB := evS_loop (P := Try.prog) (cs := nr3) (nt := 25) (nn := mask 38) (F := 1000) (bs := 1) (l := ppw) (k := 3) (id := 0) (b := bpw) (by kernel_rfl) (fun j => Spw a (accpw a bits j) bits ro j) bits.length (s1 := s1)
          (fun j hj => powR 1000 a _ _ bits ro _ j (bits.getD j false) (accpw_ok a ha bits j) ha (by rw [List.getD_eq_getElem?_getD, List.getElem?_eq_getElem hj]; rfl) (by omega))
          (by
            show evC Try.prog nr3 25 (mask 38) 1000 1 bpw (Spw a (accpw a bits bits.length) bits ro bits.length) = _
            rw [hx]
            exact (evT_ok nr3_ps _ _ _ _ _ _ h1 (by rw [e3]; simp [allT])).1) hl
        have hev : evS Try.prog nr3 Try.f38.ntmps (mask 38) 1000 1 (pieces (bodyOf Try.f38)) ⟨startT [a.av, .slice 0 0 bits.length 1] 0, [(0, .cells ro (bits.map .bool))], 1⟩ = some (XA.ret, s2) := by
          refine Eq.trans hA (Eq.trans hB ?_)
          exact h2
        refine ⟨_, run1_of (fn := Try.f38) (c := bodyOf Try.f38) (by kernel_rfl) (by kernel_rfl) (by kernel_rfl) hev rfl |>.trans (by rw [h3]), rfl, e2⟩
      · cases he
    · cases he
  · cases he
def gbits (a : N16) (len : Nat) (c : List AVal) : Option AVal :=
  match boolsA c with
  | some l => cond (Nat.beq l.length len && Nat.ble l.length 999) (some (powP a l).av) none
  | none => none
def p38 : List AVal → Option (EffA × Bool)
  | [.agg [.u64 a0, .u64 a1, .u64 a2, .u64 a3, .u64 a4, .u64 a5, .u64 a6, .u64 a7, .u64 a8, .u64 a9, .u64 a10, .u64 a11, .u64 a12, .u64 a13, .u64 a14, .u64 a15], .slice n 0 len 1] => some (.read n fun ob => match ob with | .cells _ c => cond (ltL 0 c) (match gbits (N16.mk a0 a1 a2 a3 a4 a5 a6 a7 a8 a9 a10 a11 a12 a13 a14 a15) len c with | some v => cond (ltV 0 v) (some v) none | none => none) none, okB (N16.mk a0 a1 a2 a3 a4 a5 a6 a7 a8 a9 a10 a11 a12 a13 a14 a15))
  | _ => none
theorem p38_ok : CSOk Try.prog (csP (psOne 38 p38)) := csP_one fun args v he => by
  unfold p38 at he
  split at he
  · rename_i a0 a1 a2 a3 a4 a5 a6 a7 a8 a9 a10 a11 a12 a13 a14 a15 n len
    simp only [Option.some.injEq, Prod.mk.injEq] at he
    obtain ⟨rfl, h⟩ := he
    refine callOk_slice (nn := mask 38) (F := 1000) nr3_ok hmix rfl (fun s => rfl) fun ro c v hg hv hc => ?_
    unfold gbits at hg
    split at hg
    · rename_i l hl
      cases hb : (Nat.beq l.length len && Nat.ble l.length 999) with
      | false => rw [hb] at hg; cases hg
      | true =>
        rw [hb] at hg
        cases hg
        simp only [Bool.and_eq_true] at hb
        obtain rfl := Nat.eq_of_beq_eq_true hb.1
        have := Nat.le_of_ble_eq_true hb.2
        rw [boolsA_eq hl]
        exact run38 (N16.mk a0 a1 a2 a3 a4 a5 a6 a7 a8 a9 a10 a11 a12 a13 a14 a15) (okB_iff.1 h) l (by omega) ro
    · cases hg
  · cases he
def np2 : PS := psAlt (psOne 26 p26) (psAlt (psOne 38 p38) (psAlt (psOne 24 p24) (psAlt (psOne 28 p28) (psOne 10 p10))))
theorem np2_ok : CSOk Try.prog (csP np2) := csP_alt p26_ok (csP_alt p38_ok (csP_alt p24_ok (csP_alt p28_ok (p10_ok))))
theorem run39_255 : newR (run1 Try.prog nr1 (mask 39) 300 39 [.int .i64 255, .int .i64 21] [] Try.prog.globals.size) = some (16, 255, 1, (bitsL 255 21).map .bool) := by kernel_rfl
theorem run39_252 : newR (run1 Try.prog nr1 (mask 39) 300 39 [.int .i64 252, .int .i64 2] [] Try.prog.globals.size) = some (16, 252, 1, (bitsL 252 2).map .bool) := by kernel_rfl
theorem run39_253 : newR (run1 Try.prog nr1 (mask 39) 300 39 [.int .i64 253, .int .i64 5] [] Try.prog.globals.size) = some (16, 253, 1, (bitsL 253 5).map .bool) := by kernel_rfl
def g39 : List AVal → Option EffA
  | [.int .i64 (.ofNat n), .int .i64 (.ofNat k)] => cond (Nat.beq n 255 && Nat.beq k 21) (some (.alloc (.cells false ((bitsL 255 21).map .bool)) fun b => .slice b 0 255 1)) (cond (Nat.beq n 252 && Nat.beq k 2) (some (.alloc (.cells false ((bitsL 252 2).map .bool)) fun b => .slice b 0 252 1)) (cond (Nat.beq n 253 && Nat.beq k 5) (some (.alloc (.cells false ((bitsL 253 5).map .bool)) fun b => .slice b 0 253 1)) none))
  | _ => none
theorem g39_ok : CSOk Try.prog (csOne 39 g39) := csOne_ok fun args e he => by
  unfold g39 at he
  split at he
  · rename_i n k
    cases h1 : (Nat.beq n 255 && Nat.beq k 21) with
    | true =>
      rw [h1] at he
      cases he
      simp only [Bool.and_eq_true] at h1
      rw [Nat.eq_of_beq_eq_true h1.1, Nat.eq_of_beq_eq_true h1.2]
      exact callOk_new2 nr1_ok hmix rfl run39_255 (ltL_bool 0 _) (by kernel_rfl)
    | false =>
      rw [h1] at he
      cases h2 : (Nat.beq n 252 && Nat.beq k 2) with
      | true =>
        rw [h2] at he
        cases he
        simp only [Bool.and_eq_true] at h2
        rw [Nat.eq_of_beq_eq_true h2.1, Nat.eq_of_beq_eq_true h2.2]
        exact callOk_new2 nr1_ok hmix rfl run39_252 (ltL_bool 0 _) (by kernel_rfl)
      | false =>
        rw [h2] at he
        cases h3 : (Nat.beq n 253 && Nat.beq k 5) with
        | true =>
          rw [h3] at he
          cases he
          simp only [Bool.and_eq_true] at h3
          rw [Nat.eq_of_beq_eq_true h3.1, Nat.eq_of_beq_eq_true h3.2]
          exact callOk_new2 nr1_ok hmix rfl run39_253 (ltL_bool 0 _) (by kernel_rfl)
        | false => rw [h3] at he; cases he
  · cases he
def nr3b : CS := (csAlt (csOne 39 g39) nr3a)
theorem nr3b_ok : CSOk Try.prog nr3b := (csAlt_ok g39_ok nr3a_ok)
def nr4 : CS := csAlt (csP np2) nr3b
theorem nr4_ok : CSOk Try.prog nr4 := csAlt_ok np2_ok nr3b_ok
theorem nr4_ps : PSOk np2 nr4 := csP_ok
end Go.Proofs.Ytkgbpnihbamceaa
