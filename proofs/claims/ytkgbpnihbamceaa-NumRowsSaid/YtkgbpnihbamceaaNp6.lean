/- Numbers modulo 2^255 - 19: the document's roots. -/
import Derived.Test.YtkgbpnihbamceaaNp5
namespace Go.Proofs.Ytkgbpnihbamceaa
set_option linter.unusedVariables false
set_option linter.unusedSimpArgs false
open Go Go.Eng Go.Num
set_option maxRecDepth 100000
set_option maxHeartbeats 1000000
set_option linter.unusedSimpArgs false
set_option linter.unusedVariables false
def Tr (a c : N16) : SA := ⟨[(0, a.av), (1, .ptr 0 0), (2, .ptr 8 0), (3, .bool false), (4, .ptr 48 0)], [(0, .cells false a.cells), (8, .cells false zeroN.cells), (32, .cells false ((bitsL 252 2).map .bool)), (48, .cells false c.cells)], 64⟩
def Tr2f (a c : N16) : SA := ⟨[(0, a.av), (1, .ptr 0 0), (2, .ptr 8 0), (3, .bool false), (4, .ptr 48 0), (12, .bool false)], [(0, .cells false a.cells), (8, .cells false zeroN.cells), (32, .cells false ((bitsL 252 2).map .bool)), (48, .cells false c.cells)], 104⟩
def Tr2t (a c : N16) : SA := ⟨[(0, a.av), (1, .ptr 0 0), (2, .ptr 8 0), (3, .bool false), (4, .ptr 48 0), (12, .bool true)], [(0, .cells false a.cells), (8, .cells false zeroN.cells), (32, .cells false ((bitsL 252 2).map .bool)), (48, .cells false c.cells), (120, .cells false ((bitsL 253 5).map .bool))], 152⟩
noncomputable def prt : List Code := pieces (bodyOf Try.f12)
theorem rtA (a : N16) : segO (evSO Try.prog np2 nr4 [7] 31 (mask 12) 100 Try.prog.globals.size ((prt.drop 0).take 2) ⟨startT [a.av] 0, [], Try.prog.globals.size⟩ ⟨[], [], []⟩) = some (Tr a (root0P a), [okB a]) := by kernel_rfl
theorem rtBf (a c : N16) : segO (evSO Try.prog np2 nr4 [10, 12] 31 (mask 12) 100 Try.prog.globals.size ((prt.drop 2).take 2) (Tr a c) ⟨[false], [], []⟩) = some (Tr2f a c, [!(!(samP (mulP c c) a)), okB c && okB c]) := by kernel_rfl
theorem rtBt (a c : N16) : segO (evSO Try.prog np2 nr4 [10, 12, 16, 17] 31 (mask 12) 100 Try.prog.globals.size ((prt.drop 2).take 2) (Tr a c) ⟨[true], [], []⟩) = some (Tr2t a (mulP c (etaN iN)), [okB c && okB (etaN iN), okB (smallN 2), !(samP (mulP c c) a), okB c && okB c]) := by kernel_rfl
theorem rtCfn (a c : N16) : ansF Try.prog Try.f12 (evSO Try.prog np2 nr4 [20, 22, 27] 31 (mask 12) 100 Try.prog.globals.size (prt.drop 4) (Tr2f a c) ⟨[true], [], []⟩) = some (.tup [zeroN.av, .bool false], [!(samP (mulP c c) a), okB c && okB c]) := by kernel_rfl
theorem rtCff (a c : N16) : ansF Try.prog Try.f12 (evSO Try.prog np2 nr4 [20, 22, 27] 31 (mask 12) 100 Try.prog.globals.size (prt.drop 4) (Tr2f a c) ⟨[false, false], [], []⟩) = some (.tup [c.av, .bool true], [!(oddP c), !(!(samP (mulP c c) a)), okB c && okB c]) := by kernel_rfl
theorem rtCft (a c : N16) : ansF Try.prog Try.f12 (evSO Try.prog np2 nr4 [20, 22, 27] 31 (mask 12) 100 Try.prog.globals.size (prt.drop 4) (Tr2f a c) ⟨[false, true], [], []⟩) = some (.tup [(negP c).av, .bool true], [oddP c, !(!(samP (mulP c c) a)), okB c && okB c]) := by kernel_rfl
theorem rtCf (a c : N16) (hc : okB c = true) : finV Try.prog Try.f12 (evS Try.prog nr4 31 (mask 12) 100 Try.prog.globals.size (prt.drop 4) (Tr2f a c)) = some (.tup [(cond (samP (mulP c c) a) (cond (oddP c) (negP c) c) zeroN).av, .bool (samP (mulP c c) a)]) := by
  cases h2 : samP (mulP c c) a
  · exact ansF_ok nr4_ps (rtCfn a c) (by simp [allT, h2, hc])
  · cases h3 : oddP c
    · exact ansF_ok nr4_ps (rtCff a c) (by simp [allT, h2, h3, hc])
    · exact ansF_ok nr4_ps (rtCft a c) (by simp [allT, h2, h3, hc])
theorem rtCtn (a c : N16) : ansF Try.prog Try.f12 (evSO Try.prog np2 nr4 [20, 22, 27] 31 (mask 12) 100 Try.prog.globals.size (prt.drop 4) (Tr2t a c) ⟨[true], [], []⟩) = some (.tup [zeroN.av, .bool false], [!(samP (mulP c c) a), okB c && okB c]) := by kernel_rfl
theorem rtCtf (a c : N16) : ansF Try.prog Try.f12 (evSO Try.prog np2 nr4 [20, 22, 27] 31 (mask 12) 100 Try.prog.globals.size (prt.drop 4) (Tr2t a c) ⟨[false, false], [], []⟩) = some (.tup [c.av, .bool true], [!(oddP c), !(!(samP (mulP c c) a)), okB c && okB c]) := by kernel_rfl
theorem rtCtt (a c : N16) : ansF Try.prog Try.f12 (evSO Try.prog np2 nr4 [20, 22, 27] 31 (mask 12) 100 Try.prog.globals.size (prt.drop 4) (Tr2t a c) ⟨[false, true], [], []⟩) = some (.tup [(negP c).av, .bool true], [oddP c, !(!(samP (mulP c c) a)), okB c && okB c]) := by kernel_rfl
theorem rtCt (a c : N16) (hc : okB c = true) : finV Try.prog Try.f12 (evS Try.prog nr4 31 (mask 12) 100 Try.prog.globals.size (prt.drop 4) (Tr2t a c)) = some (.tup [(cond (samP (mulP c c) a) (cond (oddP c) (negP c) c) zeroN).av, .bool (samP (mulP c c) a)]) := by
  cases h2 : samP (mulP c c) a
  · exact ansF_ok nr4_ps (rtCtn a c) (by simp [allT, h2, hc])
  · cases h3 : oddP c
    · exact ansF_ok nr4_ps (rtCtf a c) (by simp [allT, h2, h3, hc])
    · exact ansF_ok nr4_ps (rtCtt a c) (by simp [allT, h2, h3, hc])
theorem rt_i : iN.ok := powP_ok _ (smallN_val 2).1 _
theorem rt_j : (etaN iN).ok := by rw [etaN_eq]; exact rt_i
theorem rtD1 (a c : N16) (hr : okB c = true) (h1 : samP (mulP c c) a = false) : evS Try.prog nr4 31 (mask 12) 100 Try.prog.globals.size (prt.drop 2) (Tr a c) = evS Try.prog nr4 31 (mask 12) 100 Try.prog.globals.size (prt.drop 4) (Tr2t a (mulP c (etaN iN))) :=
  segO_ok nr4_ps (rtBt a c) (by rw [hr, okB_iff.2 rt_j, okB_iff.2 (smallN_val 2).1, h1]; rfl)
theorem rtD2 (a c : N16) (hr : okB c = true) (h1 : samP (mulP c c) a = true) : evS Try.prog nr4 31 (mask 12) 100 Try.prog.globals.size (prt.drop 2) (Tr a c) = evS Try.prog nr4 31 (mask 12) 100 Try.prog.globals.size (prt.drop 4) (Tr2f a c) :=
  segO_ok nr4_ps (rtBf a c) (by rw [hr, h1]; rfl)
theorem rt_cond (a c : N16) (h : root1P a = c) : rootP a = cond (samP (mulP c c) a) (cond (oddP c) (negP c) c) zeroN ∧ hasP a = samP (mulP c c) a := by
  subst h
  exact ⟨rfl, rfl⟩
theorem rt_one (a c j : N16) (hc : root0P a = c) (hj : iN = j) : root1P a = cond (samP (mulP c c) a) c (mulP c j) := by
  unfold root1P
  rw [hc, hj]
theorem rtE (a c j : N16) (hc : root0P a = c) (hj : iN = j) (ho : okB c = true) (hjo : j.ok) (hD1 : samP (mulP c c) a = false → evS Try.prog nr4 31 (mask 12) 100 Try.prog.globals.size (prt.drop 2) (Tr a c) = evS Try.prog nr4 31 (mask 12) 100 Try.prog.globals.size (prt.drop 4) (Tr2t a (mulP c j))) :
    finV Try.prog Try.f12 (evS Try.prog nr4 31 (mask 12) 100 Try.prog.globals.size (prt.drop 2) (Tr a c)) = some (.tup [(rootP a).av, .bool (hasP a)]) := by
  have h0 := rt_one a c j hc hj
  cases h1 : samP (mulP c c) a
  · rw [h1, cond_false] at h0
    obtain ⟨e1, e2⟩ := rt_cond a _ h0
    rw [hD1 h1, e1, e2]
    exact rtCt a _ (okB_iff.2 (mulP_val _ _ (okB_iff.1 ho) hjo).1)
  · rw [h1, cond_true] at h0
    obtain ⟨e1, e2⟩ := rt_cond a _ h0
    rw [rtD2 a c ho h1, e1, e2]
    exact rtCf a _ ho
theorem run12 (a : N16) (h : okB a = true) : (run1 Try.prog nr4 (mask 12) 100 12 [a.av] [] Try.prog.globals.size).map (·.1) = some (.tup [(rootP a).av, .bool (hasP a)]) := by
  rw [run1_val (fn := Try.f12) (c := bodyOf Try.f12) (by kernel_rfl) (by kernel_rfl) (by kernel_rfl)]
  have hA := segO_ok nr4_ps (rtA a) (by rw [h]; rfl)
  rw [List.drop_zero] at hA
  refine (congrArg (finV Try.prog Try.f12) hA).trans ?_
  exact rtE a (root0P a) (etaN iN) rfl (etaN_eq iN).symm (okB_iff.2 (powP_ok _ (okB_iff.1 h) _)) rt_j (rtD1 a (root0P a) (okB_iff.2 (powP_ok _ (okB_iff.1 h) _)))
def p12 : List AVal → Option (EffA × Bool)
  | [.agg [.u64 a0, .u64 a1, .u64 a2, .u64 a3, .u64 a4, .u64 a5, .u64 a6, .u64 a7, .u64 a8, .u64 a9, .u64 a10, .u64 a11, .u64 a12, .u64 a13, .u64 a14, .u64 a15]] => some (.pure (.tup [(rootP (N16.mk a0 a1 a2 a3 a4 a5 a6 a7 a8 a9 a10 a11 a12 a13 a14 a15)).av, .bool (hasP (N16.mk a0 a1 a2 a3 a4 a5 a6 a7 a8 a9 a10 a11 a12 a13 a14 a15))]), okB (N16.mk a0 a1 a2 a3 a4 a5 a6 a7 a8 a9 a10 a11 a12 a13 a14 a15))
  | _ => none
theorem p12_ok : CSOk Try.prog (csP (psOne 12 p12)) := csP_one fun args v he => by
  unfold p12 at he
  split at he
  · rename_i a0 a1 a2 a3 a4 a5 a6 a7 a8 a9 a10 a11 a12 a13 a14 a15
    simp only [Option.some.injEq, Prod.mk.injEq] at he
    obtain ⟨rfl, h⟩ := he
    exact callOk_val nr4_ok hmix (run12 (N16.mk a0 a1 a2 a3 a4 a5 a6 a7 a8 a9 a10 a11 a12 a13 a14 a15) h) rfl rfl
  · cases he
end Go.Proofs.Ytkgbpnihbamceaa
