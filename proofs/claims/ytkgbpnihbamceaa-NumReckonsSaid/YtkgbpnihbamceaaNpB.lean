/- The law on sums and products modulo 2^255 - 19. -/
import Derived.Test.YtkgbpnihbamceaaNpA
namespace Go.Proofs.Ytkgbpnihbamceaa
set_option linter.unusedVariables false
set_option linter.unusedSimpArgs false
open Go Go.Eng Go.Num
set_option maxRecDepth 100000
set_option maxHeartbeats 1000000
set_option linter.unusedSimpArgs false
set_option linter.unusedVariables false
theorem w5a (φ : Fs) (s t : List UInt8) : ansO (run1O Try.prog (psnl φ) (nl φ) [22] [true] [] (mask 5) 200 5 [.str s, .str t] [] Try.prog.globals.size) = some (.bool true, [!(φ.ofB s)]) := by kernel_rfl
theorem w5b (φ : Fs) (s t : List UInt8) : ansO (run1O Try.prog (psnl φ) (nl φ) [22, 25] [false, true] [] (mask 5) 200 5 [.str s, .str t] [] Try.prog.globals.size) = some (.bool true, [!(φ.ofB t), !(!(φ.ofB s))]) := by kernel_rfl
theorem w5c (φ : Fs) (s t : List UInt8) : ansO (run1O Try.prog (psnl φ) (nl φ) [22, 25, 29, 31, 37, 38, 45, 46, 54, 55, 62, 71, 82] [false, false, true, true, true, true, true, true] [] (mask 5) 200 5 [.str s, .str t] [] Try.prog.globals.size) = some (.bool true, [φ.same (φ.sub (φ.of s) (φ.of t)) zeroE == samP (φ.ofN s) (φ.ofN t), φ.same (φ.of s) (φ.of t) == samP (φ.ofN s) (φ.ofN t), φ.is (φ.neg (φ.of s)) (φ.negN (φ.ofN s)), φ.is (φ.mul (φ.of s) (φ.of t)) (φ.mulN (φ.ofN s) (φ.ofN t)), φ.ok (φ.ofN s) && φ.ok (φ.ofN t), φ.is (φ.sub (φ.of s) (φ.of t)) (φ.subN (φ.ofN s) (φ.ofN t)), φ.ok (φ.ofN s) && φ.ok (φ.ofN t), φ.is (φ.add (φ.of s) (φ.of t)) (φ.addN (φ.ofN s) (φ.ofN t)), φ.ok (φ.ofN s) && φ.ok (φ.ofN t), φ.l32 t, φ.l32 s, !(!(φ.ofB t)), !(!(φ.ofB s))]) := by kernel_rfl
theorem run5 (s t : List UInt8) : (run1 Try.prog (nl realFs) (mask 5) 200 5 [.str s, .str t] [] Try.prog.globals.size).map (·.1) = some (.bool true) := by
  cases hs : isLen s 32
  · exact ansO_run (nl_ps _) (w5a realFs s t) (by simp [allT, realFs, ofEr_eq, hs])
  cases ht : isLen t 32
  · exact ansO_run (nl_ps _) (w5b realFs s t) (by simp [allT, realFs, ofEr_eq, hs, ht])
  have r := rel_of hs
  have q := rel_of ht
  have o1 := okB_iff.2 r.okP
  have o2 := okB_iff.2 q.okP
  have h1 := (rel_add r q).bytes
  have h2 := (rel_sub r q).bytes
  have h3 := (rel_mul r q).bytes
  have h4 := (rel_neg r).bytes
  have h5 := rel_same r q
  have h6 : sameE (subE (ofEl s) (ofEl t)) zeroE = samP (ofP s) (ofP t) := by
    rw [rel_same (rel_sub r q) rel_zero]
    exact sub_zero r q
  exact ansO_run (nl_ps _) (w5c realFs s t) (by simp [allT, realFs, ofEr_eq, hs, ht, o1, o2, h1, h2, h3, h4, h5, h6])
theorem law5 (s t : List UInt8) : CallOk Try.prog 5 [.str s, .str t] (.pure (.bool true)) := callOk_val nl_ok hmix (run5 s t) rfl rfl
end Go.Proofs.Ytkgbpnihbamceaa
