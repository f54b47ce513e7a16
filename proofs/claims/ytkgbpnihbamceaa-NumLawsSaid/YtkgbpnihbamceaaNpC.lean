/- The law that the numbers modulo 2^255 - 19 are a field. -/
import Derived.Test.YtkgbpnihbamceaaNpA
import Derived.Test.YtkgbpnihbamceaaNumF
namespace Go.Proofs.Ytkgbpnihbamceaa
set_option linter.unusedVariables false
set_option linter.unusedSimpArgs false
open Go Go.Eng Go.Num
set_option maxRecDepth 100000
set_option maxHeartbeats 1000000
set_option linter.unusedSimpArgs false
set_option linter.unusedVariables false
theorem w7a (φ : Fs) (r s t : List UInt8) : ansO (run1O Try.prog (psnl φ) (nl φ) [23] [false] [] (mask 7) 200 7 [.str r, .str s, .str t] [] Try.prog.globals.size) = some (.bool true, [!(φ.ofB r)]) := by kernel_rfl
theorem w7b (φ : Fs) (r s t : List UInt8) : ansO (run1O Try.prog (psnl φ) (nl φ) [23, 28] [true, false] [] (mask 7) 200 7 [.str r, .str s, .str t] [] Try.prog.globals.size) = some (.bool true, [!(φ.ofB s), φ.ofB r]) := by kernel_rfl
theorem w7c (φ : Fs) (r s t : List UInt8) : ansO (run1O Try.prog (psnl φ) (nl φ) [23, 28, 33] [true, true, false] [] (mask 7) 200 7 [.str r, .str s, .str t] [] Try.prog.globals.size) = some (.bool true, [!(φ.ofB t), φ.ofB s, φ.ofB r]) := by kernel_rfl
theorem w7z (φ : Fs) (r s t : List UInt8) : ansO (run1O Try.prog (psnl φ) (nl φ) [23, 28, 33, 53, 62, 76, 90, 106, 114, 123, 137, 143, 150, 153, 161, 166] [true, true, true, true, true, true, true, true, true, true, false, true, true, true, true, true] [] (mask 7) 200 7 [.str r, .str s, .str t] [] Try.prog.globals.size) = some (.bool true, [φ.same (φ.root (φ.mul (φ.of r) (φ.small 2))) zeroE, φ.same (φ.root (φ.of r)) zeroE, φ.same (φ.of r) zeroE, φ.has (φ.mul (φ.of r) (φ.small 2)), φ.has (φ.of r), !(φ.same (φ.of r) zeroE != !φ.same (φ.mul (φ.of r) (φ.inv (φ.of r))) (φ.small 1)), φ.same (φ.add (φ.sub (φ.of r) (φ.of s)) (φ.of s)) (φ.of r), φ.same (φ.add (φ.of r) (φ.neg (φ.of r))) zeroE, φ.same (φ.mul (φ.of r) (φ.add (φ.of s) (φ.of t))) (φ.add (φ.mul (φ.of r) (φ.of s)) (φ.mul (φ.of r) (φ.of t))), φ.same (φ.mul (φ.mul (φ.of r) (φ.of s)) (φ.of t)) (φ.mul (φ.of r) (φ.mul (φ.of s) (φ.of t))), φ.same (φ.add (φ.add (φ.of r) (φ.of s)) (φ.of t)) (φ.add (φ.of r) (φ.add (φ.of s) (φ.of t))), φ.same (φ.mul (φ.of r) (φ.of s)) (φ.mul (φ.of s) (φ.of r)), φ.same (φ.add (φ.of r) (φ.of s)) (φ.add (φ.of s) (φ.of r)), φ.ofB t, φ.ofB s, φ.ofB r]) := by kernel_rfl
theorem w7p (φ : Fs) (r s t : List UInt8) : ansO (run1O Try.prog (psnl φ) (nl φ) [23, 28, 33, 53, 62, 76, 90, 106, 114, 123, 137, 143, 150, 153, 176, 180, 189] [true, true, true, true, true, true, true, true, true, true, false, true, false, false, false, false, true] [] (mask 7) 200 7 [.str r, .str s, .str t] [] Try.prog.globals.size) = some (.bool true, [φ.same (φ.mul (φ.root (φ.of r)) (φ.root (φ.of r))) (φ.of r), !(φ.odd (φ.root (φ.mul (φ.of r) (φ.small 2)))), !(φ.odd (φ.root (φ.of r))), !(φ.same (φ.of r) zeroE), !(φ.has (φ.mul (φ.of r) (φ.small 2))), φ.has (φ.of r), !(φ.same (φ.of r) zeroE != !φ.same (φ.mul (φ.of r) (φ.inv (φ.of r))) (φ.small 1)), φ.same (φ.add (φ.sub (φ.of r) (φ.of s)) (φ.of s)) (φ.of r), φ.same (φ.add (φ.of r) (φ.neg (φ.of r))) zeroE, φ.same (φ.mul (φ.of r) (φ.add (φ.of s) (φ.of t))) (φ.add (φ.mul (φ.of r) (φ.of s)) (φ.mul (φ.of r) (φ.of t))), φ.same (φ.mul (φ.mul (φ.of r) (φ.of s)) (φ.of t)) (φ.mul (φ.of r) (φ.mul (φ.of s) (φ.of t))), φ.same (φ.add (φ.add (φ.of r) (φ.of s)) (φ.of t)) (φ.add (φ.of r) (φ.add (φ.of s) (φ.of t))), φ.same (φ.mul (φ.of r) (φ.of s)) (φ.mul (φ.of s) (φ.of r)), φ.same (φ.add (φ.of r) (φ.of s)) (φ.add (φ.of s) (φ.of r)), φ.ofB t, φ.ofB s, φ.ofB r]) := by kernel_rfl
theorem w7q (φ : Fs) (r s t : List UInt8) : ansO (run1O Try.prog (psnl φ) (nl φ) [23, 28, 33, 53, 62, 76, 90, 106, 114, 123, 137, 143, 150, 153, 176, 180, 201] [true, true, true, true, true, true, true, true, true, true, false, false, true, false, false, false, true] [] (mask 7) 200 7 [.str r, .str s, .str t] [] Try.prog.globals.size) = some (.bool true, [φ.same (φ.mul (φ.root (φ.mul (φ.of r) (φ.small 2))) (φ.root (φ.mul (φ.of r) (φ.small 2)))) (φ.mul (φ.of r) (φ.small 2)), !(φ.odd (φ.root (φ.mul (φ.of r) (φ.small 2)))), !(φ.odd (φ.root (φ.of r))), !(φ.same (φ.of r) zeroE), φ.has (φ.mul (φ.of r) (φ.small 2)), !(φ.has (φ.of r)), !(φ.same (φ.of r) zeroE != !φ.same (φ.mul (φ.of r) (φ.inv (φ.of r))) (φ.small 1)), φ.same (φ.add (φ.sub (φ.of r) (φ.of s)) (φ.of s)) (φ.of r), φ.same (φ.add (φ.of r) (φ.neg (φ.of r))) zeroE, φ.same (φ.mul (φ.of r) (φ.add (φ.of s) (φ.of t))) (φ.add (φ.mul (φ.of r) (φ.of s)) (φ.mul (φ.of r) (φ.of t))), φ.same (φ.mul (φ.mul (φ.of r) (φ.of s)) (φ.of t)) (φ.mul (φ.of r) (φ.mul (φ.of s) (φ.of t))), φ.same (φ.add (φ.add (φ.of r) (φ.of s)) (φ.of t)) (φ.add (φ.of r) (φ.add (φ.of s) (φ.of t))), φ.same (φ.mul (φ.of r) (φ.of s)) (φ.mul (φ.of s) (φ.of r)), φ.same (φ.add (φ.of r) (φ.of s)) (φ.add (φ.of s) (φ.of r)), φ.ofB t, φ.ofB s, φ.ofB r]) := by kernel_rfl
theorem run7 (r s t : List UInt8) : (run1 Try.prog (nl realFs) (mask 7) 200 7 [.str r, .str s, .str t] [] Try.prog.globals.size).map (·.1) = some (.bool true) := by
  cases hr : isLen r 32
  · exact ansO_run (nl_ps _) (w7a realFs r s t) (by simp [allT, realFs, ofEr_eq, hr])
  cases hs : isLen s 32
  · exact ansO_run (nl_ps _) (w7b realFs r s t) (by simp [allT, realFs, ofEr_eq, hr, hs])
  cases ht : isLen t 32
  · exact ansO_run (nl_ps _) (w7c realFs r s t) (by simp [allT, realFs, ofEr_eq, hr, hs, ht])
  have va := vm_of r
  have vb := vm_of s
  have vc := vm_of t
  have e1 : sameE (addE (ofEl r) (ofEl s)) (addE (ofEl s) (ofEl r)) = true := by
    rw [(va.add vb).same (vb.add va), Nat.add_comm]; exact decide_eq_true rfl
  have e2 : sameE (mulE (ofEl r) (ofEl s)) (mulE (ofEl s) (ofEl r)) = true := by
    rw [(va.mul vb).same (vb.mul va), Nat.mul_comm]; exact decide_eq_true rfl
  have e3 : sameE (addE (addE (ofEl r) (ofEl s)) (ofEl t)) (addE (ofEl r) (addE (ofEl s) (ofEl t))) = true := by
    rw [((va.add vb).add vc).same (va.add (vb.add vc)), Nat.add_assoc]; exact decide_eq_true rfl
  have e4 : sameE (mulE (mulE (ofEl r) (ofEl s)) (ofEl t)) (mulE (ofEl r) (mulE (ofEl s) (ofEl t))) = true := by
    rw [((va.mul vb).mul vc).same (va.mul (vb.mul vc)), Nat.mul_assoc]; exact decide_eq_true rfl
  have e5 : sameE (mulE (ofEl r) (addE (ofEl s) (ofEl t))) (addE (mulE (ofEl r) (ofEl s)) (mulE (ofEl r) (ofEl t))) = true := by
    rw [(va.mul (vb.add vc)).same ((va.mul vb).add (va.mul vc)), Nat.mul_add]; exact decide_eq_true rfl
  have e6 : sameE (addE (ofEl r) (negE (ofEl r))) zeroE = true := by
    rw [(va.add va.neg).same vm_zero]; exact decide_eq_true (add_neg_mod _)
  have e7 : sameE (addE (subE (ofEl r) (ofEl s)) (ofEl s)) (ofEl r) = true := by
    rw [((va.sub vb).add vb).same va]; exact decide_eq_true (sub_add_mod _ _)
  have e8 := inv_one va.ok
  have v2 := va.mul (vm_small 2)
  by_cases h0 : (ofEl r).val % Pq = 0
  · have z := has_zero va.ok h0
    have h2 : (mulE (ofEl r) (smallE 2)).val % Pq = 0 := by rw [v2.val, Nat.mul_mod, h0, Nat.zero_mul]; rfl
    have z2 := has_zero v2.ok h2
    have e0 : sameE (ofEl r) zeroE = true := by rw [va.same vm_zero]; exact decide_eq_true h0
    have e9 : sameE (mulE (ofEl r) (invE (ofEl r))) (smallE 1) = false := by rw [e8]; exact decide_eq_false (fun h => h h0)
    exact ansO_run (nl_ps _) (w7z realFs r s t) (by simp [allT, realFs, ofEr_eq, hr, hs, ht, e1, e2, e3, e4, e5, e6, e7, e9, z.1, z.2, z2.1, z2.2, e0])
  · have e0 : sameE (ofEl r) zeroE = false := by rw [va.same vm_zero]; exact decide_eq_false h0
    have e9 : sameE (mulE (ofEl r) (invE (ofEl r))) (smallE 1) = true := by rw [e8]; exact decide_eq_true h0
    have t1 := has_twice va.ok v2 h0
    have o1 := root_even va.ok
    have o2 := root_even v2.ok
    cases hh : hasE (ofEl r)
    · rw [hh] at t1
      have q := root_sq v2.ok t1
      exact ansO_run (nl_ps _) (w7q realFs r s t) (by simp [allT, realFs, ofEr_eq, hr, hs, ht, e1, e2, e3, e4, e5, e6, e7, e9, e0, hh, t1, o1, o2, q])
    · rw [hh] at t1
      have q := root_sq va.ok hh
      exact ansO_run (nl_ps _) (w7p realFs r s t) (by simp [allT, realFs, ofEr_eq, hr, hs, ht, e1, e2, e3, e4, e5, e6, e7, e9, e0, hh, t1, o1, o2, q])
theorem law7 (r s t : List UInt8) : CallOk Try.prog 7 [.str r, .str s, .str t] (.pure (.bool true)) := callOk_val nl_ok hmix (run7 r s t) rfl rfl
end Go.Proofs.Ytkgbpnihbamceaa
