/- Texts EdD, EdE, EdC, EdF, Ed2, EdG, ESh, EdH, EdI, EdJ: what they show stands ahead of each. -/
import Derived.Test.YtipbocnofahafaaT9
import Derived.Shelf.Strings.Repeat
import Derived.Test.YtipbocnofahafaaT6
import Derived.Test.YtipbocnofahafaaT5
import Derived.Test.YtipbocnofahafaaT7
import Derived.Test.YtipbocnofahafaaT8
/- Points: the document's functions. -/
namespace Go.Proofs.Ytipbocnofahafaa
set_option linter.unusedVariables false
set_option linter.unusedSimpArgs false
open Go Go.Eng Go.Num
set_option maxRecDepth 100000
set_option maxHeartbeats 1000000
set_option linter.unusedSimpArgs false
set_option linter.unusedVariables false
theorem okD {φ : Fe} (h : OkF φ) : φ.ok (dφ φ) = true := h.mul (h.neg (h.small _)) (h.inv (h.small _))
abbrev okQ := okQ0
theorem okQ_iff {φ : Fe} {p : P4 N16} : okQ φ p = true ↔ φ.ok p.x = true ∧ φ.ok p.y = true ∧ φ.ok p.z = true ∧ φ.ok p.t = true := by
  unfold okQ okQ0
  simp only [Bool.and_eq_true]
theorem d61 (φ : Fe) (p q : P4 N16) : ansO (run1O Try.prog (psnf φ) (nf φ) [8, 11] [] [] (mask 61) 200 61 [qAv p, qAv q] [] Try.prog.globals.size) = some ((teesφ φ p q).av, [((φ.ok (φ.mulN (givenφ φ) p.t)) && (φ.ok q.t)), ((φ.ok (givenφ φ)) && (φ.ok p.t))]) := by kernel_rfl
theorem rte {φ : Fe} (h : OkF φ) (p q : P4 N16) (p4 : φ.ok p.t = true) (q4 : φ.ok q.t = true) : (run1 Try.prog (nf φ) (mask 61) 200 61 [qAv p, qAv q] [] Try.prog.globals.size).map (·.1) = some ((teesφ φ p q).av) := ansO_run (nf_ps φ) (d61 φ p q) (by simp (maxDischargeDepth := 40) only [allT, h.add, h.sub, h.mul, h.neg, h.inv, h.root, h.small, h.of, h.len, h.d32, okGiven h, okD h, p4, q4, givenφ, Bool.and_self, Bool.not_false, Bool.not_true, cond_true])
theorem rneN (φ : Fe) (p : P4 N16) : (run1 Try.prog (nf φ) (mask 21) 200 21 [qAv p] [] Try.prog.globals.size).map (·.1) = some (qAv (negψ φ p)) := by kernel_rfl
theorem rz2 (φ : Fe) : (run1 Try.prog (nf φ) (mask 60) 200 60 [] [] Try.prog.globals.size).map (·.1) = some (qAv (zeroψ φ)) := by kernel_rfl
theorem rgv (φ : Fe) : (run1 Try.prog (nf φ) (mask 11) 200 11 [] [] Try.prog.globals.size).map (·.1) = some (.bool (samP (givenφ φ) (dφ φ))) := by kernel_rfl
theorem d33 (φ : Fe) (p : P4 N16) : ansO (run1O Try.prog (psnf φ) (nf φ) [8, 12, 16] [] [] (mask 33) 200 33 [qAv p] [] Try.prog.globals.size) = some (.str (bytesψ φ p), [((φ.ok p.y) && (φ.ok (φ.invN p.z))), ((φ.ok p.x) && (φ.ok (φ.invN p.z))), (φ.ok p.z)]) := by kernel_rfl
theorem rbyN {φ : Fe} (h : OkF φ) (p : P4 N16) (p1 : φ.ok p.x = true) (p2 : φ.ok p.y = true) (p3 : φ.ok p.z = true) (p4 : φ.ok p.t = true) : (run1 Try.prog (nf φ) (mask 33) 200 33 [qAv p] [] Try.prog.globals.size).map (·.1) = some (.str (bytesψ φ p)) := ansO_run (nf_ps φ) (d33 φ p) (by simp (maxDischargeDepth := 40) only [allT, h.add, h.sub, h.mul, h.neg, h.inv, h.root, h.small, h.of, h.len, h.d32, okGiven h, okD h, p1, p2, p3, p4, Bool.and_self, Bool.not_false, Bool.not_true, cond_true])
theorem d26a (φ : Fe) (p q : P4 N16) : ansO (run1O Try.prog (psnf φ) (nf φ) [9, 14, 15, 21, 26] [true] [] (mask 26) 200 26 [qAv p, qAv q] [] Try.prog.globals.size) = some (.bool (samP (φ.mulN p.y q.z) (φ.mulN q.y p.z)), [((φ.ok q.y) && (φ.ok p.z)), ((φ.ok p.y) && (φ.ok q.z)), samP (φ.mulN p.x q.z) (φ.mulN q.x p.z), ((φ.ok q.x) && (φ.ok p.z)), ((φ.ok p.x) && (φ.ok q.z))]) := by kernel_rfl
theorem d26b (φ : Fe) (p q : P4 N16) : ansO (run1O Try.prog (psnf φ) (nf φ) [9, 14, 15, 21, 26] [false] [] (mask 26) 200 26 [qAv p, qAv q] [] Try.prog.globals.size) = some (.bool false, [!(samP (φ.mulN p.x q.z) (φ.mulN q.x p.z)), ((φ.ok q.x) && (φ.ok p.z)), ((φ.ok p.x) && (φ.ok q.z))]) := by kernel_rfl
theorem rsaN {φ : Fe} (h : OkF φ) (p q : P4 N16) (p1 : φ.ok p.x = true) (p2 : φ.ok p.y = true) (p3 : φ.ok p.z = true) (p4 : φ.ok p.t = true) (q1 : φ.ok q.x = true) (q2 : φ.ok q.y = true) (q3 : φ.ok q.z = true) (q4 : φ.ok q.t = true) : (run1 Try.prog (nf φ) (mask 26) 200 26 [qAv p, qAv q] [] Try.prog.globals.size).map (·.1) = some (.bool (sameψ φ p q)) := by
  unfold sameψ
  cases hx : samP (φ.mulN p.x q.z) (φ.mulN q.x p.z)
  · exact ansO_run (nf_ps φ) (d26b φ p q) (by simp (maxDischargeDepth := 40) only [allT, h.add, h.sub, h.mul, h.neg, h.inv, h.root, h.small, h.of, h.len, h.d32, okGiven h, okD h, p1, p2, p3, p4, q1, q2, q3, q4, hx, Bool.and_self, Bool.not_false, Bool.not_true, cond_true])
  · exact ansO_run (nf_ps φ) (d26a φ p q) (by simp (maxDischargeDepth := 40) only [allT, h.add, h.sub, h.mul, h.neg, h.inv, h.root, h.small, h.of, h.len, h.d32, okGiven h, okD h, p1, p2, p3, p4, q1, q2, q3, q4, hx, Bool.and_self, Bool.not_false, Bool.not_true, cond_true])
theorem d17 (φ : Fe) (p : P4 N16) : ansO (run1O Try.prog (psnf φ) (nf φ) [10, 15, 20, 23, 25, 28, 31, 33, 34] [] [] (mask 17) 200 17 [qAv p] [] Try.prog.globals.size) = some (.bool (onψ φ p), [((φ.ok (φ.mulN (φ.mulN p.z p.z) (φ.mulN p.z p.z))) && (φ.ok (φ.mulN (φ.mulN (givenφ φ) (φ.mulN p.x p.x)) (φ.mulN p.y p.y)))), ((φ.ok (φ.mulN (givenφ φ) (φ.mulN p.x p.x))) && (φ.ok (φ.mulN p.y p.y))), ((φ.ok (givenφ φ)) && (φ.ok (φ.mulN p.x p.x))), ((φ.ok (φ.mulN p.z p.z)) && (φ.ok (φ.mulN p.z p.z))), ((φ.ok (φ.subN (φ.mulN p.y p.y) (φ.mulN p.x p.x))) && (φ.ok (φ.mulN p.z p.z))), ((φ.ok (φ.mulN p.y p.y)) && (φ.ok (φ.mulN p.x p.x))), ((φ.ok p.z) && (φ.ok p.z)), ((φ.ok p.y) && (φ.ok p.y)), ((φ.ok p.x) && (φ.ok p.x))]) := by kernel_rfl
theorem ronN {φ : Fe} (h : OkF φ) (p : P4 N16) (p1 : φ.ok p.x = true) (p2 : φ.ok p.y = true) (p3 : φ.ok p.z = true) (p4 : φ.ok p.t = true) : (run1 Try.prog (nf φ) (mask 17) 200 17 [qAv p] [] Try.prog.globals.size).map (·.1) = some (.bool (onψ φ p)) := ansO_run (nf_ps φ) (d17 φ p) (by simp (maxDischargeDepth := 40) only [allT, h.add, h.sub, h.mul, h.neg, h.inv, h.root, h.small, h.of, h.len, h.d32, okGiven h, okD h, p1, p2, p3, p4, givenφ, Bool.and_self, Bool.not_false, Bool.not_true, cond_true])
theorem d10a (φ : Fe) (s : List UInt8) : ansO (run1O Try.prog (psnf φ) (nf φ) [14] [true] [] (mask 10) 200 10 [.str s] [] Try.prog.globals.size) = some (.tup [qAv emptyN, .int .i64 2], [((s.length : Int) != 32)]) := by kernel_rfl
theorem d10b (φ : Fe) (s0 s1 s2 s3 s4 s5 s6 s7 s8 s9 s10 s11 s12 s13 s14 s15 s16 s17 s18 s19 s20 s21 s22 s23 s24 s25 s26 s27 s28 s29 s30 s31 : UInt8) : ansO (run1O Try.prog (psnf φ) (nf φ) [31] [false] [] (mask 10) 200 10 [.str [s0, s1, s2, s3, s4, s5, s6, s7, s8, s9, s10, s11, s12, s13, s14, s15, s16, s17, s18, s19, s20, s21, s22, s23, s24, s25, s26, s27, s28, s29, s30, s31]] [] Try.prog.globals.size) = some (.tup [qAv emptyN, .int .i64 40], [!(φ.canonN (topL [s0, s1, s2, s3, s4, s5, s6, s7, s8, s9, s10, s11, s12, s13, s14, s15, s16, s17, s18, s19, s20, s21, s22, s23, s24, s25, s26, s27, s28, s29, s30, s31]))]) := by kernel_rfl
theorem d10c (φ : Fe) (s0 s1 s2 s3 s4 s5 s6 s7 s8 s9 s10 s11 s12 s13 s14 s15 s16 s17 s18 s19 s20 s21 s22 s23 s24 s25 s26 s27 s28 s29 s30 s31 : UInt8) : ansO (run1O Try.prog (psnf φ) (nf φ) [31, 36, 39, 42, 45, 47, 51, 52, 53, 55] [true, false] [] (mask 10) 200 10 [.str [s0, s1, s2, s3, s4, s5, s6, s7, s8, s9, s10, s11, s12, s13, s14, s15, s16, s17, s18, s19, s20, s21, s22, s23, s24, s25, s26, s27, s28, s29, s30, s31]] [] Try.prog.globals.size) = some (.tup [qAv emptyN, .int .i64 40], [!(φ.hasN (uψ φ [s0, s1, s2, s3, s4, s5, s6, s7, s8, s9, s10, s11, s12, s13, s14, s15, s16, s17, s18, s19, s20, s21, s22, s23, s24, s25, s26, s27, s28, s29, s30, s31])), (φ.ok (φ.mulN (φ.subN (φ.mulN (φ.ofN (topL [s0, s1, s2, s3, s4, s5, s6, s7, s8, s9, s10, s11, s12, s13, s14, s15, s16, s17, s18, s19, s20, s21, s22, s23, s24, s25, s26, s27, s28, s29, s30, s31])) (φ.ofN (topL [s0, s1, s2, s3, s4, s5, s6, s7, s8, s9, s10, s11, s12, s13, s14, s15, s16, s17, s18, s19, s20, s21, s22, s23, s24, s25, s26, s27, s28, s29, s30, s31]))) (φ.smallN (UInt32.ofNat (Int.toNat 1)))) (φ.invN (φ.addN (φ.mulN (dφ φ) (φ.mulN (φ.ofN (topL [s0, s1, s2, s3, s4, s5, s6, s7, s8, s9, s10, s11, s12, s13, s14, s15, s16, s17, s18, s19, s20, s21, s22, s23, s24, s25, s26, s27, s28, s29, s30, s31])) (φ.ofN (topL [s0, s1, s2, s3, s4, s5, s6, s7, s8, s9, s10, s11, s12, s13, s14, s15, s16, s17, s18, s19, s20, s21, s22, s23, s24, s25, s26, s27, s28, s29, s30, s31])))) (φ.smallN (UInt32.ofNat (Int.toNat 1))))))), ((φ.ok (φ.subN (φ.mulN (φ.ofN (topL [s0, s1, s2, s3, s4, s5, s6, s7, s8, s9, s10, s11, s12, s13, s14, s15, s16, s17, s18, s19, s20, s21, s22, s23, s24, s25, s26, s27, s28, s29, s30, s31])) (φ.ofN (topL [s0, s1, s2, s3, s4, s5, s6, s7, s8, s9, s10, s11, s12, s13, s14, s15, s16, s17, s18, s19, s20, s21, s22, s23, s24, s25, s26, s27, s28, s29, s30, s31]))) (φ.smallN (UInt32.ofNat (Int.toNat 1))))) && (φ.ok (φ.invN (φ.addN (φ.mulN (dφ φ) (φ.mulN (φ.ofN (topL [s0, s1, s2, s3, s4, s5, s6, s7, s8, s9, s10, s11, s12, s13, s14, s15, s16, s17, s18, s19, s20, s21, s22, s23, s24, s25, s26, s27, s28, s29, s30, s31])) (φ.ofN (topL [s0, s1, s2, s3, s4, s5, s6, s7, s8, s9, s10, s11, s12, s13, s14, s15, s16, s17, s18, s19, s20, s21, s22, s23, s24, s25, s26, s27, s28, s29, s30, s31])))) (φ.smallN (UInt32.ofNat (Int.toNat 1))))))), (φ.ok (φ.addN (φ.mulN (dφ φ) (φ.mulN (φ.ofN (topL [s0, s1, s2, s3, s4, s5, s6, s7, s8, s9, s10, s11, s12, s13, s14, s15, s16, s17, s18, s19, s20, s21, s22, s23, s24, s25, s26, s27, s28, s29, s30, s31])) (φ.ofN (topL [s0, s1, s2, s3, s4, s5, s6, s7, s8, s9, s10, s11, s12, s13, s14, s15, s16, s17, s18, s19, s20, s21, s22, s23, s24, s25, s26, s27, s28, s29, s30, s31])))) (φ.smallN (UInt32.ofNat (Int.toNat 1))))), ((φ.ok (φ.mulN (dφ φ) (φ.mulN (φ.ofN (topL [s0, s1, s2, s3, s4, s5, s6, s7, s8, s9, s10, s11, s12, s13, s14, s15, s16, s17, s18, s19, s20, s21, s22, s23, s24, s25, s26, s27, s28, s29, s30, s31])) (φ.ofN (topL [s0, s1, s2, s3, s4, s5, s6, s7, s8, s9, s10, s11, s12, s13, s14, s15, s16, s17, s18, s19, s20, s21, s22, s23, s24, s25, s26, s27, s28, s29, s30, s31]))))) && (φ.ok (φ.smallN (UInt32.ofNat (Int.toNat 1))))), ((φ.ok (dφ φ)) && (φ.ok (φ.mulN (φ.ofN (topL [s0, s1, s2, s3, s4, s5, s6, s7, s8, s9, s10, s11, s12, s13, s14, s15, s16, s17, s18, s19, s20, s21, s22, s23, s24, s25, s26, s27, s28, s29, s30, s31])) (φ.ofN (topL [s0, s1, s2, s3, s4, s5, s6, s7, s8, s9, s10, s11, s12, s13, s14, s15, s16, s17, s18, s19, s20, s21, s22, s23, s24, s25, s26, s27, s28, s29, s30, s31]))))), ((φ.ok (φ.mulN (φ.ofN (topL [s0, s1, s2, s3, s4, s5, s6, s7, s8, s9, s10, s11, s12, s13, s14, s15, s16, s17, s18, s19, s20, s21, s22, s23, s24, s25, s26, s27, s28, s29, s30, s31])) (φ.ofN (topL [s0, s1, s2, s3, s4, s5, s6, s7, s8, s9, s10, s11, s12, s13, s14, s15, s16, s17, s18, s19, s20, s21, s22, s23, s24, s25, s26, s27, s28, s29, s30, s31])))) && (φ.ok (φ.smallN (UInt32.ofNat (Int.toNat 1))))), ((φ.ok (φ.ofN (topL [s0, s1, s2, s3, s4, s5, s6, s7, s8, s9, s10, s11, s12, s13, s14, s15, s16, s17, s18, s19, s20, s21, s22, s23, s24, s25, s26, s27, s28, s29, s30, s31]))) && (φ.ok (φ.ofN (topL [s0, s1, s2, s3, s4, s5, s6, s7, s8, s9, s10, s11, s12, s13, s14, s15, s16, s17, s18, s19, s20, s21, s22, s23, s24, s25, s26, s27, s28, s29, s30, s31])))), φ.l32 (topL [s0, s1, s2, s3, s4, s5, s6, s7, s8, s9, s10, s11, s12, s13, s14, s15, s16, s17, s18, s19, s20, s21, s22, s23, s24, s25, s26, s27, s28, s29, s30, s31]), φ.canonN (topL [s0, s1, s2, s3, s4, s5, s6, s7, s8, s9, s10, s11, s12, s13, s14, s15, s16, s17, s18, s19, s20, s21, s22, s23, s24, s25, s26, s27, s28, s29, s30, s31])]) := by kernel_rfl
theorem d10d (φ : Fe) (s0 s1 s2 s3 s4 s5 s6 s7 s8 s9 s10 s11 s12 s13 s14 s15 s16 s17 s18 s19 s20 s21 s22 s23 s24 s25 s26 s27 s28 s29 s30 s31 : UInt8) : ansO (run1O Try.prog (psnf φ) (nf φ) [22, 31, 36, 39, 42, 45, 47, 51, 52, 53, 55, 61] [true, true, true, true] [] (mask 10) 200 10 [.str [s0, s1, s2, s3, s4, s5, s6, s7, s8, s9, s10, s11, s12, s13, s14, s15, s16, s17, s18, s19, s20, s21, s22, s23, s24, s25, s26, s27, s28, s29, s30, s31]] [] Try.prog.globals.size) = some (.tup [qAv emptyN, .int .i64 40], [samP (φ.rootN (uψ φ [s0, s1, s2, s3, s4, s5, s6, s7, s8, s9, s10, s11, s12, s13, s14, s15, s16, s17, s18, s19, s20, s21, s22, s23, s24, s25, s26, s27, s28, s29, s30, s31])) zeroN, φ.hasN (uψ φ [s0, s1, s2, s3, s4, s5, s6, s7, s8, s9, s10, s11, s12, s13, s14, s15, s16, s17, s18, s19, s20, s21, s22, s23, s24, s25, s26, s27, s28, s29, s30, s31]), (φ.ok (φ.mulN (φ.subN (φ.mulN (φ.ofN (topL [s0, s1, s2, s3, s4, s5, s6, s7, s8, s9, s10, s11, s12, s13, s14, s15, s16, s17, s18, s19, s20, s21, s22, s23, s24, s25, s26, s27, s28, s29, s30, s31])) (φ.ofN (topL [s0, s1, s2, s3, s4, s5, s6, s7, s8, s9, s10, s11, s12, s13, s14, s15, s16, s17, s18, s19, s20, s21, s22, s23, s24, s25, s26, s27, s28, s29, s30, s31]))) (φ.smallN (UInt32.ofNat (Int.toNat 1)))) (φ.invN (φ.addN (φ.mulN (dφ φ) (φ.mulN (φ.ofN (topL [s0, s1, s2, s3, s4, s5, s6, s7, s8, s9, s10, s11, s12, s13, s14, s15, s16, s17, s18, s19, s20, s21, s22, s23, s24, s25, s26, s27, s28, s29, s30, s31])) (φ.ofN (topL [s0, s1, s2, s3, s4, s5, s6, s7, s8, s9, s10, s11, s12, s13, s14, s15, s16, s17, s18, s19, s20, s21, s22, s23, s24, s25, s26, s27, s28, s29, s30, s31])))) (φ.smallN (UInt32.ofNat (Int.toNat 1))))))), ((φ.ok (φ.subN (φ.mulN (φ.ofN (topL [s0, s1, s2, s3, s4, s5, s6, s7, s8, s9, s10, s11, s12, s13, s14, s15, s16, s17, s18, s19, s20, s21, s22, s23, s24, s25, s26, s27, s28, s29, s30, s31])) (φ.ofN (topL [s0, s1, s2, s3, s4, s5, s6, s7, s8, s9, s10, s11, s12, s13, s14, s15, s16, s17, s18, s19, s20, s21, s22, s23, s24, s25, s26, s27, s28, s29, s30, s31]))) (φ.smallN (UInt32.ofNat (Int.toNat 1))))) && (φ.ok (φ.invN (φ.addN (φ.mulN (dφ φ) (φ.mulN (φ.ofN (topL [s0, s1, s2, s3, s4, s5, s6, s7, s8, s9, s10, s11, s12, s13, s14, s15, s16, s17, s18, s19, s20, s21, s22, s23, s24, s25, s26, s27, s28, s29, s30, s31])) (φ.ofN (topL [s0, s1, s2, s3, s4, s5, s6, s7, s8, s9, s10, s11, s12, s13, s14, s15, s16, s17, s18, s19, s20, s21, s22, s23, s24, s25, s26, s27, s28, s29, s30, s31])))) (φ.smallN (UInt32.ofNat (Int.toNat 1))))))), (φ.ok (φ.addN (φ.mulN (dφ φ) (φ.mulN (φ.ofN (topL [s0, s1, s2, s3, s4, s5, s6, s7, s8, s9, s10, s11, s12, s13, s14, s15, s16, s17, s18, s19, s20, s21, s22, s23, s24, s25, s26, s27, s28, s29, s30, s31])) (φ.ofN (topL [s0, s1, s2, s3, s4, s5, s6, s7, s8, s9, s10, s11, s12, s13, s14, s15, s16, s17, s18, s19, s20, s21, s22, s23, s24, s25, s26, s27, s28, s29, s30, s31])))) (φ.smallN (UInt32.ofNat (Int.toNat 1))))), ((φ.ok (φ.mulN (dφ φ) (φ.mulN (φ.ofN (topL [s0, s1, s2, s3, s4, s5, s6, s7, s8, s9, s10, s11, s12, s13, s14, s15, s16, s17, s18, s19, s20, s21, s22, s23, s24, s25, s26, s27, s28, s29, s30, s31])) (φ.ofN (topL [s0, s1, s2, s3, s4, s5, s6, s7, s8, s9, s10, s11, s12, s13, s14, s15, s16, s17, s18, s19, s20, s21, s22, s23, s24, s25, s26, s27, s28, s29, s30, s31]))))) && (φ.ok (φ.smallN (UInt32.ofNat (Int.toNat 1))))), ((φ.ok (dφ φ)) && (φ.ok (φ.mulN (φ.ofN (topL [s0, s1, s2, s3, s4, s5, s6, s7, s8, s9, s10, s11, s12, s13, s14, s15, s16, s17, s18, s19, s20, s21, s22, s23, s24, s25, s26, s27, s28, s29, s30, s31])) (φ.ofN (topL [s0, s1, s2, s3, s4, s5, s6, s7, s8, s9, s10, s11, s12, s13, s14, s15, s16, s17, s18, s19, s20, s21, s22, s23, s24, s25, s26, s27, s28, s29, s30, s31]))))), ((φ.ok (φ.mulN (φ.ofN (topL [s0, s1, s2, s3, s4, s5, s6, s7, s8, s9, s10, s11, s12, s13, s14, s15, s16, s17, s18, s19, s20, s21, s22, s23, s24, s25, s26, s27, s28, s29, s30, s31])) (φ.ofN (topL [s0, s1, s2, s3, s4, s5, s6, s7, s8, s9, s10, s11, s12, s13, s14, s15, s16, s17, s18, s19, s20, s21, s22, s23, s24, s25, s26, s27, s28, s29, s30, s31])))) && (φ.ok (φ.smallN (UInt32.ofNat (Int.toNat 1))))), ((φ.ok (φ.ofN (topL [s0, s1, s2, s3, s4, s5, s6, s7, s8, s9, s10, s11, s12, s13, s14, s15, s16, s17, s18, s19, s20, s21, s22, s23, s24, s25, s26, s27, s28, s29, s30, s31]))) && (φ.ok (φ.ofN (topL [s0, s1, s2, s3, s4, s5, s6, s7, s8, s9, s10, s11, s12, s13, s14, s15, s16, s17, s18, s19, s20, s21, s22, s23, s24, s25, s26, s27, s28, s29, s30, s31])))), φ.l32 (topL [s0, s1, s2, s3, s4, s5, s6, s7, s8, s9, s10, s11, s12, s13, s14, s15, s16, s17, s18, s19, s20, s21, s22, s23, s24, s25, s26, s27, s28, s29, s30, s31]), φ.canonN (topL [s0, s1, s2, s3, s4, s5, s6, s7, s8, s9, s10, s11, s12, s13, s14, s15, s16, s17, s18, s19, s20, s21, s22, s23, s24, s25, s26, s27, s28, s29, s30, s31]), decOdd [s0, s1, s2, s3, s4, s5, s6, s7, s8, s9, s10, s11, s12, s13, s14, s15, s16, s17, s18, s19, s20, s21, s22, s23, s24, s25, s26, s27, s28, s29, s30, s31]]) := by kernel_rfl
theorem d10e (φ : Fe) (s0 s1 s2 s3 s4 s5 s6 s7 s8 s9 s10 s11 s12 s13 s14 s15 s16 s17 s18 s19 s20 s21 s22 s23 s24 s25 s26 s27 s28 s29 s30 s31 : UInt8) : ansO (run1O Try.prog (psnf φ) (nf φ) [22, 31, 36, 39, 42, 45, 47, 51, 52, 53, 55, 61, 72] [false, true, true, true] [] (mask 10) 200 10 [.str [s0, s1, s2, s3, s4, s5, s6, s7, s8, s9, s10, s11, s12, s13, s14, s15, s16, s17, s18, s19, s20, s21, s22, s23, s24, s25, s26, s27, s28, s29, s30, s31]] [] Try.prog.globals.size) = some (.tup [qAv (ofXYψ φ (φ.rootN (uψ φ [s0, s1, s2, s3, s4, s5, s6, s7, s8, s9, s10, s11, s12, s13, s14, s15, s16, s17, s18, s19, s20, s21, s22, s23, s24, s25, s26, s27, s28, s29, s30, s31])) (yψ φ [s0, s1, s2, s3, s4, s5, s6, s7, s8, s9, s10, s11, s12, s13, s14, s15, s16, s17, s18, s19, s20, s21, s22, s23, s24, s25, s26, s27, s28, s29, s30, s31])), .int .i64 0], [((φ.ok (φ.rootN (φ.mulN (φ.subN (φ.mulN (φ.ofN (topL [s0, s1, s2, s3, s4, s5, s6, s7, s8, s9, s10, s11, s12, s13, s14, s15, s16, s17, s18, s19, s20, s21, s22, s23, s24, s25, s26, s27, s28, s29, s30, s31])) (φ.ofN (topL [s0, s1, s2, s3, s4, s5, s6, s7, s8, s9, s10, s11, s12, s13, s14, s15, s16, s17, s18, s19, s20, s21, s22, s23, s24, s25, s26, s27, s28, s29, s30, s31]))) (φ.smallN (UInt32.ofNat (Int.toNat 1)))) (φ.invN (φ.addN (φ.mulN (dφ φ) (φ.mulN (φ.ofN (topL [s0, s1, s2, s3, s4, s5, s6, s7, s8, s9, s10, s11, s12, s13, s14, s15, s16, s17, s18, s19, s20, s21, s22, s23, s24, s25, s26, s27, s28, s29, s30, s31])) (φ.ofN (topL [s0, s1, s2, s3, s4, s5, s6, s7, s8, s9, s10, s11, s12, s13, s14, s15, s16, s17, s18, s19, s20, s21, s22, s23, s24, s25, s26, s27, s28, s29, s30, s31])))) (φ.smallN (UInt32.ofNat (Int.toNat 1)))))))) && (φ.ok (φ.ofN (topL [s0, s1, s2, s3, s4, s5, s6, s7, s8, s9, s10, s11, s12, s13, s14, s15, s16, s17, s18, s19, s20, s21, s22, s23, s24, s25, s26, s27, s28, s29, s30, s31])))), samP (φ.rootN (uψ φ [s0, s1, s2, s3, s4, s5, s6, s7, s8, s9, s10, s11, s12, s13, s14, s15, s16, s17, s18, s19, s20, s21, s22, s23, s24, s25, s26, s27, s28, s29, s30, s31])) zeroN, φ.hasN (uψ φ [s0, s1, s2, s3, s4, s5, s6, s7, s8, s9, s10, s11, s12, s13, s14, s15, s16, s17, s18, s19, s20, s21, s22, s23, s24, s25, s26, s27, s28, s29, s30, s31]), (φ.ok (φ.mulN (φ.subN (φ.mulN (φ.ofN (topL [s0, s1, s2, s3, s4, s5, s6, s7, s8, s9, s10, s11, s12, s13, s14, s15, s16, s17, s18, s19, s20, s21, s22, s23, s24, s25, s26, s27, s28, s29, s30, s31])) (φ.ofN (topL [s0, s1, s2, s3, s4, s5, s6, s7, s8, s9, s10, s11, s12, s13, s14, s15, s16, s17, s18, s19, s20, s21, s22, s23, s24, s25, s26, s27, s28, s29, s30, s31]))) (φ.smallN (UInt32.ofNat (Int.toNat 1)))) (φ.invN (φ.addN (φ.mulN (dφ φ) (φ.mulN (φ.ofN (topL [s0, s1, s2, s3, s4, s5, s6, s7, s8, s9, s10, s11, s12, s13, s14, s15, s16, s17, s18, s19, s20, s21, s22, s23, s24, s25, s26, s27, s28, s29, s30, s31])) (φ.ofN (topL [s0, s1, s2, s3, s4, s5, s6, s7, s8, s9, s10, s11, s12, s13, s14, s15, s16, s17, s18, s19, s20, s21, s22, s23, s24, s25, s26, s27, s28, s29, s30, s31])))) (φ.smallN (UInt32.ofNat (Int.toNat 1))))))), ((φ.ok (φ.subN (φ.mulN (φ.ofN (topL [s0, s1, s2, s3, s4, s5, s6, s7, s8, s9, s10, s11, s12, s13, s14, s15, s16, s17, s18, s19, s20, s21, s22, s23, s24, s25, s26, s27, s28, s29, s30, s31])) (φ.ofN (topL [s0, s1, s2, s3, s4, s5, s6, s7, s8, s9, s10, s11, s12, s13, s14, s15, s16, s17, s18, s19, s20, s21, s22, s23, s24, s25, s26, s27, s28, s29, s30, s31]))) (φ.smallN (UInt32.ofNat (Int.toNat 1))))) && (φ.ok (φ.invN (φ.addN (φ.mulN (dφ φ) (φ.mulN (φ.ofN (topL [s0, s1, s2, s3, s4, s5, s6, s7, s8, s9, s10, s11, s12, s13, s14, s15, s16, s17, s18, s19, s20, s21, s22, s23, s24, s25, s26, s27, s28, s29, s30, s31])) (φ.ofN (topL [s0, s1, s2, s3, s4, s5, s6, s7, s8, s9, s10, s11, s12, s13, s14, s15, s16, s17, s18, s19, s20, s21, s22, s23, s24, s25, s26, s27, s28, s29, s30, s31])))) (φ.smallN (UInt32.ofNat (Int.toNat 1))))))), (φ.ok (φ.addN (φ.mulN (dφ φ) (φ.mulN (φ.ofN (topL [s0, s1, s2, s3, s4, s5, s6, s7, s8, s9, s10, s11, s12, s13, s14, s15, s16, s17, s18, s19, s20, s21, s22, s23, s24, s25, s26, s27, s28, s29, s30, s31])) (φ.ofN (topL [s0, s1, s2, s3, s4, s5, s6, s7, s8, s9, s10, s11, s12, s13, s14, s15, s16, s17, s18, s19, s20, s21, s22, s23, s24, s25, s26, s27, s28, s29, s30, s31])))) (φ.smallN (UInt32.ofNat (Int.toNat 1))))), ((φ.ok (φ.mulN (dφ φ) (φ.mulN (φ.ofN (topL [s0, s1, s2, s3, s4, s5, s6, s7, s8, s9, s10, s11, s12, s13, s14, s15, s16, s17, s18, s19, s20, s21, s22, s23, s24, s25, s26, s27, s28, s29, s30, s31])) (φ.ofN (topL [s0, s1, s2, s3, s4, s5, s6, s7, s8, s9, s10, s11, s12, s13, s14, s15, s16, s17, s18, s19, s20, s21, s22, s23, s24, s25, s26, s27, s28, s29, s30, s31]))))) && (φ.ok (φ.smallN (UInt32.ofNat (Int.toNat 1))))), ((φ.ok (dφ φ)) && (φ.ok (φ.mulN (φ.ofN (topL [s0, s1, s2, s3, s4, s5, s6, s7, s8, s9, s10, s11, s12, s13, s14, s15, s16, s17, s18, s19, s20, s21, s22, s23, s24, s25, s26, s27, s28, s29, s30, s31])) (φ.ofN (topL [s0, s1, s2, s3, s4, s5, s6, s7, s8, s9, s10, s11, s12, s13, s14, s15, s16, s17, s18, s19, s20, s21, s22, s23, s24, s25, s26, s27, s28, s29, s30, s31]))))), ((φ.ok (φ.mulN (φ.ofN (topL [s0, s1, s2, s3, s4, s5, s6, s7, s8, s9, s10, s11, s12, s13, s14, s15, s16, s17, s18, s19, s20, s21, s22, s23, s24, s25, s26, s27, s28, s29, s30, s31])) (φ.ofN (topL [s0, s1, s2, s3, s4, s5, s6, s7, s8, s9, s10, s11, s12, s13, s14, s15, s16, s17, s18, s19, s20, s21, s22, s23, s24, s25, s26, s27, s28, s29, s30, s31])))) && (φ.ok (φ.smallN (UInt32.ofNat (Int.toNat 1))))), ((φ.ok (φ.ofN (topL [s0, s1, s2, s3, s4, s5, s6, s7, s8, s9, s10, s11, s12, s13, s14, s15, s16, s17, s18, s19, s20, s21, s22, s23, s24, s25, s26, s27, s28, s29, s30, s31]))) && (φ.ok (φ.ofN (topL [s0, s1, s2, s3, s4, s5, s6, s7, s8, s9, s10, s11, s12, s13, s14, s15, s16, s17, s18, s19, s20, s21, s22, s23, s24, s25, s26, s27, s28, s29, s30, s31])))), φ.l32 (topL [s0, s1, s2, s3, s4, s5, s6, s7, s8, s9, s10, s11, s12, s13, s14, s15, s16, s17, s18, s19, s20, s21, s22, s23, s24, s25, s26, s27, s28, s29, s30, s31]), φ.canonN (topL [s0, s1, s2, s3, s4, s5, s6, s7, s8, s9, s10, s11, s12, s13, s14, s15, s16, s17, s18, s19, s20, s21, s22, s23, s24, s25, s26, s27, s28, s29, s30, s31]), !(decOdd [s0, s1, s2, s3, s4, s5, s6, s7, s8, s9, s10, s11, s12, s13, s14, s15, s16, s17, s18, s19, s20, s21, s22, s23, s24, s25, s26, s27, s28, s29, s30, s31])]) := by kernel_rfl
theorem d10f (φ : Fe) (s0 s1 s2 s3 s4 s5 s6 s7 s8 s9 s10 s11 s12 s13 s14 s15 s16 s17 s18 s19 s20 s21 s22 s23 s24 s25 s26 s27 s28 s29 s30 s31 : UInt8) : ansO (run1O Try.prog (psnf φ) (nf φ) [22, 31, 36, 39, 42, 45, 47, 51, 52, 53, 55, 61, 72] [true, true, true, false] [] (mask 10) 200 10 [.str [s0, s1, s2, s3, s4, s5, s6, s7, s8, s9, s10, s11, s12, s13, s14, s15, s16, s17, s18, s19, s20, s21, s22, s23, s24, s25, s26, s27, s28, s29, s30, s31]] [] Try.prog.globals.size) = some (.tup [qAv (ofXYψ φ (φ.negN (φ.rootN (uψ φ [s0, s1, s2, s3, s4, s5, s6, s7, s8, s9, s10, s11, s12, s13, s14, s15, s16, s17, s18, s19, s20, s21, s22, s23, s24, s25, s26, s27, s28, s29, s30, s31]))) (yψ φ [s0, s1, s2, s3, s4, s5, s6, s7, s8, s9, s10, s11, s12, s13, s14, s15, s16, s17, s18, s19, s20, s21, s22, s23, s24, s25, s26, s27, s28, s29, s30, s31])), .int .i64 0], [((φ.ok (φ.negN (φ.rootN (φ.mulN (φ.subN (φ.mulN (φ.ofN (topL [s0, s1, s2, s3, s4, s5, s6, s7, s8, s9, s10, s11, s12, s13, s14, s15, s16, s17, s18, s19, s20, s21, s22, s23, s24, s25, s26, s27, s28, s29, s30, s31])) (φ.ofN (topL [s0, s1, s2, s3, s4, s5, s6, s7, s8, s9, s10, s11, s12, s13, s14, s15, s16, s17, s18, s19, s20, s21, s22, s23, s24, s25, s26, s27, s28, s29, s30, s31]))) (φ.smallN (UInt32.ofNat (Int.toNat 1)))) (φ.invN (φ.addN (φ.mulN (dφ φ) (φ.mulN (φ.ofN (topL [s0, s1, s2, s3, s4, s5, s6, s7, s8, s9, s10, s11, s12, s13, s14, s15, s16, s17, s18, s19, s20, s21, s22, s23, s24, s25, s26, s27, s28, s29, s30, s31])) (φ.ofN (topL [s0, s1, s2, s3, s4, s5, s6, s7, s8, s9, s10, s11, s12, s13, s14, s15, s16, s17, s18, s19, s20, s21, s22, s23, s24, s25, s26, s27, s28, s29, s30, s31])))) (φ.smallN (UInt32.ofNat (Int.toNat 1))))))))) && (φ.ok (φ.ofN (topL [s0, s1, s2, s3, s4, s5, s6, s7, s8, s9, s10, s11, s12, s13, s14, s15, s16, s17, s18, s19, s20, s21, s22, s23, s24, s25, s26, s27, s28, s29, s30, s31])))), !(samP (φ.rootN (uψ φ [s0, s1, s2, s3, s4, s5, s6, s7, s8, s9, s10, s11, s12, s13, s14, s15, s16, s17, s18, s19, s20, s21, s22, s23, s24, s25, s26, s27, s28, s29, s30, s31])) zeroN), φ.hasN (uψ φ [s0, s1, s2, s3, s4, s5, s6, s7, s8, s9, s10, s11, s12, s13, s14, s15, s16, s17, s18, s19, s20, s21, s22, s23, s24, s25, s26, s27, s28, s29, s30, s31]), (φ.ok (φ.mulN (φ.subN (φ.mulN (φ.ofN (topL [s0, s1, s2, s3, s4, s5, s6, s7, s8, s9, s10, s11, s12, s13, s14, s15, s16, s17, s18, s19, s20, s21, s22, s23, s24, s25, s26, s27, s28, s29, s30, s31])) (φ.ofN (topL [s0, s1, s2, s3, s4, s5, s6, s7, s8, s9, s10, s11, s12, s13, s14, s15, s16, s17, s18, s19, s20, s21, s22, s23, s24, s25, s26, s27, s28, s29, s30, s31]))) (φ.smallN (UInt32.ofNat (Int.toNat 1)))) (φ.invN (φ.addN (φ.mulN (dφ φ) (φ.mulN (φ.ofN (topL [s0, s1, s2, s3, s4, s5, s6, s7, s8, s9, s10, s11, s12, s13, s14, s15, s16, s17, s18, s19, s20, s21, s22, s23, s24, s25, s26, s27, s28, s29, s30, s31])) (φ.ofN (topL [s0, s1, s2, s3, s4, s5, s6, s7, s8, s9, s10, s11, s12, s13, s14, s15, s16, s17, s18, s19, s20, s21, s22, s23, s24, s25, s26, s27, s28, s29, s30, s31])))) (φ.smallN (UInt32.ofNat (Int.toNat 1))))))), ((φ.ok (φ.subN (φ.mulN (φ.ofN (topL [s0, s1, s2, s3, s4, s5, s6, s7, s8, s9, s10, s11, s12, s13, s14, s15, s16, s17, s18, s19, s20, s21, s22, s23, s24, s25, s26, s27, s28, s29, s30, s31])) (φ.ofN (topL [s0, s1, s2, s3, s4, s5, s6, s7, s8, s9, s10, s11, s12, s13, s14, s15, s16, s17, s18, s19, s20, s21, s22, s23, s24, s25, s26, s27, s28, s29, s30, s31]))) (φ.smallN (UInt32.ofNat (Int.toNat 1))))) && (φ.ok (φ.invN (φ.addN (φ.mulN (dφ φ) (φ.mulN (φ.ofN (topL [s0, s1, s2, s3, s4, s5, s6, s7, s8, s9, s10, s11, s12, s13, s14, s15, s16, s17, s18, s19, s20, s21, s22, s23, s24, s25, s26, s27, s28, s29, s30, s31])) (φ.ofN (topL [s0, s1, s2, s3, s4, s5, s6, s7, s8, s9, s10, s11, s12, s13, s14, s15, s16, s17, s18, s19, s20, s21, s22, s23, s24, s25, s26, s27, s28, s29, s30, s31])))) (φ.smallN (UInt32.ofNat (Int.toNat 1))))))), (φ.ok (φ.addN (φ.mulN (dφ φ) (φ.mulN (φ.ofN (topL [s0, s1, s2, s3, s4, s5, s6, s7, s8, s9, s10, s11, s12, s13, s14, s15, s16, s17, s18, s19, s20, s21, s22, s23, s24, s25, s26, s27, s28, s29, s30, s31])) (φ.ofN (topL [s0, s1, s2, s3, s4, s5, s6, s7, s8, s9, s10, s11, s12, s13, s14, s15, s16, s17, s18, s19, s20, s21, s22, s23, s24, s25, s26, s27, s28, s29, s30, s31])))) (φ.smallN (UInt32.ofNat (Int.toNat 1))))), ((φ.ok (φ.mulN (dφ φ) (φ.mulN (φ.ofN (topL [s0, s1, s2, s3, s4, s5, s6, s7, s8, s9, s10, s11, s12, s13, s14, s15, s16, s17, s18, s19, s20, s21, s22, s23, s24, s25, s26, s27, s28, s29, s30, s31])) (φ.ofN (topL [s0, s1, s2, s3, s4, s5, s6, s7, s8, s9, s10, s11, s12, s13, s14, s15, s16, s17, s18, s19, s20, s21, s22, s23, s24, s25, s26, s27, s28, s29, s30, s31]))))) && (φ.ok (φ.smallN (UInt32.ofNat (Int.toNat 1))))), ((φ.ok (dφ φ)) && (φ.ok (φ.mulN (φ.ofN (topL [s0, s1, s2, s3, s4, s5, s6, s7, s8, s9, s10, s11, s12, s13, s14, s15, s16, s17, s18, s19, s20, s21, s22, s23, s24, s25, s26, s27, s28, s29, s30, s31])) (φ.ofN (topL [s0, s1, s2, s3, s4, s5, s6, s7, s8, s9, s10, s11, s12, s13, s14, s15, s16, s17, s18, s19, s20, s21, s22, s23, s24, s25, s26, s27, s28, s29, s30, s31]))))), ((φ.ok (φ.mulN (φ.ofN (topL [s0, s1, s2, s3, s4, s5, s6, s7, s8, s9, s10, s11, s12, s13, s14, s15, s16, s17, s18, s19, s20, s21, s22, s23, s24, s25, s26, s27, s28, s29, s30, s31])) (φ.ofN (topL [s0, s1, s2, s3, s4, s5, s6, s7, s8, s9, s10, s11, s12, s13, s14, s15, s16, s17, s18, s19, s20, s21, s22, s23, s24, s25, s26, s27, s28, s29, s30, s31])))) && (φ.ok (φ.smallN (UInt32.ofNat (Int.toNat 1))))), ((φ.ok (φ.ofN (topL [s0, s1, s2, s3, s4, s5, s6, s7, s8, s9, s10, s11, s12, s13, s14, s15, s16, s17, s18, s19, s20, s21, s22, s23, s24, s25, s26, s27, s28, s29, s30, s31]))) && (φ.ok (φ.ofN (topL [s0, s1, s2, s3, s4, s5, s6, s7, s8, s9, s10, s11, s12, s13, s14, s15, s16, s17, s18, s19, s20, s21, s22, s23, s24, s25, s26, s27, s28, s29, s30, s31])))), φ.l32 (topL [s0, s1, s2, s3, s4, s5, s6, s7, s8, s9, s10, s11, s12, s13, s14, s15, s16, s17, s18, s19, s20, s21, s22, s23, s24, s25, s26, s27, s28, s29, s30, s31]), φ.canonN (topL [s0, s1, s2, s3, s4, s5, s6, s7, s8, s9, s10, s11, s12, s13, s14, s15, s16, s17, s18, s19, s20, s21, s22, s23, s24, s25, s26, s27, s28, s29, s30, s31]), decOdd [s0, s1, s2, s3, s4, s5, s6, s7, s8, s9, s10, s11, s12, s13, s14, s15, s16, s17, s18, s19, s20, s21, s22, s23, s24, s25, s26, s27, s28, s29, s30, s31]]) := by kernel_rfl
theorem d10g (φ : Fe) (s0 s1 s2 s3 s4 s5 s6 s7 s8 s9 s10 s11 s12 s13 s14 s15 s16 s17 s18 s19 s20 s21 s22 s23 s24 s25 s26 s27 s28 s29 s30 s31 : UInt8) : ansO (run1O Try.prog (psnf φ) (nf φ) [22, 31, 36, 39, 42, 45, 47, 51, 52, 53, 55, 61, 72] [false, true, true, false] [] (mask 10) 200 10 [.str [s0, s1, s2, s3, s4, s5, s6, s7, s8, s9, s10, s11, s12, s13, s14, s15, s16, s17, s18, s19, s20, s21, s22, s23, s24, s25, s26, s27, s28, s29, s30, s31]] [] Try.prog.globals.size) = some (.tup [qAv (ofXYψ φ (φ.rootN (uψ φ [s0, s1, s2, s3, s4, s5, s6, s7, s8, s9, s10, s11, s12, s13, s14, s15, s16, s17, s18, s19, s20, s21, s22, s23, s24, s25, s26, s27, s28, s29, s30, s31])) (yψ φ [s0, s1, s2, s3, s4, s5, s6, s7, s8, s9, s10, s11, s12, s13, s14, s15, s16, s17, s18, s19, s20, s21, s22, s23, s24, s25, s26, s27, s28, s29, s30, s31])), .int .i64 0], [((φ.ok (φ.rootN (φ.mulN (φ.subN (φ.mulN (φ.ofN (topL [s0, s1, s2, s3, s4, s5, s6, s7, s8, s9, s10, s11, s12, s13, s14, s15, s16, s17, s18, s19, s20, s21, s22, s23, s24, s25, s26, s27, s28, s29, s30, s31])) (φ.ofN (topL [s0, s1, s2, s3, s4, s5, s6, s7, s8, s9, s10, s11, s12, s13, s14, s15, s16, s17, s18, s19, s20, s21, s22, s23, s24, s25, s26, s27, s28, s29, s30, s31]))) (φ.smallN (UInt32.ofNat (Int.toNat 1)))) (φ.invN (φ.addN (φ.mulN (dφ φ) (φ.mulN (φ.ofN (topL [s0, s1, s2, s3, s4, s5, s6, s7, s8, s9, s10, s11, s12, s13, s14, s15, s16, s17, s18, s19, s20, s21, s22, s23, s24, s25, s26, s27, s28, s29, s30, s31])) (φ.ofN (topL [s0, s1, s2, s3, s4, s5, s6, s7, s8, s9, s10, s11, s12, s13, s14, s15, s16, s17, s18, s19, s20, s21, s22, s23, s24, s25, s26, s27, s28, s29, s30, s31])))) (φ.smallN (UInt32.ofNat (Int.toNat 1)))))))) && (φ.ok (φ.ofN (topL [s0, s1, s2, s3, s4, s5, s6, s7, s8, s9, s10, s11, s12, s13, s14, s15, s16, s17, s18, s19, s20, s21, s22, s23, s24, s25, s26, s27, s28, s29, s30, s31])))), !(samP (φ.rootN (uψ φ [s0, s1, s2, s3, s4, s5, s6, s7, s8, s9, s10, s11, s12, s13, s14, s15, s16, s17, s18, s19, s20, s21, s22, s23, s24, s25, s26, s27, s28, s29, s30, s31])) zeroN), φ.hasN (uψ φ [s0, s1, s2, s3, s4, s5, s6, s7, s8, s9, s10, s11, s12, s13, s14, s15, s16, s17, s18, s19, s20, s21, s22, s23, s24, s25, s26, s27, s28, s29, s30, s31]), (φ.ok (φ.mulN (φ.subN (φ.mulN (φ.ofN (topL [s0, s1, s2, s3, s4, s5, s6, s7, s8, s9, s10, s11, s12, s13, s14, s15, s16, s17, s18, s19, s20, s21, s22, s23, s24, s25, s26, s27, s28, s29, s30, s31])) (φ.ofN (topL [s0, s1, s2, s3, s4, s5, s6, s7, s8, s9, s10, s11, s12, s13, s14, s15, s16, s17, s18, s19, s20, s21, s22, s23, s24, s25, s26, s27, s28, s29, s30, s31]))) (φ.smallN (UInt32.ofNat (Int.toNat 1)))) (φ.invN (φ.addN (φ.mulN (dφ φ) (φ.mulN (φ.ofN (topL [s0, s1, s2, s3, s4, s5, s6, s7, s8, s9, s10, s11, s12, s13, s14, s15, s16, s17, s18, s19, s20, s21, s22, s23, s24, s25, s26, s27, s28, s29, s30, s31])) (φ.ofN (topL [s0, s1, s2, s3, s4, s5, s6, s7, s8, s9, s10, s11, s12, s13, s14, s15, s16, s17, s18, s19, s20, s21, s22, s23, s24, s25, s26, s27, s28, s29, s30, s31])))) (φ.smallN (UInt32.ofNat (Int.toNat 1))))))), ((φ.ok (φ.subN (φ.mulN (φ.ofN (topL [s0, s1, s2, s3, s4, s5, s6, s7, s8, s9, s10, s11, s12, s13, s14, s15, s16, s17, s18, s19, s20, s21, s22, s23, s24, s25, s26, s27, s28, s29, s30, s31])) (φ.ofN (topL [s0, s1, s2, s3, s4, s5, s6, s7, s8, s9, s10, s11, s12, s13, s14, s15, s16, s17, s18, s19, s20, s21, s22, s23, s24, s25, s26, s27, s28, s29, s30, s31]))) (φ.smallN (UInt32.ofNat (Int.toNat 1))))) && (φ.ok (φ.invN (φ.addN (φ.mulN (dφ φ) (φ.mulN (φ.ofN (topL [s0, s1, s2, s3, s4, s5, s6, s7, s8, s9, s10, s11, s12, s13, s14, s15, s16, s17, s18, s19, s20, s21, s22, s23, s24, s25, s26, s27, s28, s29, s30, s31])) (φ.ofN (topL [s0, s1, s2, s3, s4, s5, s6, s7, s8, s9, s10, s11, s12, s13, s14, s15, s16, s17, s18, s19, s20, s21, s22, s23, s24, s25, s26, s27, s28, s29, s30, s31])))) (φ.smallN (UInt32.ofNat (Int.toNat 1))))))), (φ.ok (φ.addN (φ.mulN (dφ φ) (φ.mulN (φ.ofN (topL [s0, s1, s2, s3, s4, s5, s6, s7, s8, s9, s10, s11, s12, s13, s14, s15, s16, s17, s18, s19, s20, s21, s22, s23, s24, s25, s26, s27, s28, s29, s30, s31])) (φ.ofN (topL [s0, s1, s2, s3, s4, s5, s6, s7, s8, s9, s10, s11, s12, s13, s14, s15, s16, s17, s18, s19, s20, s21, s22, s23, s24, s25, s26, s27, s28, s29, s30, s31])))) (φ.smallN (UInt32.ofNat (Int.toNat 1))))), ((φ.ok (φ.mulN (dφ φ) (φ.mulN (φ.ofN (topL [s0, s1, s2, s3, s4, s5, s6, s7, s8, s9, s10, s11, s12, s13, s14, s15, s16, s17, s18, s19, s20, s21, s22, s23, s24, s25, s26, s27, s28, s29, s30, s31])) (φ.ofN (topL [s0, s1, s2, s3, s4, s5, s6, s7, s8, s9, s10, s11, s12, s13, s14, s15, s16, s17, s18, s19, s20, s21, s22, s23, s24, s25, s26, s27, s28, s29, s30, s31]))))) && (φ.ok (φ.smallN (UInt32.ofNat (Int.toNat 1))))), ((φ.ok (dφ φ)) && (φ.ok (φ.mulN (φ.ofN (topL [s0, s1, s2, s3, s4, s5, s6, s7, s8, s9, s10, s11, s12, s13, s14, s15, s16, s17, s18, s19, s20, s21, s22, s23, s24, s25, s26, s27, s28, s29, s30, s31])) (φ.ofN (topL [s0, s1, s2, s3, s4, s5, s6, s7, s8, s9, s10, s11, s12, s13, s14, s15, s16, s17, s18, s19, s20, s21, s22, s23, s24, s25, s26, s27, s28, s29, s30, s31]))))), ((φ.ok (φ.mulN (φ.ofN (topL [s0, s1, s2, s3, s4, s5, s6, s7, s8, s9, s10, s11, s12, s13, s14, s15, s16, s17, s18, s19, s20, s21, s22, s23, s24, s25, s26, s27, s28, s29, s30, s31])) (φ.ofN (topL [s0, s1, s2, s3, s4, s5, s6, s7, s8, s9, s10, s11, s12, s13, s14, s15, s16, s17, s18, s19, s20, s21, s22, s23, s24, s25, s26, s27, s28, s29, s30, s31])))) && (φ.ok (φ.smallN (UInt32.ofNat (Int.toNat 1))))), ((φ.ok (φ.ofN (topL [s0, s1, s2, s3, s4, s5, s6, s7, s8, s9, s10, s11, s12, s13, s14, s15, s16, s17, s18, s19, s20, s21, s22, s23, s24, s25, s26, s27, s28, s29, s30, s31]))) && (φ.ok (φ.ofN (topL [s0, s1, s2, s3, s4, s5, s6, s7, s8, s9, s10, s11, s12, s13, s14, s15, s16, s17, s18, s19, s20, s21, s22, s23, s24, s25, s26, s27, s28, s29, s30, s31])))), φ.l32 (topL [s0, s1, s2, s3, s4, s5, s6, s7, s8, s9, s10, s11, s12, s13, s14, s15, s16, s17, s18, s19, s20, s21, s22, s23, s24, s25, s26, s27, s28, s29, s30, s31]), φ.canonN (topL [s0, s1, s2, s3, s4, s5, s6, s7, s8, s9, s10, s11, s12, s13, s14, s15, s16, s17, s18, s19, s20, s21, s22, s23, s24, s25, s26, s27, s28, s29, s30, s31]), !(decOdd [s0, s1, s2, s3, s4, s5, s6, s7, s8, s9, s10, s11, s12, s13, s14, s15, s16, s17, s18, s19, s20, s21, s22, s23, s24, s25, s26, s27, s28, s29, s30, s31])]) := by kernel_rfl
theorem rdeN {φ : Fe} (h : OkF φ) (s : List UInt8) : (run1 Try.prog (nf φ) (mask 10) 200 10 [.str s] [] Try.prog.globals.size).map (·.1) = some (.tup [qAv (decψ φ s), .int .i64 (decRψ φ s)]) := by
  unfold decψ decRψ
  cases hl : isLen s 32
  · exact ansO_run (nf_ps φ) (d10a φ s) (by simp [allT, ne32 hl])
  have ht := h.len (topL_len hl)
  obtain ⟨s0, s1, s2, s3, s4, s5, s6, s7, s8, s9, s10, s11, s12, s13, s14, s15, s16, s17, s18, s19, s20, s21, s22, s23, s24, s25, s26, s27, s28, s29, s30, s31, rfl⟩ := len32 (isLen_eq.1 hl)
  simp only [cond_true]
  cases h1 : φ.canonN (topL [s0, s1, s2, s3, s4, s5, s6, s7, s8, s9, s10, s11, s12, s13, s14, s15, s16, s17, s18, s19, s20, s21, s22, s23, s24, s25, s26, s27, s28, s29, s30, s31])
  · have e : okψ φ [s0, s1, s2, s3, s4, s5, s6, s7, s8, s9, s10, s11, s12, s13, s14, s15, s16, s17, s18, s19, s20, s21, s22, s23, s24, s25, s26, s27, s28, s29, s30, s31] = false := by unfold okψ; rw [h1]; rfl
    rw [e]
    exact ansO_run (nf_ps φ) (d10b φ s0 s1 s2 s3 s4 s5 s6 s7 s8 s9 s10 s11 s12 s13 s14 s15 s16 s17 s18 s19 s20 s21 s22 s23 s24 s25 s26 s27 s28 s29 s30 s31) (by simp only [allT, h1, Bool.not_false, cond_true])
  cases h2 : φ.hasN (uψ φ [s0, s1, s2, s3, s4, s5, s6, s7, s8, s9, s10, s11, s12, s13, s14, s15, s16, s17, s18, s19, s20, s21, s22, s23, s24, s25, s26, s27, s28, s29, s30, s31])
  · have e : okψ φ [s0, s1, s2, s3, s4, s5, s6, s7, s8, s9, s10, s11, s12, s13, s14, s15, s16, s17, s18, s19, s20, s21, s22, s23, s24, s25, s26, s27, s28, s29, s30, s31] = false := by unfold okψ; rw [h1, h2]; rfl
    rw [e]
    exact ansO_run (nf_ps φ) (d10c φ s0 s1 s2 s3 s4 s5 s6 s7 s8 s9 s10 s11 s12 s13 s14 s15 s16 s17 s18 s19 s20 s21 s22 s23 s24 s25 s26 s27 s28 s29 s30 s31) (by simp (maxDischargeDepth := 40) only [allT, h.add, h.sub, h.mul, h.neg, h.inv, h.root, h.small, h.of, h.len, h.d32, okGiven h, okD h, ht, h1, h2, Bool.and_self, Bool.not_false, Bool.not_true, cond_true])
  cases h3 : decOdd [s0, s1, s2, s3, s4, s5, s6, s7, s8, s9, s10, s11, s12, s13, s14, s15, s16, s17, s18, s19, s20, s21, s22, s23, s24, s25, s26, s27, s28, s29, s30, s31]
  · cases h4 : samP (φ.rootN (uψ φ [s0, s1, s2, s3, s4, s5, s6, s7, s8, s9, s10, s11, s12, s13, s14, s15, s16, s17, s18, s19, s20, s21, s22, s23, s24, s25, s26, s27, s28, s29, s30, s31])) zeroN
    · have e : okψ φ [s0, s1, s2, s3, s4, s5, s6, s7, s8, s9, s10, s11, s12, s13, s14, s15, s16, s17, s18, s19, s20, s21, s22, s23, s24, s25, s26, s27, s28, s29, s30, s31] = true := by unfold okψ; rw [h1, h2, h4]; rfl
      have e2 : xψ φ [s0, s1, s2, s3, s4, s5, s6, s7, s8, s9, s10, s11, s12, s13, s14, s15, s16, s17, s18, s19, s20, s21, s22, s23, s24, s25, s26, s27, s28, s29, s30, s31] = φ.rootN (uψ φ [s0, s1, s2, s3, s4, s5, s6, s7, s8, s9, s10, s11, s12, s13, s14, s15, s16, s17, s18, s19, s20, s21, s22, s23, s24, s25, s26, s27, s28, s29, s30, s31]) := by unfold xψ; rw [h3]; rfl
      rw [e, cond_true, cond_true, e2]
      exact ansO_run (nf_ps φ) (d10g φ s0 s1 s2 s3 s4 s5 s6 s7 s8 s9 s10 s11 s12 s13 s14 s15 s16 s17 s18 s19 s20 s21 s22 s23 s24 s25 s26 s27 s28 s29 s30 s31) (by simp (maxDischargeDepth := 40) only [allT, h.add, h.sub, h.mul, h.neg, h.inv, h.root, h.small, h.of, h.len, h.d32, okGiven h, okD h, ht, h1, h2, h3, h4, Bool.and_self, Bool.not_false, Bool.not_true, cond_true])
    · have e : okψ φ [s0, s1, s2, s3, s4, s5, s6, s7, s8, s9, s10, s11, s12, s13, s14, s15, s16, s17, s18, s19, s20, s21, s22, s23, s24, s25, s26, s27, s28, s29, s30, s31] = true := by unfold okψ; rw [h1, h2, h3, h4]; rfl
      have e2 : xψ φ [s0, s1, s2, s3, s4, s5, s6, s7, s8, s9, s10, s11, s12, s13, s14, s15, s16, s17, s18, s19, s20, s21, s22, s23, s24, s25, s26, s27, s28, s29, s30, s31] = φ.rootN (uψ φ [s0, s1, s2, s3, s4, s5, s6, s7, s8, s9, s10, s11, s12, s13, s14, s15, s16, s17, s18, s19, s20, s21, s22, s23, s24, s25, s26, s27, s28, s29, s30, s31]) := by unfold xψ; rw [h3]; rfl
      rw [e, cond_true, cond_true, e2]
      exact ansO_run (nf_ps φ) (d10e φ s0 s1 s2 s3 s4 s5 s6 s7 s8 s9 s10 s11 s12 s13 s14 s15 s16 s17 s18 s19 s20 s21 s22 s23 s24 s25 s26 s27 s28 s29 s30 s31) (by simp (maxDischargeDepth := 40) only [allT, h.add, h.sub, h.mul, h.neg, h.inv, h.root, h.small, h.of, h.len, h.d32, okGiven h, okD h, ht, h1, h2, h3, h4, Bool.and_self, Bool.not_false, Bool.not_true, cond_true])
  · cases h4 : samP (φ.rootN (uψ φ [s0, s1, s2, s3, s4, s5, s6, s7, s8, s9, s10, s11, s12, s13, s14, s15, s16, s17, s18, s19, s20, s21, s22, s23, s24, s25, s26, s27, s28, s29, s30, s31])) zeroN
    · have e : okψ φ [s0, s1, s2, s3, s4, s5, s6, s7, s8, s9, s10, s11, s12, s13, s14, s15, s16, s17, s18, s19, s20, s21, s22, s23, s24, s25, s26, s27, s28, s29, s30, s31] = true := by unfold okψ; rw [h1, h2, h4]; rfl
      have e2 : xψ φ [s0, s1, s2, s3, s4, s5, s6, s7, s8, s9, s10, s11, s12, s13, s14, s15, s16, s17, s18, s19, s20, s21, s22, s23, s24, s25, s26, s27, s28, s29, s30, s31] = φ.negN (φ.rootN (uψ φ [s0, s1, s2, s3, s4, s5, s6, s7, s8, s9, s10, s11, s12, s13, s14, s15, s16, s17, s18, s19, s20, s21, s22, s23, s24, s25, s26, s27, s28, s29, s30, s31])) := by unfold xψ; rw [h3]; rfl
      rw [e, cond_true, cond_true, e2]
      exact ansO_run (nf_ps φ) (d10f φ s0 s1 s2 s3 s4 s5 s6 s7 s8 s9 s10 s11 s12 s13 s14 s15 s16 s17 s18 s19 s20 s21 s22 s23 s24 s25 s26 s27 s28 s29 s30 s31) (by simp (maxDischargeDepth := 40) only [allT, h.add, h.sub, h.mul, h.neg, h.inv, h.root, h.small, h.of, h.len, h.d32, okGiven h, okD h, ht, h1, h2, h3, h4, Bool.and_self, Bool.not_false, Bool.not_true, cond_true])
    · have e : okψ φ [s0, s1, s2, s3, s4, s5, s6, s7, s8, s9, s10, s11, s12, s13, s14, s15, s16, s17, s18, s19, s20, s21, s22, s23, s24, s25, s26, s27, s28, s29, s30, s31] = false := by unfold okψ; rw [h1, h2, h3, h4]; rfl
      rw [e]
      exact ansO_run (nf_ps φ) (d10d φ s0 s1 s2 s3 s4 s5 s6 s7 s8 s9 s10 s11 s12 s13 s14 s15 s16 s17 s18 s19 s20 s21 s22 s23 s24 s25 s26 s27 s28 s29 s30 s31) (by simp (maxDischargeDepth := 40) only [allT, h.add, h.sub, h.mul, h.neg, h.inv, h.root, h.small, h.of, h.len, h.d32, okGiven h, okD h, ht, h1, h2, h3, h4, Bool.and_self, Bool.not_false, Bool.not_true, cond_true])
end Go.Proofs.Ytipbocnofahafaa

/- Points: the document's sums. -/
namespace Go.Proofs.Ytipbocnofahafaa
set_option linter.unusedVariables false
set_option linter.unusedSimpArgs false
open Go Go.Eng Go.Num
set_option maxRecDepth 100000
set_option maxHeartbeats 1000000
set_option linter.unusedSimpArgs false
set_option linter.unusedVariables false
def q61 (φ : Fe) : List AVal → Option (EffA × Bool)
  | [a, b] => match qOf a, qOf b with
    | some x0, some x1 => some (.pure (N16.av (teesφ φ x0 x1)), (φ.ok x0.t && φ.ok x1.t))
    | _, _ => none
  | _ => none
theorem q61_ok : CSOk Try.prog (csP (psOne 61 (q61 realFe))) := csP_one fun args v he => by
  unfold q61 at he
  split at he
  · split at he
    · rename_i x0 x1 h0 h1
      simp only [Option.some.injEq, Prod.mk.injEq] at he
      obtain ⟨rfl, h⟩ := he
      rw [qOf_eq h0, qOf_eq h1]
      exact callOk_val nf_ok hmix (rte okF x0 x1 (Bool.and_eq_true_iff.1 h).1 (Bool.and_eq_true_iff.1 h).2) rfl rfl
    · cases he
  · cases he
def psng (φ : Fe) : PS := (psAlt (psOne 61 (q61 φ)) (psnf φ))
theorem psng_ok : CSOk Try.prog (csP (psng realFe)) := (csP_alt q61_ok psnf_ok)
def chng (φ : Fe) : CS := (chnf φ)
theorem chng_ok : CSOk Try.prog (chng realFe) := chnf_ok
def ng (φ : Fe) : CS := csAlt (csP (psng φ)) (chng φ)
theorem ng_ok : CSOk Try.prog (ng realFe) := csAlt_ok psng_ok chng_ok
theorem ng_ps (φ : Fe) : PSOk (psng φ) (ng φ) := csP_ok
end Go.Proofs.Ytipbocnofahafaa

/- Points: the program's functions. -/
namespace Go.Proofs.Ytipbocnofahafaa
set_option linter.unusedVariables false
set_option linter.unusedSimpArgs false
open Go Go.Eng Go.Num
set_option maxRecDepth 100000
set_option maxHeartbeats 1000000
set_option linter.unusedSimpArgs false
set_option linter.unusedVariables false
theorem e18a (φ : Fe) (p q : P4 E5) : ansO (run1O Try.prog (psnei φ) (nei φ) [12] [true] [] (mask 18) 200 18 [pAv p, pAv q] [] Try.prog.globals.size) = some (pAv emptyE, [φ.same p.z zeroE]) := by kernel_rfl
theorem e18b (φ : Fe) (p q : P4 E5) : ansO (run1O Try.prog (psnei φ) (nei φ) [12, 15] [false, true] [] (mask 18) 200 18 [pAv p, pAv q] [] Try.prog.globals.size) = some (pAv emptyE, [φ.same q.z zeroE, !(φ.same p.z zeroE)]) := by kernel_rfl
theorem e18c (φ : Fe) (p q : P4 E5) : ansO (run1O Try.prog (psnei φ) (nei φ) [12, 15] [false, false] [] (mask 18) 200 18 [pAv p, pAv q] [] Try.prog.globals.size) = some (pAv (addO (opsφ φ) (curveφ φ) p q), [!(φ.same q.z zeroE), !(φ.same p.z zeroE)]) := by kernel_rfl
theorem rad (φ : Fe) (p q : P4 E5) : (run1 Try.prog (nei φ) (mask 18) 200 18 [pAv p, pAv q] [] Try.prog.globals.size).map (·.1) = some (pAv (addφ φ p q)) := by
  unfold addφ noneφ
  cases h1 : φ.same p.z zeroE
  · cases h2 : φ.same q.z zeroE
    · exact ansO_run (nei_ps φ) (e18c φ p q) (by simp [allT, h1, h2])
    · exact ansO_run (nei_ps φ) (e18b φ p q) (by simp [allT, h1, h2])
  · exact ansO_run (nei_ps φ) (e18a φ p q) (by simp [allT, h1])
def g18 : List AVal → Option EffA
  | [.agg (.u64 a0 :: .u64 a1 :: .u64 a2 :: .u64 a3 :: .u64 a4 :: .u64 a5 :: .u64 a6 :: .u64 a7 :: .u64 a8 :: .u64 a9 :: .u64 a10 :: .u64 a11 :: .u64 a12 :: .u64 a13 :: .u64 a14 :: .u64 a15 :: .u64 a16 :: .u64 a17 :: .u64 a18 :: .u64 a19 :: []), .agg (.u64 b0 :: .u64 b1 :: .u64 b2 :: .u64 b3 :: .u64 b4 :: .u64 b5 :: .u64 b6 :: .u64 b7 :: .u64 b8 :: .u64 b9 :: .u64 b10 :: .u64 b11 :: .u64 b12 :: .u64 b13 :: .u64 b14 :: .u64 b15 :: .u64 b16 :: .u64 b17 :: .u64 b18 :: .u64 b19 :: [])] => some (.pure (pAv (addφ realFe (P4.mk (E5.mk a0 a1 a2 a3 a4) (E5.mk a5 a6 a7 a8 a9) (E5.mk a10 a11 a12 a13 a14) (E5.mk a15 a16 a17 a18 a19)) (P4.mk (E5.mk b0 b1 b2 b3 b4) (E5.mk b5 b6 b7 b8 b9) (E5.mk b10 b11 b12 b13 b14) (E5.mk b15 b16 b17 b18 b19)))))
  | _ => none
theorem g18_ok : CSOk Try.prog (csOne 18 g18) := csOne_ok fun args e he => by
  unfold g18 at he
  split at he
  · rename_i a0 a1 a2 a3 a4 a5 a6 a7 a8 a9 a10 a11 a12 a13 a14 a15 a16 a17 a18 a19 b0 b1 b2 b3 b4 b5 b6 b7 b8 b9 b10 b11 b12 b13 b14 b15 b16 b17 b18 b19
    cases he
    exact callOk_val nei_ok hmix (rad realFe (P4.mk (E5.mk a0 a1 a2 a3 a4) (E5.mk a5 a6 a7 a8 a9) (E5.mk a10 a11 a12 a13 a14) (E5.mk a15 a16 a17 a18 a19)) (P4.mk (E5.mk b0 b1 b2 b3 b4) (E5.mk b5 b6 b7 b8 b9) (E5.mk b10 b11 b12 b13 b14) (E5.mk b15 b16 b17 b18 b19))) rfl rfl
  · cases he
theorem rz1 (φ : Fe) : (run1 Try.prog (nei φ) (mask 28) 200 28 [] [] Try.prog.globals.size).map (·.1) = some (pAv (zeroφ φ)) := by kernel_rfl
def g28 : List AVal → Option EffA
  | [] => some (.pure (pAv (zeroφ realFe)))
  | _ => none
theorem g28_ok : CSOk Try.prog (csOne 28 g28) := csOne_ok fun args e he => by
  unfold g28 at he
  split at he
  · skip
    cases he
    exact callOk_val nei_ok hmix (rz1 realFe) rfl rfl
  · cases he
theorem e20a (φ : Fe) (p : P4 E5) : ansO (run1O Try.prog (psnei φ) (nei φ) [4] [true] [] (mask 20) 200 20 [pAv p] [] Try.prog.globals.size) = some (pAv emptyE, [φ.same p.z zeroE]) := by kernel_rfl
theorem e20b (φ : Fe) (p : P4 E5) : ansO (run1O Try.prog (psnei φ) (nei φ) [4] [false] [] (mask 20) 200 20 [pAv p] [] Try.prog.globals.size) = some (pAv (negO φ.neg p), [!(φ.same p.z zeroE)]) := by kernel_rfl
theorem rneg (φ : Fe) (p : P4 E5) : (run1 Try.prog (nei φ) (mask 20) 200 20 [pAv p] [] Try.prog.globals.size).map (·.1) = some (pAv (negφ φ p)) := by
  unfold negφ noneφ
  cases h1 : φ.same p.z zeroE
  · exact ansO_run (nei_ps φ) (e20b φ p) (by simp [allT, h1])
  · exact ansO_run (nei_ps φ) (e20a φ p) (by simp [allT, h1])
def g20 : List AVal → Option EffA
  | [.agg (.u64 a0 :: .u64 a1 :: .u64 a2 :: .u64 a3 :: .u64 a4 :: .u64 a5 :: .u64 a6 :: .u64 a7 :: .u64 a8 :: .u64 a9 :: .u64 a10 :: .u64 a11 :: .u64 a12 :: .u64 a13 :: .u64 a14 :: .u64 a15 :: .u64 a16 :: .u64 a17 :: .u64 a18 :: .u64 a19 :: [])] => some (.pure (pAv (negφ realFe (P4.mk (E5.mk a0 a1 a2 a3 a4) (E5.mk a5 a6 a7 a8 a9) (E5.mk a10 a11 a12 a13 a14) (E5.mk a15 a16 a17 a18 a19)))))
  | _ => none
theorem g20_ok : CSOk Try.prog (csOne 20 g20) := csOne_ok fun args e he => by
  unfold g20 at he
  split at he
  · rename_i a0 a1 a2 a3 a4 a5 a6 a7 a8 a9 a10 a11 a12 a13 a14 a15 a16 a17 a18 a19
    cases he
    exact callOk_val nei_ok hmix (rneg realFe (P4.mk (E5.mk a0 a1 a2 a3 a4) (E5.mk a5 a6 a7 a8 a9) (E5.mk a10 a11 a12 a13 a14) (E5.mk a15 a16 a17 a18 a19))) rfl rfl
  · cases he
theorem e12a (φ : Fe) (p : P4 E5) : ansO (run1O Try.prog (psnei φ) (nei φ) [6] [true] [] (mask 12) 200 12 [pAv p] [] Try.prog.globals.size) = some (.str [], [φ.same p.z zeroE]) := by kernel_rfl
theorem e12b (φ : Fe) (p : P4 E5) : ansO (run1O Try.prog (psnei φ) (nei φ) [6, 20] [false, true] [] (mask 12) 200 12 [pAv p] [] Try.prog.globals.size) = some (.str (top128 (byLφ φ (φ.mul p.y (φ.inv p.z)))), [φ.odd (φ.mul p.x (φ.inv p.z)), !(φ.same p.z zeroE)]) := by kernel_rfl
theorem e12c (φ : Fe) (p : P4 E5) : ansO (run1O Try.prog (psnei φ) (nei φ) [6, 20] [false, false] [] (mask 12) 200 12 [pAv p] [] Try.prog.globals.size) = some (.str (byLφ φ (φ.mul p.y (φ.inv p.z))), [!(φ.odd (φ.mul p.x (φ.inv p.z))), !(φ.same p.z zeroE)]) := by kernel_rfl
theorem rby (φ : Fe) (p : P4 E5) : (run1 Try.prog (nei φ) (mask 12) 200 12 [pAv p] [] Try.prog.globals.size).map (·.1) = some (.str (bytesφ φ p)) := by
  unfold bytesφ noneφ
  cases h1 : φ.same p.z zeroE
  · cases h2 : φ.odd (φ.mul p.x (φ.inv p.z))
    · exact ansO_run (nei_ps φ) (e12c φ p) (by simp [allT, h1, h2])
    · exact ansO_run (nei_ps φ) (e12b φ p) (by simp [allT, h1, h2])
  · exact ansO_run (nei_ps φ) (e12a φ p) (by simp [allT, h1])
def g12 : List AVal → Option EffA
  | [.agg (.u64 a0 :: .u64 a1 :: .u64 a2 :: .u64 a3 :: .u64 a4 :: .u64 a5 :: .u64 a6 :: .u64 a7 :: .u64 a8 :: .u64 a9 :: .u64 a10 :: .u64 a11 :: .u64 a12 :: .u64 a13 :: .u64 a14 :: .u64 a15 :: .u64 a16 :: .u64 a17 :: .u64 a18 :: .u64 a19 :: [])] => some (.pure (.str (bytesφ realFe (P4.mk (E5.mk a0 a1 a2 a3 a4) (E5.mk a5 a6 a7 a8 a9) (E5.mk a10 a11 a12 a13 a14) (E5.mk a15 a16 a17 a18 a19)))))
  | _ => none
theorem g12_ok : CSOk Try.prog (csOne 12 g12) := csOne_ok fun args e he => by
  unfold g12 at he
  split at he
  · rename_i a0 a1 a2 a3 a4 a5 a6 a7 a8 a9 a10 a11 a12 a13 a14 a15 a16 a17 a18 a19
    cases he
    exact callOk_val nei_ok hmix (rby realFe (P4.mk (E5.mk a0 a1 a2 a3 a4) (E5.mk a5 a6 a7 a8 a9) (E5.mk a10 a11 a12 a13 a14) (E5.mk a15 a16 a17 a18 a19))) rfl rfl
  · cases he
theorem e13a (φ : Fe) (p q : P4 E5) : ansO (run1O Try.prog (psnei φ) (nei φ) [6] [true] [] (mask 13) 200 13 [pAv p, pAv q] [] Try.prog.globals.size) = some (.bool false, [φ.same p.z zeroE]) := by kernel_rfl
theorem e13b (φ : Fe) (p q : P4 E5) : ansO (run1O Try.prog (psnei φ) (nei φ) [6, 10] [false, true] [] (mask 13) 200 13 [pAv p, pAv q] [] Try.prog.globals.size) = some (.bool false, [φ.same q.z zeroE, !(φ.same p.z zeroE)]) := by kernel_rfl
theorem e13c (φ : Fe) (p q : P4 E5) : ansO (run1O Try.prog (psnei φ) (nei φ) [6, 10, 24] [false, false, false] [] (mask 13) 200 13 [pAv p, pAv q] [] Try.prog.globals.size) = some (.bool false, [!(φ.same (φ.mul p.x q.z) (φ.mul q.x p.z)), !(φ.same q.z zeroE), !(φ.same p.z zeroE)]) := by kernel_rfl
theorem e13d (φ : Fe) (p q : P4 E5) : ansO (run1O Try.prog (psnei φ) (nei φ) [6, 10, 24] [false, false, true] [] (mask 13) 200 13 [pAv p, pAv q] [] Try.prog.globals.size) = some (.bool (φ.same (φ.mul p.y q.z) (φ.mul q.y p.z)), [φ.same (φ.mul p.x q.z) (φ.mul q.x p.z), !(φ.same q.z zeroE), !(φ.same p.z zeroE)]) := by kernel_rfl
theorem rsa (φ : Fe) (p q : P4 E5) : (run1 Try.prog (nei φ) (mask 13) 200 13 [pAv p, pAv q] [] Try.prog.globals.size).map (·.1) = some (.bool (sameφ φ p q)) := by
  unfold sameφ noneφ
  cases h1 : φ.same p.z zeroE
  · cases h2 : φ.same q.z zeroE
    · cases h3 : φ.same (φ.mul p.x q.z) (φ.mul q.x p.z)
      · exact ansO_run (nei_ps φ) (e13c φ p q) (by simp [allT, h1, h2, h3])
      · exact ansO_run (nei_ps φ) (e13d φ p q) (by simp [allT, h1, h2, h3])
    · exact ansO_run (nei_ps φ) (e13b φ p q) (by simp [allT, h1, h2])
  · exact ansO_run (nei_ps φ) (e13a φ p q) (by simp [allT, h1])
def g13 : List AVal → Option EffA
  | [.agg (.u64 a0 :: .u64 a1 :: .u64 a2 :: .u64 a3 :: .u64 a4 :: .u64 a5 :: .u64 a6 :: .u64 a7 :: .u64 a8 :: .u64 a9 :: .u64 a10 :: .u64 a11 :: .u64 a12 :: .u64 a13 :: .u64 a14 :: .u64 a15 :: .u64 a16 :: .u64 a17 :: .u64 a18 :: .u64 a19 :: []), .agg (.u64 b0 :: .u64 b1 :: .u64 b2 :: .u64 b3 :: .u64 b4 :: .u64 b5 :: .u64 b6 :: .u64 b7 :: .u64 b8 :: .u64 b9 :: .u64 b10 :: .u64 b11 :: .u64 b12 :: .u64 b13 :: .u64 b14 :: .u64 b15 :: .u64 b16 :: .u64 b17 :: .u64 b18 :: .u64 b19 :: [])] => some (.pure (.bool (sameφ realFe (P4.mk (E5.mk a0 a1 a2 a3 a4) (E5.mk a5 a6 a7 a8 a9) (E5.mk a10 a11 a12 a13 a14) (E5.mk a15 a16 a17 a18 a19)) (P4.mk (E5.mk b0 b1 b2 b3 b4) (E5.mk b5 b6 b7 b8 b9) (E5.mk b10 b11 b12 b13 b14) (E5.mk b15 b16 b17 b18 b19)))))
  | _ => none
theorem g13_ok : CSOk Try.prog (csOne 13 g13) := csOne_ok fun args e he => by
  unfold g13 at he
  split at he
  · rename_i a0 a1 a2 a3 a4 a5 a6 a7 a8 a9 a10 a11 a12 a13 a14 a15 a16 a17 a18 a19 b0 b1 b2 b3 b4 b5 b6 b7 b8 b9 b10 b11 b12 b13 b14 b15 b16 b17 b18 b19
    cases he
    exact callOk_val nei_ok hmix (rsa realFe (P4.mk (E5.mk a0 a1 a2 a3 a4) (E5.mk a5 a6 a7 a8 a9) (E5.mk a10 a11 a12 a13 a14) (E5.mk a15 a16 a17 a18 a19)) (P4.mk (E5.mk b0 b1 b2 b3 b4) (E5.mk b5 b6 b7 b8 b9) (E5.mk b10 b11 b12 b13 b14) (E5.mk b15 b16 b17 b18 b19))) rfl rfl
  · cases he
theorem e9a (φ : Fe) (s : List UInt8) : ansO (run1O Try.prog (psnei φ) (nei φ) [14] [true] [] (mask 9) 200 9 [.str s] [] Try.prog.globals.size) = some (.tup [pAv emptyE, .int .i64 2], [((s.length : Int) != 32)]) := by kernel_rfl
theorem e9b (φ : Fe) (s0 s1 s2 s3 s4 s5 s6 s7 s8 s9 s10 s11 s12 s13 s14 s15 s16 s17 s18 s19 s20 s21 s22 s23 s24 s25 s26 s27 s28 s29 s30 s31 : UInt8) : ansO (run1O Try.prog (psnei φ) (nei φ) [29] [false] [] (mask 9) 200 9 [.str [s0, s1, s2, s3, s4, s5, s6, s7, s8, s9, s10, s11, s12, s13, s14, s15, s16, s17, s18, s19, s20, s21, s22, s23, s24, s25, s26, s27, s28, s29, s30, s31]] [] Try.prog.globals.size) = some (.tup [pAv emptyE, .int .i64 40], [!(φ.canon (topL [s0, s1, s2, s3, s4, s5, s6, s7, s8, s9, s10, s11, s12, s13, s14, s15, s16, s17, s18, s19, s20, s21, s22, s23, s24, s25, s26, s27, s28, s29, s30, s31]))]) := by kernel_rfl
theorem e9c (φ : Fe) (s0 s1 s2 s3 s4 s5 s6 s7 s8 s9 s10 s11 s12 s13 s14 s15 s16 s17 s18 s19 s20 s21 s22 s23 s24 s25 s26 s27 s28 s29 s30 s31 : UInt8) : ansO (run1O Try.prog (psnei φ) (nei φ) [29, 55] [true, false] [] (mask 9) 200 9 [.str [s0, s1, s2, s3, s4, s5, s6, s7, s8, s9, s10, s11, s12, s13, s14, s15, s16, s17, s18, s19, s20, s21, s22, s23, s24, s25, s26, s27, s28, s29, s30, s31]] [] Try.prog.globals.size) = some (.tup [pAv emptyE, .int .i64 40], [!(φ.has (uφ φ [s0, s1, s2, s3, s4, s5, s6, s7, s8, s9, s10, s11, s12, s13, s14, s15, s16, s17, s18, s19, s20, s21, s22, s23, s24, s25, s26, s27, s28, s29, s30, s31])), φ.canon (topL [s0, s1, s2, s3, s4, s5, s6, s7, s8, s9, s10, s11, s12, s13, s14, s15, s16, s17, s18, s19, s20, s21, s22, s23, s24, s25, s26, s27, s28, s29, s30, s31])]) := by kernel_rfl
theorem e9d (φ : Fe) (s0 s1 s2 s3 s4 s5 s6 s7 s8 s9 s10 s11 s12 s13 s14 s15 s16 s17 s18 s19 s20 s21 s22 s23 s24 s25 s26 s27 s28 s29 s30 s31 : UInt8) : ansO (run1O Try.prog (psnei φ) (nei φ) [22, 29, 55, 63] [true, true, true, true] [] (mask 9) 200 9 [.str [s0, s1, s2, s3, s4, s5, s6, s7, s8, s9, s10, s11, s12, s13, s14, s15, s16, s17, s18, s19, s20, s21, s22, s23, s24, s25, s26, s27, s28, s29, s30, s31]] [] Try.prog.globals.size) = some (.tup [pAv emptyE, .int .i64 40], [φ.same (φ.root (uφ φ [s0, s1, s2, s3, s4, s5, s6, s7, s8, s9, s10, s11, s12, s13, s14, s15, s16, s17, s18, s19, s20, s21, s22, s23, s24, s25, s26, s27, s28, s29, s30, s31])) zeroE, φ.has (uφ φ [s0, s1, s2, s3, s4, s5, s6, s7, s8, s9, s10, s11, s12, s13, s14, s15, s16, s17, s18, s19, s20, s21, s22, s23, s24, s25, s26, s27, s28, s29, s30, s31]), φ.canon (topL [s0, s1, s2, s3, s4, s5, s6, s7, s8, s9, s10, s11, s12, s13, s14, s15, s16, s17, s18, s19, s20, s21, s22, s23, s24, s25, s26, s27, s28, s29, s30, s31]), decOdd [s0, s1, s2, s3, s4, s5, s6, s7, s8, s9, s10, s11, s12, s13, s14, s15, s16, s17, s18, s19, s20, s21, s22, s23, s24, s25, s26, s27, s28, s29, s30, s31]]) := by kernel_rfl
theorem e9e (φ : Fe) (s0 s1 s2 s3 s4 s5 s6 s7 s8 s9 s10 s11 s12 s13 s14 s15 s16 s17 s18 s19 s20 s21 s22 s23 s24 s25 s26 s27 s28 s29 s30 s31 : UInt8) : ansO (run1O Try.prog (psnei φ) (nei φ) [22, 29, 55, 63] [true, true, true, false] [] (mask 9) 200 9 [.str [s0, s1, s2, s3, s4, s5, s6, s7, s8, s9, s10, s11, s12, s13, s14, s15, s16, s17, s18, s19, s20, s21, s22, s23, s24, s25, s26, s27, s28, s29, s30, s31]] [] Try.prog.globals.size) = some (.tup [pAv ⟨φ.neg (φ.root (uφ φ [s0, s1, s2, s3, s4, s5, s6, s7, s8, s9, s10, s11, s12, s13, s14, s15, s16, s17, s18, s19, s20, s21, s22, s23, s24, s25, s26, s27, s28, s29, s30, s31])), yφ φ [s0, s1, s2, s3, s4, s5, s6, s7, s8, s9, s10, s11, s12, s13, s14, s15, s16, s17, s18, s19, s20, s21, s22, s23, s24, s25, s26, s27, s28, s29, s30, s31], φ.small 1, φ.mul (φ.neg (φ.root (uφ φ [s0, s1, s2, s3, s4, s5, s6, s7, s8, s9, s10, s11, s12, s13, s14, s15, s16, s17, s18, s19, s20, s21, s22, s23, s24, s25, s26, s27, s28, s29, s30, s31]))) (yφ φ [s0, s1, s2, s3, s4, s5, s6, s7, s8, s9, s10, s11, s12, s13, s14, s15, s16, s17, s18, s19, s20, s21, s22, s23, s24, s25, s26, s27, s28, s29, s30, s31])⟩, .int .i64 0], [!(φ.same (φ.root (uφ φ [s0, s1, s2, s3, s4, s5, s6, s7, s8, s9, s10, s11, s12, s13, s14, s15, s16, s17, s18, s19, s20, s21, s22, s23, s24, s25, s26, s27, s28, s29, s30, s31])) zeroE), φ.has (uφ φ [s0, s1, s2, s3, s4, s5, s6, s7, s8, s9, s10, s11, s12, s13, s14, s15, s16, s17, s18, s19, s20, s21, s22, s23, s24, s25, s26, s27, s28, s29, s30, s31]), φ.canon (topL [s0, s1, s2, s3, s4, s5, s6, s7, s8, s9, s10, s11, s12, s13, s14, s15, s16, s17, s18, s19, s20, s21, s22, s23, s24, s25, s26, s27, s28, s29, s30, s31]), decOdd [s0, s1, s2, s3, s4, s5, s6, s7, s8, s9, s10, s11, s12, s13, s14, s15, s16, s17, s18, s19, s20, s21, s22, s23, s24, s25, s26, s27, s28, s29, s30, s31]]) := by kernel_rfl
theorem e9f (φ : Fe) (s0 s1 s2 s3 s4 s5 s6 s7 s8 s9 s10 s11 s12 s13 s14 s15 s16 s17 s18 s19 s20 s21 s22 s23 s24 s25 s26 s27 s28 s29 s30 s31 : UInt8) : ansO (run1O Try.prog (psnei φ) (nei φ) [22, 29, 55] [false, true, true] [] (mask 9) 200 9 [.str [s0, s1, s2, s3, s4, s5, s6, s7, s8, s9, s10, s11, s12, s13, s14, s15, s16, s17, s18, s19, s20, s21, s22, s23, s24, s25, s26, s27, s28, s29, s30, s31]] [] Try.prog.globals.size) = some (.tup [pAv ⟨φ.root (uφ φ [s0, s1, s2, s3, s4, s5, s6, s7, s8, s9, s10, s11, s12, s13, s14, s15, s16, s17, s18, s19, s20, s21, s22, s23, s24, s25, s26, s27, s28, s29, s30, s31]), yφ φ [s0, s1, s2, s3, s4, s5, s6, s7, s8, s9, s10, s11, s12, s13, s14, s15, s16, s17, s18, s19, s20, s21, s22, s23, s24, s25, s26, s27, s28, s29, s30, s31], φ.small 1, φ.mul (φ.root (uφ φ [s0, s1, s2, s3, s4, s5, s6, s7, s8, s9, s10, s11, s12, s13, s14, s15, s16, s17, s18, s19, s20, s21, s22, s23, s24, s25, s26, s27, s28, s29, s30, s31])) (yφ φ [s0, s1, s2, s3, s4, s5, s6, s7, s8, s9, s10, s11, s12, s13, s14, s15, s16, s17, s18, s19, s20, s21, s22, s23, s24, s25, s26, s27, s28, s29, s30, s31])⟩, .int .i64 0], [φ.has (uφ φ [s0, s1, s2, s3, s4, s5, s6, s7, s8, s9, s10, s11, s12, s13, s14, s15, s16, s17, s18, s19, s20, s21, s22, s23, s24, s25, s26, s27, s28, s29, s30, s31]), φ.canon (topL [s0, s1, s2, s3, s4, s5, s6, s7, s8, s9, s10, s11, s12, s13, s14, s15, s16, s17, s18, s19, s20, s21, s22, s23, s24, s25, s26, s27, s28, s29, s30, s31]), !(decOdd [s0, s1, s2, s3, s4, s5, s6, s7, s8, s9, s10, s11, s12, s13, s14, s15, s16, s17, s18, s19, s20, s21, s22, s23, s24, s25, s26, s27, s28, s29, s30, s31])]) := by kernel_rfl
theorem rde (φ : Fe) (s : List UInt8) : (run1 Try.prog (nei φ) (mask 9) 200 9 [.str s] [] Try.prog.globals.size).map (·.1) = some (.tup [pAv (decφ φ s), .int .i64 (decRφ φ s)]) := by
  unfold decφ decRφ
  cases hl : isLen s 32
  · exact ansO_run (nei_ps φ) (e9a φ s) (by simp [allT, ne32 hl])
  obtain ⟨s0, s1, s2, s3, s4, s5, s6, s7, s8, s9, s10, s11, s12, s13, s14, s15, s16, s17, s18, s19, s20, s21, s22, s23, s24, s25, s26, s27, s28, s29, s30, s31, rfl⟩ := len32 (isLen_eq.1 hl)
  simp only [cond_true]
  cases h1 : φ.canon (topL [s0, s1, s2, s3, s4, s5, s6, s7, s8, s9, s10, s11, s12, s13, s14, s15, s16, s17, s18, s19, s20, s21, s22, s23, s24, s25, s26, s27, s28, s29, s30, s31])
  · have e : okφ φ [s0, s1, s2, s3, s4, s5, s6, s7, s8, s9, s10, s11, s12, s13, s14, s15, s16, s17, s18, s19, s20, s21, s22, s23, s24, s25, s26, s27, s28, s29, s30, s31] = false := by unfold okφ; rw [h1]; rfl
    rw [e]
    exact ansO_run (nei_ps φ) (e9b φ s0 s1 s2 s3 s4 s5 s6 s7 s8 s9 s10 s11 s12 s13 s14 s15 s16 s17 s18 s19 s20 s21 s22 s23 s24 s25 s26 s27 s28 s29 s30 s31) (by rw [h1]; rfl)
  cases h2 : φ.has (uφ φ [s0, s1, s2, s3, s4, s5, s6, s7, s8, s9, s10, s11, s12, s13, s14, s15, s16, s17, s18, s19, s20, s21, s22, s23, s24, s25, s26, s27, s28, s29, s30, s31])
  · have e : okφ φ [s0, s1, s2, s3, s4, s5, s6, s7, s8, s9, s10, s11, s12, s13, s14, s15, s16, s17, s18, s19, s20, s21, s22, s23, s24, s25, s26, s27, s28, s29, s30, s31] = false := by unfold okφ; rw [h1, h2]; rfl
    rw [e]
    exact ansO_run (nei_ps φ) (e9c φ s0 s1 s2 s3 s4 s5 s6 s7 s8 s9 s10 s11 s12 s13 s14 s15 s16 s17 s18 s19 s20 s21 s22 s23 s24 s25 s26 s27 s28 s29 s30 s31) (by rw [h1, h2]; rfl)
  cases h3 : decOdd [s0, s1, s2, s3, s4, s5, s6, s7, s8, s9, s10, s11, s12, s13, s14, s15, s16, s17, s18, s19, s20, s21, s22, s23, s24, s25, s26, s27, s28, s29, s30, s31]
  · have e : okφ φ [s0, s1, s2, s3, s4, s5, s6, s7, s8, s9, s10, s11, s12, s13, s14, s15, s16, s17, s18, s19, s20, s21, s22, s23, s24, s25, s26, s27, s28, s29, s30, s31] = true := by unfold okφ; rw [h1, h2, h3]; rfl
    have e2 : decPφ φ [s0, s1, s2, s3, s4, s5, s6, s7, s8, s9, s10, s11, s12, s13, s14, s15, s16, s17, s18, s19, s20, s21, s22, s23, s24, s25, s26, s27, s28, s29, s30, s31] = ⟨φ.root (uφ φ [s0, s1, s2, s3, s4, s5, s6, s7, s8, s9, s10, s11, s12, s13, s14, s15, s16, s17, s18, s19, s20, s21, s22, s23, s24, s25, s26, s27, s28, s29, s30, s31]), yφ φ [s0, s1, s2, s3, s4, s5, s6, s7, s8, s9, s10, s11, s12, s13, s14, s15, s16, s17, s18, s19, s20, s21, s22, s23, s24, s25, s26, s27, s28, s29, s30, s31], φ.small 1, φ.mul (φ.root (uφ φ [s0, s1, s2, s3, s4, s5, s6, s7, s8, s9, s10, s11, s12, s13, s14, s15, s16, s17, s18, s19, s20, s21, s22, s23, s24, s25, s26, s27, s28, s29, s30, s31])) (yφ φ [s0, s1, s2, s3, s4, s5, s6, s7, s8, s9, s10, s11, s12, s13, s14, s15, s16, s17, s18, s19, s20, s21, s22, s23, s24, s25, s26, s27, s28, s29, s30, s31])⟩ := by unfold decPφ xφ; rw [h3]; rfl
    rw [e, cond_true, cond_true, e2]
    exact ansO_run (nei_ps φ) (e9f φ s0 s1 s2 s3 s4 s5 s6 s7 s8 s9 s10 s11 s12 s13 s14 s15 s16 s17 s18 s19 s20 s21 s22 s23 s24 s25 s26 s27 s28 s29 s30 s31) (by rw [h1, h2, h3]; rfl)
  cases h4 : φ.same (φ.root (uφ φ [s0, s1, s2, s3, s4, s5, s6, s7, s8, s9, s10, s11, s12, s13, s14, s15, s16, s17, s18, s19, s20, s21, s22, s23, s24, s25, s26, s27, s28, s29, s30, s31])) zeroE
  · have e : okφ φ [s0, s1, s2, s3, s4, s5, s6, s7, s8, s9, s10, s11, s12, s13, s14, s15, s16, s17, s18, s19, s20, s21, s22, s23, s24, s25, s26, s27, s28, s29, s30, s31] = true := by unfold okφ; rw [h1, h2, h3, h4]; rfl
    have e2 : decPφ φ [s0, s1, s2, s3, s4, s5, s6, s7, s8, s9, s10, s11, s12, s13, s14, s15, s16, s17, s18, s19, s20, s21, s22, s23, s24, s25, s26, s27, s28, s29, s30, s31] = ⟨φ.neg (φ.root (uφ φ [s0, s1, s2, s3, s4, s5, s6, s7, s8, s9, s10, s11, s12, s13, s14, s15, s16, s17, s18, s19, s20, s21, s22, s23, s24, s25, s26, s27, s28, s29, s30, s31])), yφ φ [s0, s1, s2, s3, s4, s5, s6, s7, s8, s9, s10, s11, s12, s13, s14, s15, s16, s17, s18, s19, s20, s21, s22, s23, s24, s25, s26, s27, s28, s29, s30, s31], φ.small 1, φ.mul (φ.neg (φ.root (uφ φ [s0, s1, s2, s3, s4, s5, s6, s7, s8, s9, s10, s11, s12, s13, s14, s15, s16, s17, s18, s19, s20, s21, s22, s23, s24, s25, s26, s27, s28, s29, s30, s31]))) (yφ φ [s0, s1, s2, s3, s4, s5, s6, s7, s8, s9, s10, s11, s12, s13, s14, s15, s16, s17, s18, s19, s20, s21, s22, s23, s24, s25, s26, s27, s28, s29, s30, s31])⟩ := by unfold decPφ xφ; rw [h3]; rfl
    rw [e, cond_true, cond_true, e2]
    exact ansO_run (nei_ps φ) (e9e φ s0 s1 s2 s3 s4 s5 s6 s7 s8 s9 s10 s11 s12 s13 s14 s15 s16 s17 s18 s19 s20 s21 s22 s23 s24 s25 s26 s27 s28 s29 s30 s31) (by rw [h1, h2, h3, h4]; rfl)
  · have e : okφ φ [s0, s1, s2, s3, s4, s5, s6, s7, s8, s9, s10, s11, s12, s13, s14, s15, s16, s17, s18, s19, s20, s21, s22, s23, s24, s25, s26, s27, s28, s29, s30, s31] = false := by unfold okφ; rw [h1, h2, h3, h4]; rfl
    rw [e]
    exact ansO_run (nei_ps φ) (e9d φ s0 s1 s2 s3 s4 s5 s6 s7 s8 s9 s10 s11 s12 s13 s14 s15 s16 s17 s18 s19 s20 s21 s22 s23 s24 s25 s26 s27 s28 s29 s30 s31) (by rw [h1, h2, h3, h4]; rfl)
def g9 : List AVal → Option EffA
  | [.str a] => some (.pure (.tup [pAv (decφ realFe a), .int .i64 (decRφ realFe a)]))
  | _ => none
theorem g9_ok : CSOk Try.prog (csOne 9 g9) := csOne_ok fun args e he => by
  unfold g9 at he
  split at he
  · rename_i a
    cases he
    exact callOk_val nei_ok hmix (rde realFe a) rfl rfl
  · cases he
end Go.Proofs.Ytipbocnofahafaa

/- Points: the document's sums, part 2. -/
namespace Go.Proofs.Ytipbocnofahafaa
set_option linter.unusedVariables false
set_option linter.unusedSimpArgs false
open Go Go.Eng Go.Num
set_option maxRecDepth 100000
set_option maxHeartbeats 1000000
set_option linter.unusedSimpArgs false
set_option linter.unusedVariables false
theorem d19 (φ : Fe) (p q : P4 N16) : ansO (run1O Try.prog (psng φ) (ng φ) [15, 20, 21, 26, 31, 32, 35, 40, 43, 46, 49, 52, 55, 58] [] [] (mask 19) 200 19 [qAv p, qAv q] [] Try.prog.globals.size) = some (qAv (addψ φ p q), [((φ.ok (φ.addN (φ.mulN p.x q.y) (φ.mulN p.y q.x))) && (φ.ok (φ.addN (φ.mulN p.y q.y) (φ.mulN p.x q.x)))), ((φ.ok (φ.subN (φ.mulN p.z q.z) (teesφ φ p q))) && (φ.ok (φ.addN (φ.mulN p.z q.z) (teesφ φ p q)))), ((φ.ok (φ.addN (φ.mulN p.z q.z) (teesφ φ p q))) && (φ.ok (φ.addN (φ.mulN p.y q.y) (φ.mulN p.x q.x)))), ((φ.ok (φ.addN (φ.mulN p.x q.y) (φ.mulN p.y q.x))) && (φ.ok (φ.subN (φ.mulN p.z q.z) (teesφ φ p q)))), ((φ.ok (φ.mulN p.z q.z)) && (φ.ok (teesφ φ p q))), ((φ.ok (φ.mulN p.z q.z)) && (φ.ok (teesφ φ p q))), ((φ.ok p.z) && (φ.ok q.z)), ((φ.ok p.t) && (φ.ok q.t)), ((φ.ok (φ.mulN p.y q.y)) && (φ.ok (φ.mulN p.x q.x))), ((φ.ok p.x) && (φ.ok q.x)), ((φ.ok p.y) && (φ.ok q.y)), ((φ.ok (φ.mulN p.x q.y)) && (φ.ok (φ.mulN p.y q.x))), ((φ.ok p.y) && (φ.ok q.x)), ((φ.ok p.x) && (φ.ok q.y))]) := by kernel_rfl
theorem okT {φ : Fe} (h : OkF φ) {p q : P4 N16} (p4 : φ.ok p.t = true) (q4 : φ.ok q.t = true) : φ.ok (teesφ φ p q) = true := h.mul (h.mul (okGiven h) p4) q4
theorem radN {φ : Fe} (h : OkF φ) (p q : P4 N16) (p1 : φ.ok p.x = true) (p2 : φ.ok p.y = true) (p3 : φ.ok p.z = true) (p4 : φ.ok p.t = true) (q1 : φ.ok q.x = true) (q2 : φ.ok q.y = true) (q3 : φ.ok q.z = true) (q4 : φ.ok q.t = true) : (run1 Try.prog (ng φ) (mask 19) 200 19 [qAv p, qAv q] [] Try.prog.globals.size).map (·.1) = some (qAv (addψ φ p q)) := ansO_run (ng_ps φ) (d19 φ p q) (by simp (maxDischargeDepth := 40) only [allT, h.add, h.sub, h.mul, h.neg, h.inv, h.root, h.small, h.of, h.len, h.d32, okGiven h, okT h, p1, p2, p3, p4, q1, q2, q3, q4, Bool.and_self, Bool.not_false, Bool.not_true, cond_true])
end Go.Proofs.Ytipbocnofahafaa

/- Points: multiples and the rest, over whatever sums points have. -/
namespace Go.Num
set_option linter.unusedVariables false
set_option linter.unusedSimpArgs false
open Go Go.Eng
set_option maxRecDepth 100000
structure Fi where
  add : P4 E5 → P4 E5 → P4 E5
  neg : P4 E5 → P4 E5
  same : P4 E5 → P4 E5 → Bool
  zero : P4 E5
  none : P4 E5 → Bool
  bytes : P4 E5 → List UInt8
  dec : List UInt8 → P4 E5
  decR : List UInt8 → Int
  small : P4 E5 → Bool
  mul : P4 E5 → W4 → P4 E5
  base : P4 E5
  addQ : P4 N16 → P4 N16 → P4 N16
  negQ : P4 N16 → P4 N16
  sameQ : P4 N16 → P4 N16 → Bool
  zeroQ : P4 N16
  bytesQ : P4 N16 → List UInt8
  decQ : List UInt8 → P4 N16
  decRQ : List UInt8 → Int
  smallQ : P4 N16 → Bool
  mulQ : P4 N16 → N16 → P4 N16
  baseQ : P4 N16
  onQ : P4 N16 → Bool
  given : Bool
  okQ : P4 N16 → Bool
  sof : List UInt8 → W4
  sofR : List UInt8 → Int
  sby : W4 → List UInt8
  sadd : W4 → W4 → W4
  smul : W4 → W4 → W4
  sneg : W4 → W4
  nof : List UInt8 → N16
def smallG {P : Type} (add : P → P → P) (same : P → P → Bool) (zero p : P) : Bool := same (add (add (add p p) (add p p)) (add (add p p) (add p p))) zero
def mulG {P : Type} (add : P → P → P) (zero empty : P) (none : P → Bool) (p : P) (bit : Nat → Bool) : P := cond (none p) empty (iterG add zero p bit 256)
def mulE4 (p : P4 E5) (n : W4) : P4 E5 := mulG (addφ realFe) (zeroφ realFe) emptyE (noneφ realFe) p (bitK (bytesW n))
def mulN4 (p : P4 N16) (n : N16) : P4 N16 := iterG (addψ realFe) (zeroψ realFe) p (bitN16 n) 256
def realFi : Fi := {
  add := addφ realFe
  neg := negφ realFe
  same := sameφ realFe
  zero := zeroφ realFe
  none := noneφ realFe
  bytes := bytesφ realFe
  dec := decφ realFe
  decR := decRφ realFe
  small := smallG (addφ realFe) (sameφ realFe) (zeroφ realFe)
  mul := mulE4
  base := decφ realFe baseL
  addQ := addψ realFe
  negQ := negψ realFe
  sameQ := sameψ realFe
  zeroQ := zeroψ realFe
  bytesQ := bytesψ realFe
  decQ := decψ realFe
  decRQ := decRψ realFe
  smallQ := smallG (addψ realFe) (sameψ realFe) (zeroψ realFe)
  mulQ := mulN4
  baseQ := decψ realFe baseL
  onQ := onψ realFe
  given := samP (givenφ realFe) (dφ realFe)
  okQ := okQ0 realFe
  sof := oV
  sofR := oE
  sby := bytesW
  sadd := addW
  smul := mulW
  sneg := negW
  nof := ofN }
theorem given_eq : realFi.given = samP (givenφ realFe) (dφ realFe) := by simp only [realFi]
/-- What the document's sums keep. -/
structure OkI (φ : Fi) : Prop where
  add : ∀ {a b}, φ.okQ a = true → φ.okQ b = true → φ.okQ (φ.addQ a b) = true
  zero : φ.okQ φ.zeroQ = true
theorem iterG_ok {P : Type} {add : P → P → P} {zero p : P} {bit : Nat → Bool} {ok : P → Prop} (hz : ok zero) (hp : ok p) (ha : ∀ a b, ok a → ok b → ok (add a b)) : ∀ j, ok (iterG add zero p bit j)
  | 0 => hz
  | j + 1 => by
    have := iterG_ok (bit := bit) hz hp ha j
    unfold iterG
    cases bit (255 - j)
    · exact ha _ _ this this
    · exact ha _ _ (ha _ _ this this) hp
end Go.Num
namespace Go.Num
set_option linter.unusedVariables false
set_option linter.unusedSimpArgs false
open Go Go.Eng
theorem mul_eq (p : P4 E5) (n : W4) : realFi.mul p n = mulG realFi.add realFi.zero emptyE realFi.none p (bitK (realFi.sby n)) := by simp only [realFi, mulE4]
theorem mulQ_eq (p : P4 N16) (n : N16) : realFi.mulQ p n = iterG realFi.addQ realFi.zeroQ p (bitN16 n) 256 := by simp only [realFi, mulN4]
theorem small_eq (p : P4 E5) : realFi.small p = smallG realFi.add realFi.same realFi.zero p := by simp only [realFi]
theorem smallQ_eq (p : P4 N16) : realFi.smallQ p = smallG realFi.addQ realFi.sameQ realFi.zeroQ p := by simp only [realFi]
theorem base_eq : realFi.base = realFi.dec baseL := by simp only [realFi]
theorem baseQ_eq : realFi.baseQ = realFi.decQ baseL := by simp only [realFi]
theorem sby_len (n : W4) : (realFi.sby n).length = 32 := by
  show (bytesW n).length = 32
  unfold bytesW; rw [List.length_map, List.length_range]
end Go.Num

/- Points: summaries over points' functions. -/
namespace Go.Proofs.Ytipbocnofahafaa
set_option linter.unusedVariables false
set_option linter.unusedSimpArgs false
open Go Go.Eng Go.Num
set_option maxRecDepth 100000
set_option maxHeartbeats 1000000
set_option linter.unusedSimpArgs false
set_option linter.unusedVariables false
theorem rno (φ : Fe) (p : P4 E5) : (run1 Try.prog (ne φ) (mask 57) 200 57 [pAv p] [] Try.prog.globals.size).map (·.1) = some (.bool (noneφ φ p)) := by kernel_rfl
def h18 (φ : Fi) : List AVal → Option EffA
  | [a, b] => match pOf a, pOf b with
    | some x0, some x1 => some (.pure (pAv (φ.add x0 x1)))
    | _, _ => none
  | _ => none
theorem h18_ok : CSOk Try.prog (csOne 18 (h18 realFi)) := csOne_ok fun args e he => by
  unfold h18 at he
  split at he
  · split at he
    · rename_i x0 x1 h0 h1
      cases he
      rw [pOf_eq h0, pOf_eq h1]
      exact callOk_val nei_ok hmix (rad realFe x0 x1) rfl rfl
    · cases he
  · cases he
def h20 (φ : Fi) : List AVal → Option EffA
  | [a] => match pOf a with
    | some x0 => some (.pure (pAv (φ.neg x0)))
    | _ => none
  | _ => none
theorem h20_ok : CSOk Try.prog (csOne 20 (h20 realFi)) := csOne_ok fun args e he => by
  unfold h20 at he
  split at he
  · split at he
    · rename_i x0 h0
      cases he
      rw [pOf_eq h0]
      exact callOk_val nei_ok hmix (rneg realFe x0) rfl rfl
    · cases he
  · cases he
def h13 (φ : Fi) : List AVal → Option EffA
  | [a, b] => match pOf a, pOf b with
    | some x0, some x1 => some (.pure (.bool (φ.same x0 x1)))
    | _, _ => none
  | _ => none
theorem h13_ok : CSOk Try.prog (csOne 13 (h13 realFi)) := csOne_ok fun args e he => by
  unfold h13 at he
  split at he
  · split at he
    · rename_i x0 x1 h0 h1
      cases he
      rw [pOf_eq h0, pOf_eq h1]
      exact callOk_val nei_ok hmix (rsa realFe x0 x1) rfl rfl
    · cases he
  · cases he
def h28 (φ : Fi) : List AVal → Option EffA
  | [] => some (.pure (pAv φ.zero))
  | _ => none
theorem h28_ok : CSOk Try.prog (csOne 28 (h28 realFi)) := csOne_ok fun args e he => by
  unfold h28 at he
  split at he
  · cases he
    exact callOk_val nei_ok hmix (rz1 realFe) rfl rfl
  · cases he
def h57 (φ : Fi) : List AVal → Option EffA
  | [a] => match pOf a with
    | some x0 => some (.pure (.bool (φ.none x0)))
    | _ => none
  | _ => none
theorem h57_ok : CSOk Try.prog (csOne 57 (h57 realFi)) := csOne_ok fun args e he => by
  unfold h57 at he
  split at he
  · split at he
    · rename_i x0 h0
      cases he
      rw [pOf_eq h0]
      exact callOk_val ne_ok hmix (rno realFe x0) rfl rfl
    · cases he
  · cases he
def h12 (φ : Fi) : List AVal → Option EffA
  | [a] => match pOf a with
    | some x0 => some (.pure (.str (φ.bytes x0)))
    | _ => none
  | _ => none
theorem h12_ok : CSOk Try.prog (csOne 12 (h12 realFi)) := csOne_ok fun args e he => by
  unfold h12 at he
  split at he
  · split at he
    · rename_i x0 h0
      cases he
      rw [pOf_eq h0]
      exact callOk_val nei_ok hmix (rby realFe x0) rfl rfl
    · cases he
  · cases he
def h9 (φ : Fi) : List AVal → Option EffA
  | [a] => match sOf a with
    | some x0 => some (.pure (.tup [pAv (φ.dec x0), .int .i64 (φ.decR x0)]))
    | _ => none
  | _ => none
theorem h9_ok : CSOk Try.prog (csOne 9 (h9 realFi)) := csOne_ok fun args e he => by
  unfold h9 at he
  split at he
  · split at he
    · rename_i x0 h0
      cases he
      rw [sOf_eq h0]
      exact callOk_val nei_ok hmix (rde realFe x0) rfl rfl
    · cases he
  · cases he
def h19 (φ : Fi) : List AVal → Option (EffA × Bool)
  | [a, b] => match qOf a, qOf b with
    | some x0, some x1 => some (.pure (qAv (φ.addQ x0 x1)), (φ.okQ x0 && φ.okQ x1))
    | _, _ => none
  | _ => none
theorem h19_ok : CSOk Try.prog (csP (psOne 19 (h19 realFi))) := csP_one fun args v he => by
  unfold h19 at he
  split at he
  · split at he
    · rename_i x0 x1 h0 h1
      simp only [Option.some.injEq, Prod.mk.injEq] at he
      obtain ⟨rfl, h⟩ := he
      rw [qOf_eq h0, qOf_eq h1]
      exact callOk_val ng_ok hmix (radN okF x0 x1 (okQ_iff.1 (Bool.and_eq_true_iff.1 h).1).1 (okQ_iff.1 (Bool.and_eq_true_iff.1 h).1).2.1 (okQ_iff.1 (Bool.and_eq_true_iff.1 h).1).2.2.1 (okQ_iff.1 (Bool.and_eq_true_iff.1 h).1).2.2.2 (okQ_iff.1 (Bool.and_eq_true_iff.1 h).2).1 (okQ_iff.1 (Bool.and_eq_true_iff.1 h).2).2.1 (okQ_iff.1 (Bool.and_eq_true_iff.1 h).2).2.2.1 (okQ_iff.1 (Bool.and_eq_true_iff.1 h).2).2.2.2) rfl rfl
    · cases he
  · cases he
def h21 (φ : Fi) : List AVal → Option EffA
  | [a] => match qOf a with
    | some x0 => some (.pure (qAv (φ.negQ x0)))
    | _ => none
  | _ => none
theorem h21_ok : CSOk Try.prog (csOne 21 (h21 realFi)) := csOne_ok fun args e he => by
  unfold h21 at he
  split at he
  · split at he
    · rename_i x0 h0
      cases he
      rw [qOf_eq h0]
      exact callOk_val nf_ok hmix (rneN realFe x0) rfl rfl
    · cases he
  · cases he
def h26 (φ : Fi) : List AVal → Option (EffA × Bool)
  | [a, b] => match qOf a, qOf b with
    | some x0, some x1 => some (.pure (.bool (φ.sameQ x0 x1)), (φ.okQ x0 && φ.okQ x1))
    | _, _ => none
  | _ => none
theorem h26_ok : CSOk Try.prog (csP (psOne 26 (h26 realFi))) := csP_one fun args v he => by
  unfold h26 at he
  split at he
  · split at he
    · rename_i x0 x1 h0 h1
      simp only [Option.some.injEq, Prod.mk.injEq] at he
      obtain ⟨rfl, h⟩ := he
      rw [qOf_eq h0, qOf_eq h1]
      exact callOk_val nf_ok hmix (rsaN okF x0 x1 (okQ_iff.1 (Bool.and_eq_true_iff.1 h).1).1 (okQ_iff.1 (Bool.and_eq_true_iff.1 h).1).2.1 (okQ_iff.1 (Bool.and_eq_true_iff.1 h).1).2.2.1 (okQ_iff.1 (Bool.and_eq_true_iff.1 h).1).2.2.2 (okQ_iff.1 (Bool.and_eq_true_iff.1 h).2).1 (okQ_iff.1 (Bool.and_eq_true_iff.1 h).2).2.1 (okQ_iff.1 (Bool.and_eq_true_iff.1 h).2).2.2.1 (okQ_iff.1 (Bool.and_eq_true_iff.1 h).2).2.2.2) rfl rfl
    · cases he
  · cases he
def h60 (φ : Fi) : List AVal → Option EffA
  | [] => some (.pure (qAv φ.zeroQ))
  | _ => none
theorem h60_ok : CSOk Try.prog (csOne 60 (h60 realFi)) := csOne_ok fun args e he => by
  unfold h60 at he
  split at he
  · cases he
    exact callOk_val nf_ok hmix (rz2 realFe) rfl rfl
  · cases he
def h33 (φ : Fi) : List AVal → Option (EffA × Bool)
  | [a] => match qOf a with
    | some x0 => some (.pure (.str (φ.bytesQ x0)), φ.okQ x0)
    | _ => none
  | _ => none
theorem h33_ok : CSOk Try.prog (csP (psOne 33 (h33 realFi))) := csP_one fun args v he => by
  unfold h33 at he
  split at he
  · split at he
    · rename_i x0 h0
      simp only [Option.some.injEq, Prod.mk.injEq] at he
      obtain ⟨rfl, h⟩ := he
      rw [qOf_eq h0]
      exact callOk_val nf_ok hmix (rbyN okF x0 (okQ_iff.1 h).1 (okQ_iff.1 h).2.1 (okQ_iff.1 h).2.2.1 (okQ_iff.1 h).2.2.2) rfl rfl
    · cases he
  · cases he
def h10 (φ : Fi) : List AVal → Option EffA
  | [a] => match sOf a with
    | some x0 => some (.pure (.tup [qAv (φ.decQ x0), .int .i64 (φ.decRQ x0)]))
    | _ => none
  | _ => none
theorem h10_ok : CSOk Try.prog (csOne 10 (h10 realFi)) := csOne_ok fun args e he => by
  unfold h10 at he
  split at he
  · split at he
    · rename_i x0 h0
      cases he
      rw [sOf_eq h0]
      exact callOk_val nf_ok hmix (rdeN okF x0) rfl rfl
    · cases he
  · cases he
def h17 (φ : Fi) : List AVal → Option (EffA × Bool)
  | [a] => match qOf a with
    | some x0 => some (.pure (.bool (φ.onQ x0)), φ.okQ x0)
    | _ => none
  | _ => none
theorem h17_ok : CSOk Try.prog (csP (psOne 17 (h17 realFi))) := csP_one fun args v he => by
  unfold h17 at he
  split at he
  · split at he
    · rename_i x0 h0
      simp only [Option.some.injEq, Prod.mk.injEq] at he
      obtain ⟨rfl, h⟩ := he
      rw [qOf_eq h0]
      exact callOk_val nf_ok hmix (ronN okF x0 (okQ_iff.1 h).1 (okQ_iff.1 h).2.1 (okQ_iff.1 h).2.2.1 (okQ_iff.1 h).2.2.2) rfl rfl
    · cases he
  · cases he
def h11 (φ : Fi) : List AVal → Option EffA
  | [] => some (.pure (.bool φ.given))
  | _ => none
theorem h11_ok : CSOk Try.prog (csOne 11 (h11 realFi)) := csOne_ok fun args e he => by
  unfold h11 at he
  split at he
  · cases he
    exact (by rw [given_eq]; exact callOk_val nf_ok hmix (rgv realFe) rfl rfl)
  · cases he
def h68 (φ : Fi) : List AVal → Option EffA
  | [a] => match wOf a with
    | some x0 => some (.pure (.str (φ.sby x0)))
    | _ => none
  | _ => none
theorem h68_ok : CSOk Try.prog (csOne 68 (h68 realFi)) := csOne_ok fun args e he => by
  unfold h68 at he
  split at he
  · split at he
    · rename_i x0 h0
      cases he
      rw [wOf_eq h0]
      exact callOk_val cs3_ok hmix (run68 x0) rfl rfl
    · cases he
  · cases he
def psnh (φ : Fi) : PS := (psAlt (psOne 19 (h19 φ)) (psAlt (psOne 26 (h26 φ)) (psAlt (psOne 33 (h33 φ)) (psAlt (psOne 17 (h17 φ)) noPS))))
theorem psnh_ok : CSOk Try.prog (csP (psnh realFi)) := (csP_alt h19_ok (csP_alt h26_ok (csP_alt h33_ok (csP_alt h17_ok (fun f args e h => by cases h)))))
def chnh (φ : Fi) : CS := (csAlt (csOne 18 (h18 φ)) (csAlt (csOne 20 (h20 φ)) (csAlt (csOne 13 (h13 φ)) (csAlt (csOne 28 (h28 φ)) (csAlt (csOne 57 (h57 φ)) (csAlt (csOne 12 (h12 φ)) (csAlt (csOne 9 (h9 φ)) (csAlt (csOne 21 (h21 φ)) (csAlt (csOne 60 (h60 φ)) (csAlt (csOne 10 (h10 φ)) (csAlt (csOne 11 (h11 φ)) (csAlt (csOne 68 (h68 φ)) noCS))))))))))))
theorem chnh_ok : CSOk Try.prog (chnh realFi) := (csAlt_ok h18_ok (csAlt_ok h20_ok (csAlt_ok h13_ok (csAlt_ok h28_ok (csAlt_ok h57_ok (csAlt_ok h12_ok (csAlt_ok h9_ok (csAlt_ok h21_ok (csAlt_ok h60_ok (csAlt_ok h10_ok (csAlt_ok h11_ok (csAlt_ok h68_ok (noCS_ok _)))))))))))))
def nh (φ : Fi) : CS := csAlt (csP (psnh φ)) (chnh φ)
theorem nh_ok : CSOk Try.prog (nh realFi) := csAlt_ok psnh_ok chnh_ok
theorem nh_ps (φ : Fi) : PSOk (psnh φ) (nh φ) := csP_ok
end Go.Proofs.Ytipbocnofahafaa

/- strings.Repeat: the kit's contract at this program. -/
namespace Go.Proofs.Ytipbocnofahafaa
set_option linter.unusedVariables false
set_option linter.unusedSimpArgs false
open Go.Shelf
set_option maxRecDepth 100000
def Try.lays105_ren : Go.Shelf.Ren := ⟨fun | 105 => 69 | 212 => 92 | 99 => 93 | 165 => 94 | 166 => 95 | 170 => 96 | 169 => 97 | 263 => 99 | 264 => 72 | 206 => 100 | 240 => 101 | 241 => 102 | 276 => 103 | 277 => 104 | n => n, fun | 9 => 9 | 3 => 3 | 4 => 4 | 20 => 20 | 0 => 0 | 46 => 61 | 109 => 104 | 5 => 5 | 72 => 109 | 76 => 113 | 51 => 67 | 146 => 117 | 53 => 23 | 148 => 84 | 70 => 107 | 37 => 60 | 75 => 112 | 127 => 119 | 164 => 120 | 80 => 37 | n => n, fun | n => n⟩
theorem Try.lays105 : Go.Proofs.Lays.n105 Try.prog Try.lays105_ren := {
  mixed := by kernel_rfl
  f99 := Try.func93.trans (congrArg some (by kernel_rfl))
  f105 := Try.func69.trans (congrArg some (by kernel_rfl))
  f165 := Try.func94.trans (congrArg some (by kernel_rfl))
  f166 := Try.func95.trans (congrArg some (by kernel_rfl))
  f169 := Try.func97.trans (congrArg some (by kernel_rfl))
  f170 := Try.func96.trans (congrArg some (by kernel_rfl))
  f206 := Try.func100.trans (congrArg some (by kernel_rfl))
  f212 := Try.func92.trans (congrArg some (by kernel_rfl))
  f240 := Try.func101.trans (congrArg some (by kernel_rfl))
  f241 := Try.func102.trans (congrArg some (by kernel_rfl))
  f263 := Try.func99.trans (congrArg some (by kernel_rfl))
  f264 := Try.func72.trans (congrArg some (by kernel_rfl))
  f276 := Try.func103.trans (congrArg some (by kernel_rfl))
  f277 := Try.func104.trans (congrArg some (by kernel_rfl))
  t0 := Try.underlying0
  a0 := Try.isAgg0
  z0 := Try.sizeOf0
  v0 := Try.zeroValue0
  t3 := Try.underlying3
  a3 := Try.isAgg3
  z3 := Try.sizeOf3
  v3 := Try.zeroValue3
  t4 := Try.underlying4
  a4 := Try.isAgg4
  z4 := Try.sizeOf4
  v4 := Try.zeroValue4
  t5 := Try.underlying5
  a5 := Try.isAgg5
  z5 := Try.sizeOf5
  v5 := Try.zeroValue5
  t9 := Try.underlying9
  a9 := Try.isAgg9
  z9 := Try.sizeOf9
  v9 := Try.zeroValue9
  t20 := Try.underlying20
  a20 := Try.isAgg20
  z20 := Try.sizeOf20
  v20 := Try.zeroValue20
  t37 := Try.underlying60
  a37 := Try.isAgg60
  z37 := Try.sizeOf60
  v37 := Try.zeroValue60
  t46 := Try.underlying61
  a46 := Try.isAgg61
  z46 := Try.sizeOf61
  v46 := Try.zeroValue61
  t51 := Try.underlying67
  a51 := Try.isAgg67
  z51 := Try.sizeOf67
  v51 := Try.zeroValue67
  t53 := Try.underlying23
  a53 := Try.isAgg23
  z53 := Try.sizeOf23
  v53 := Try.zeroValue23
  t70 := Try.underlying107
  a70 := Try.isAgg107
  z70 := Try.sizeOf107
  v70 := Try.zeroValue107
  t72 := Try.underlying109
  a72 := Try.isAgg109
  z72 := Try.sizeOf109
  v72 := Try.zeroValue109
  t75 := Try.underlying112
  a75 := Try.isAgg112
  z75 := Try.sizeOf112
  v75 := Try.zeroValue112
  t76 := Try.underlying113
  a76 := Try.isAgg113
  z76 := Try.sizeOf113
  v76 := Try.zeroValue113
  t109 := Try.underlying104
  a109 := Try.isAgg104
  z109 := Try.sizeOf104
  v109 := Try.zeroValue104
  t127 := Try.underlying119
  a127 := Try.isAgg119
  z127 := Try.sizeOf119
  v127 := Try.zeroValue119
  t146 := Try.underlying117
  a146 := Try.isAgg117
  z146 := Try.sizeOf117
  v146 := Try.zeroValue117
  t148 := Try.underlying84
  a148 := Try.isAgg84
  z148 := Try.sizeOf84
  v148 := Try.zeroValue84
  t164 := Try.underlying120
  a164 := Try.isAgg120
  z164 := Try.sizeOf120
  v164 := Try.zeroValue120 }
theorem Try.Builder_Extra_105 : Builder.Extra Try.prog Try.lays105_ren := {
  sizeBuilder := by kernel_rfl
  liesBuilder := by kernel_rfl
  t5 := Try.underlying5
  a5 := Try.isAgg5
  z5 := Try.sizeOf5
  v5 := Try.zeroValue5
  infoByte := by kernel_rfl
  cellsByte := by kernel_rfl
  sizeByte := by kernel_rfl
  neB5 := by decide }
open Go.RowKit Go.Lib in
theorem Try.strings_Repeat (s : ByteArray) (c : Nat) (w : World) (hc : c ≤ 9223372036854775807) (hlen : s.size * c ≤ 140737488355328) :
    Calls Try.prog 69 #[.string s, .int .i64 c] w fun e w' => e = .returned (.string ⟨(Lib.repeatL s.data.toList c).toArray⟩) ∧ Go.RowKit.Below w.heap.size w w' := Any.strings_Repeat Try.lays105 Try.Builder_Extra_105 s c w hc hlen
open Go Go.Eng
/-- A call that leaves all that was below. -/
theorem callOk_below {P : Program} {f : FuncId} {args : List AVal} {v : AVal} (h : ∀ σ args' w, LR σ args args' → Calls P f args' w fun r w' => ∃ v', r = .returned v' ∧ (∀ σ', VR σ' v v') ∧ Go.RowKit.Below w.heap.size w w') : CallOk P f args (.pure v) := by
  intro σ args' H w base v0 H0 hl hg hH happ hfree
  simp only [EffA.app, Option.some.injEq, Prod.mk.injEq] at happ
  obtain ⟨rfl, rfl⟩ := happ
  refine (h σ args' w hl).mono fun r w' ⟨v', h1, h2, h3⟩ => ?_
  refine ⟨σ, v', h1, h2 σ, ⟨fun n o hn => ?_, hH.inj⟩, ⟨Sig.le_refl σ, h3.size, h3.os, h3.output, h3.tape, fun b hb hn => ⟨h3.block b hb, hn⟩⟩, Only.refl σ base⟩
  obtain ⟨p, hp, ho⟩ := hH.obj n o hn
  exact ⟨p, hp, ho.mono (Sig.le_refl σ) (h3.block _ ho.lt)⟩
theorem repeat_ok (s : List UInt8) (c : Nat) (hc : c ≤ 1000) (hs : s.length ≤ 1000) : CallOk Try.prog 69 [.str s, .int .i64 (c : Int)] (.pure (.str (Lib.repeatL s c))) := callOk_below fun σ args' w hl => by
  obtain ⟨a, b, rfl, ha, hb⟩ : ∃ a b, args' = #[a, b] ∧ VR σ (.str s) a ∧ VR σ (.int .i64 (c : Int)) b := by
    have h1 := hl.1
    obtain ⟨l⟩ := args'
    match l, h1 with
    | [a, b], _ => exact ⟨a, b, rfl, hl.2 0 _ _ rfl rfl, hl.2 1 _ _ rfl rfl⟩
  cases ha
  cases hb
  refine (Try.strings_Repeat ⟨s.toArray⟩ c w (by omega) ?_).mono fun e w' ⟨h1, h2⟩ => ⟨_, h1, fun σ' => ?_, h2⟩
  · show s.toArray.size * c ≤ _
    rw [List.size_toArray]
    have : s.length * c ≤ 1000 * 1000 := Nat.mul_le_mul hs hc
    omega
  · exact .str _
end Go.Proofs.Ytipbocnofahafaa

/- Points: multiples, small points, the base point. -/
namespace Go.Proofs.Ytipbocnofahafaa
set_option linter.unusedVariables false
set_option linter.unusedSimpArgs false
open Go Go.Eng Go.Num
set_option maxRecDepth 100000
set_option maxHeartbeats 1000000
set_option linter.unusedSimpArgs false
set_option linter.unusedVariables false
def wCells (n : W4) : List AVal := [.u64 n.x0, .u64 n.x1, .u64 n.x2, .u64 n.x3]
def S24 (p : P4 E5) (n : W4) (s : List UInt8) (q : P4 E5) (i : Int) : SA := ⟨[(0, pAv p), (1, n.av), (2, .ptr 1 0), (3, .ptr 9 0), (4, .ptr 17 0), (9, .bool false), (5, .ptr 65 0), (6, .str s), (7, .int .i64 i)], [(1, .cells false (pCells p)), (9, .cells false (wCells n)), (17, .cells false (pCells emptyE)), (65, .cells false (pCells q))], 129⟩
noncomputable def cd24 : List Code := pieces (bodyOf Try.f24)
noncomputable def b24 : Code := loopOf (cd24.getD 5 .skip)
def S25 (p : P4 N16) (n : N16) (q : P4 N16) (i : Int) : SA := ⟨[(0, qAv p), (1, n.av), (2, .ptr 1 0), (3, .ptr 9 0), (4, .ptr 17 0), (5, .ptr 33 0), (6, .int .i64 i)], [(1, .cells false (qCells p)), (9, .cells false n.cells), (17, .cells false (qCells emptyN)), (33, .cells false (qCells q))], 57⟩
noncomputable def cd25 : List Code := pieces (bodyOf Try.f25)
noncomputable def b25 : Code := loopOf (cd25.getD 3 .skip)
theorem gl1 : Try.prog.globals.size = 1 := by kernel_rfl
theorem m24z (φ : Fi) (p : P4 E5) (n : W4) : ansO (run1O Try.prog (psnh φ) (nh φ) [9] [true] [] (mask 24) 1000 24 [pAv p, n.av] [] 1) = some (pAv emptyE, [φ.none p]) := by kernel_rfl
theorem pre24 (φ : Fi) (p : P4 E5) (n : W4) : segO (evSO Try.prog (psnh φ) (nh φ) [9, 200017] Try.f24.ntmps (mask 24) 1000 1 (cd24.take 5) ⟨startT [pAv p, n.av] 0, [], 1⟩ ⟨[false], [.int .i64 255], []⟩) = some (S24 p n (φ.sby n) φ.zero 255, [eqS (.int .i64 (IntKind.wrap .i64 (IntKind.wrap .i64 (8 * ((φ.sby n).length : Int)) - 1))) (.int .i64 255), !(φ.none p)]) := by kernel_rfl
theorem rd24t (φ : Fi) (p : P4 E5) (n : W4) (s : List UInt8) (q q0 : P4 E5) (i j : Int) : roundO2 Try.prog (psnh φ) (nh φ) [19, 28, 34] [true, true] [] Try.f24.ntmps (mask 24) 1000 1 b24 (S24 p n s q0 j) (S24 p n s q i) = some (S24 p n s (φ.add (φ.add q q) p) (IntKind.wrap .i64 (i - 1)), [(shr_u8 (List.getD s (Int.toNat (IntKind.wrap IntKind.i64 (Int.tdiv i 8))) 0) (UInt64.toNat (UInt64.ofInt (Int.tmod i 8))) &&& 1) == 1, (decide ((0 : Int) ≤ IntKind.wrap IntKind.i64 (Int.tdiv i 8)) && decide (IntKind.wrap IntKind.i64 (Int.tdiv i 8) < (s.length : Int))), decide ((0 : Int) ≤ i)]) := by kernel_rfl
theorem rd24f (φ : Fi) (p : P4 E5) (n : W4) (s : List UInt8) (q q0 : P4 E5) (i j : Int) : roundO2 Try.prog (psnh φ) (nh φ) [19, 28, 34] [true, false] [] Try.f24.ntmps (mask 24) 1000 1 b24 (S24 p n s q0 j) (S24 p n s q i) = some (S24 p n s (φ.add q q) (IntKind.wrap .i64 (i - 1)), [!((shr_u8 (List.getD s (Int.toNat (IntKind.wrap IntKind.i64 (Int.tdiv i 8))) 0) (UInt64.toNat (UInt64.ofInt (Int.tmod i 8))) &&& 1) == 1), (decide ((0 : Int) ≤ IntKind.wrap IntKind.i64 (Int.tdiv i 8)) && decide (IntKind.wrap IntKind.i64 (Int.tdiv i 8) < (s.length : Int))), decide ((0 : Int) ≤ i)]) := by kernel_rfl
theorem end24 (φ : Fi) (p : P4 E5) (n : W4) (s : List UInt8) (q : P4 E5) (i : Int) : endO Try.prog (psnh φ) (nh φ) [19] Try.f24 (mask 24) 1000 1 0 b24 (cd24.drop 6) (S24 p n s q i) ⟨[false], [], []⟩ = some (pAv q, [!decide ((0 : Int) ≤ i)]) := by kernel_rfl
theorem ok24 (p : P4 E5) (n : W4) (s : List UInt8) (q : P4 E5) (i : Int) : okS Try.prog (S24 p n s q i) = true := by
  simp [okS, gl1, S24, ltT, ltH, ltV, ltS, ltL, pAv, pCells, W4.av, wCells, nble]
theorem pre25 (φ : Fi) (p : P4 N16) (n : N16) : segO (evSO Try.prog (psnh φ) (nh φ) [] Try.f25.ntmps (mask 25) 1000 1 (cd25.take 3) ⟨startT [qAv p, n.av] 0, [], 1⟩ ⟨[], [], []⟩) = some (S25 p n φ.zeroQ 255, []) := by kernel_rfl
theorem rd25t (φ : Fi) (p : P4 N16) (n : N16) (q q0 : P4 N16) (x : UInt64) (i j : Int) : roundO2 Try.prog (psnh φ) (nh φ) [9, 14, 17, 18, 24, 27] [true, true] [.u64 x] Try.f25.ntmps (mask 25) 1000 1 b25 (S25 p n q0 j) (S25 p n q i) = some (S25 p n (φ.addQ (φ.addQ q q) p) (IntKind.wrap .i64 (i - 1)), [φ.okQ (φ.addQ q q) && φ.okQ p, (shr_u64 x (UInt64.toNat (UInt64.ofInt (Int.tmod i 16))) &&& 1) == 1, isAt n.cells (0 + Int.toNat (IntKind.wrap IntKind.i64 (Int.tdiv i 16)) * 1) (.u64 x), (decide ((0 : Int) ≤ IntKind.wrap IntKind.i64 (Int.tdiv i 16)) && decide (IntKind.wrap IntKind.i64 (Int.tdiv i 16) < (16 : Int))), φ.okQ q && φ.okQ q, decide ((0 : Int) ≤ i)]) := by kernel_rfl
theorem rd25f (φ : Fi) (p : P4 N16) (n : N16) (q q0 : P4 N16) (x : UInt64) (i j : Int) : roundO2 Try.prog (psnh φ) (nh φ) [9, 14, 17, 18, 24, 27] [true, false] [.u64 x] Try.f25.ntmps (mask 25) 1000 1 b25 (S25 p n q0 j) (S25 p n q i) = some (S25 p n (φ.addQ q q) (IntKind.wrap .i64 (i - 1)), [!((shr_u64 x (UInt64.toNat (UInt64.ofInt (Int.tmod i 16))) &&& 1) == 1), isAt n.cells (0 + Int.toNat (IntKind.wrap IntKind.i64 (Int.tdiv i 16)) * 1) (.u64 x), (decide ((0 : Int) ≤ IntKind.wrap IntKind.i64 (Int.tdiv i 16)) && decide (IntKind.wrap IntKind.i64 (Int.tdiv i 16) < (16 : Int))), φ.okQ q && φ.okQ q, decide ((0 : Int) ≤ i)]) := by kernel_rfl
theorem end25 (φ : Fi) (p : P4 N16) (n : N16) (q : P4 N16) (i : Int) : endO Try.prog (psnh φ) (nh φ) [9] Try.f25 (mask 25) 1000 1 0 b25 (cd25.drop 4) (S25 p n q i) ⟨[false], [], []⟩ = some (qAv q, [!decide ((0 : Int) ≤ i)]) := by kernel_rfl
theorem ok25 (p : P4 N16) (n : N16) (q : P4 N16) (i : Int) : okS Try.prog (S25 p n q i) = true := by
  simp [okS, gl1, S25, ltT, ltH, ltV, ltS, ltL, qAv, qCells, N16.av, N16.cells, nble]
theorem bit_div (m k : Nat) (hm : m < 1000000) (hk : 0 < k) (hk2 : k < 1000) : IntKind.wrap .i64 (Int.tdiv (m : Int) k) = ((m / k : Nat) : Int) := by
  have e1 : Int.tdiv (m : Int) k = ((m / k : Nat) : Int) := by rw [Int.tdiv_eq_ediv_of_nonneg (by omega)]; rfl
  have hle := Nat.div_le_self m k
  rw [e1]
  generalize m / k = t at hle ⊢
  exact wrapI _ (by omega) (by omega)
theorem bit_rem (m k : Nat) (hm : m < 1000000) (hk : 0 < k) (hk2 : k < 1000) : UInt64.toNat (UInt64.ofInt (Int.tmod (m : Int) k)) = m % k := by
  have e2 : Int.tmod (m : Int) k = ((m % k : Nat) : Int) := by rw [Int.tmod_eq_emod_of_nonneg (by omega)]; rfl
  have := Nat.mod_lt m hk
  rw [e2, ofInt_nat, UInt64.toNat_ofNat_of_lt']
  show _ < 18446744073709551616; omega
theorem st24 (φ : Fi) (p : P4 E5) (n : W4) (s : List UInt8) (hs : s.length = 32) (q q0 : P4 E5) (j : Int) (m : Nat) (hm : m ≤ 255) : roundA (evC Try.prog (nh φ) Try.f24.ntmps (mask 24) 1000 1 b24) (headA Try.prog 1 (S24 p n s q0 j)) (S24 p n s q m) = some (S24 p n s (cond (bitK s m) (φ.add (φ.add q q) p) (φ.add q q)) ((m : Int) - 1)) := by
  have hw : IntKind.wrap .i64 ((m : Int) - 1) = (m : Int) - 1 := wrapI _ (by omega) (by omega)
  have hd := bit_div m 8 (by omega) (by omega) (by omega)
  have hr := bit_rem m 8 (by omega) (by omega) (by omega)
  have h1 : decide ((0 : Int) ≤ ((m / 8 : Nat) : Int)) = true := by rw [decide_eq_true_iff]; omega
  have h2 : decide (((m / 8 : Nat) : Int) < (s.length : Int)) = true := by rw [decide_eq_true_iff]; omega
  have h3 : decide ((0 : Int) ≤ (m : Int)) = true := by rw [decide_eq_true_iff]; omega
  rw [← hw]
  cases hK : bitK s m
  · have hK2 : (bitB s m == 1) = false := hK
    refine roundO2_ok (nh_ps φ) (rd24f φ p n s q q0 m j) ?_ (ok24 _ _ _ _ _)
    rw [show ((8 : Int)) = ((8 : Nat) : Int) from rfl, hd, hr, h1, h2, h3]
    show allT [!(bitB s m == 1), true && true, true] = true
    rw [hK2]; rfl
  · have hK2 : (bitB s m == 1) = true := hK
    refine roundO2_ok (nh_ps φ) (rd24t φ p n s q q0 m j) ?_ (ok24 _ _ _ _ _)
    rw [show ((8 : Int)) = ((8 : Nat) : Int) from rfl, hd, hr, h1, h2, h3]
    show allT [bitB s m == 1, true && true, true] = true
    rw [hK2]; rfl
theorem rmul (φ : Fi) (hb : ∀ n, (φ.sby n).length = 32) (p : P4 E5) (n : W4) : (run1 Try.prog (nh φ) (mask 24) 1000 24 [pAv p, n.av] [] Try.prog.globals.size).map (·.1) = some (pAv (mulG φ.add φ.zero emptyE φ.none p (bitK (φ.sby n)))) := by
  rw [gl1]
  unfold mulG
  cases hn : φ.none p
  rotate_left
  · exact ansO_run (nh_ps φ) (m24z φ p n) (by rw [hn]; rfl)
  refine run_loopO (nh_ps φ) (fn := Try.f24) (c := bodyOf Try.f24) (by kernel_rfl) (by kernel_rfl) (by kernel_rfl) 5 (id := 0) (b := b24) (by kernel_rfl) (fun j => S24 p n (φ.sby n) (iterG φ.add φ.zero p (bitK (φ.sby n)) j) (255 - (j : Int))) 256 (pre24 φ p n) ?_ (fun j hj => ?_) (end24 φ p n _ _ _) rfl (by omega)
  · rw [hn, hb]; rfl
  · have e1 : (255 : Int) - (j : Int) = ((255 - j : Nat) : Int) := by omega
    have e2 : (255 : Int) - ((j + 1 : Nat) : Int) = ((255 - j : Nat) : Int) - 1 := by omega
    rw [e1, e2]
    exact st24 φ p n _ (hb n) _ _ _ (255 - j) (by omega)
theorem st25 (φ : Fi) (h : OkI φ) (p : P4 N16) (hp : φ.okQ p = true) (n : N16) (q q0 : P4 N16) (hq : φ.okQ q = true) (j : Int) (m : Nat) (hm : m ≤ 255) : roundA (evC Try.prog (nh φ) Try.f25.ntmps (mask 25) 1000 1 b25) (headA Try.prog 1 (S25 p n q0 j)) (S25 p n q m) = some (S25 p n (cond (bitN16 n m) (φ.addQ (φ.addQ q q) p) (φ.addQ q q)) ((m : Int) - 1)) := by
  have hw : IntKind.wrap .i64 ((m : Int) - 1) = (m : Int) - 1 := wrapI _ (by omega) (by omega)
  have hd := bit_div m 16 (by omega) (by omega) (by omega)
  have hr := bit_rem m 16 (by omega) (by omega) (by omega)
  have h1 : decide ((0 : Int) ≤ ((m / 16 : Nat) : Int)) = true := by rw [decide_eq_true_iff]; omega
  have h2 : decide (((m / 16 : Nat) : Int) < (16 : Nat)) = true := by rw [decide_eq_true_iff]; omega
  have h3 : decide ((0 : Int) ≤ (m : Int)) = true := by rw [decide_eq_true_iff]; omega
  have ha : isAt n.cells (0 + Int.toNat ((m / 16 : Nat) : Int) * 1) (.u64 (partN n (m / 16))) = true := isAt_of (by
    have e : 0 + Int.toNat ((m / 16 : Nat) : Int) * 1 = m / 16 := by omega
    rw [e]
    have hc : n.cells = n.list.map .u64 := rfl
    have hl : m / 16 < n.list.length := by show m / 16 < 16; omega
    rw [hc, List.getElem?_map, List.getElem?_eq_getElem hl]
    unfold partN
    rw [List.getD_eq_getElem?_getD, List.getElem?_eq_getElem hl]; rfl) (by simp [eqS])
  have hdd := h.add hq hq
  rw [← hw]
  cases hK : bitN16 n m
  · refine roundO2_ok (nh_ps φ) (rd25f φ p n q q0 (partN n (m / 16)) m j) ?_ (ok25 _ _ _ _)
    rw [show ((16 : Int)) = ((16 : Nat) : Int) from rfl, hd, hr, h1, h2, h3, ha, hq]
    show allT [!(bitN16 n m), true, true && true, true && true, true] = true
    rw [hK]; rfl
  · refine roundO2_ok (nh_ps φ) (rd25t φ p n q q0 (partN n (m / 16)) m j) ?_ (ok25 _ _ _ _)
    rw [show ((16 : Int)) = ((16 : Nat) : Int) from rfl, hd, hr, h1, h2, h3, ha, hq, hdd, hp]
    show allT [true && true, bitN16 n m, true, true && true, true && true, true] = true
    rw [hK]; rfl
theorem rmulQ (φ : Fi) (h : OkI φ) (p : P4 N16) (hp : φ.okQ p = true) (n : N16) : (run1 Try.prog (nh φ) (mask 25) 1000 25 [qAv p, n.av] [] Try.prog.globals.size).map (·.1) = some (qAv (iterG φ.addQ φ.zeroQ p (bitN16 n) 256)) := by
  rw [gl1]
  refine run_loopO (nh_ps φ) (fn := Try.f25) (c := bodyOf Try.f25) (by kernel_rfl) (by kernel_rfl) (by kernel_rfl) 3 (id := 0) (b := b25) (by kernel_rfl) (fun j => S25 p n (iterG φ.addQ φ.zeroQ p (bitN16 n) j) (255 - (j : Int))) 256 (pre25 φ p n) rfl (fun j hj => ?_) (end25 φ p n _ _) rfl (by omega)
  have e1 : (255 : Int) - (j : Int) = ((255 - j : Nat) : Int) := by omega
  have e2 : (255 : Int) - ((j + 1 : Nat) : Int) = ((255 - j : Nat) : Int) - 1 := by omega
  rw [e1, e2]
  exact st25 φ h p hp n _ _ (iterG_ok (ok := fun x => φ.okQ x = true) h.zero hp (fun a b ha hb => h.add ha hb) j) _ (255 - j) (by omega)
theorem rsm (φ : Fi) (p : P4 E5) : (run1 Try.prog (nh φ) (mask 15) 200 15 [pAv p] [] Try.prog.globals.size).map (·.1) = some (.bool (smallG φ.add φ.same φ.zero p)) := by kernel_rfl
theorem d16 (φ : Fi) (p : P4 N16) : ansO (run1O Try.prog (psnh φ) (nh φ) [6, 9, 12, 14] [] [] (mask 16) 200 16 [qAv p] [] Try.prog.globals.size) = some (.bool (smallG φ.addQ φ.sameQ φ.zeroQ p), [((φ.okQ (φ.addQ (φ.addQ (φ.addQ p p) (φ.addQ p p)) (φ.addQ (φ.addQ p p) (φ.addQ p p)))) && (φ.okQ φ.zeroQ)), ((φ.okQ (φ.addQ (φ.addQ p p) (φ.addQ p p))) && (φ.okQ (φ.addQ (φ.addQ p p) (φ.addQ p p)))), ((φ.okQ (φ.addQ p p)) && (φ.okQ (φ.addQ p p))), ((φ.okQ p) && (φ.okQ p))]) := by kernel_rfl
theorem rsq (φ : Fi) (h : OkI φ) (p : P4 N16) (hp : φ.okQ p = true) : (run1 Try.prog (nh φ) (mask 16) 200 16 [qAv p] [] Try.prog.globals.size).map (·.1) = some (.bool (smallG φ.addQ φ.sameQ φ.zeroQ p)) := ansO_run (nh_ps φ) (d16 φ p) (by
  have h2 := h.add hp hp
  have h4 := h.add h2 h2
  have h8 := h.add h4 h4
  simp only [allT, hp, h2, h4, h8, h.zero, Bool.and_self, cond_true])
def h69 (args : List AVal) : Option EffA := match args with
  | [.str s, .int .i64 (.ofNat c)] => cond (Nat.ble c 1000 && Nat.ble s.length 1000) (some (.pure (.str (Go.Lib.repeatL s c)))) none
  | _ => none
theorem h69_ok : CSOk Try.prog (csOne 69 h69) := csOne_ok fun args e he => by
  unfold h69 at he
  split at he
  · rename_i s c
    cases hb : (Nat.ble c 1000 && Nat.ble s.length 1000) <;> rw [hb] at he
    · cases he
    · cases he
      simp only [Bool.and_eq_true] at hb
      exact repeat_ok s c (Nat.le_of_ble_eq_true hb.1) (Nat.le_of_ble_eq_true hb.2)
  · cases he
def nhr (φ : Fi) : CS := csAlt (csOne 69 h69) (nh φ)
theorem nhr_ok : CSOk Try.prog (nhr realFi) := csAlt_ok h69_ok nh_ok
theorem rba (φ : Fi) : (run1 Try.prog (nhr φ) (mask 27) 200 27 [] [] Try.prog.globals.size).map (·.1) = some (pAv (φ.dec baseL)) := by kernel_rfl
theorem rbq (φ : Fi) : (run1 Try.prog (nh φ) (mask 32) 200 32 [] [] Try.prog.globals.size).map (·.1) = some (qAv (φ.decQ baseL)) := by kernel_rfl
end Go.Proofs.Ytipbocnofahafaa

/- Points: summaries for the laws. -/
namespace Go.Proofs.Ytipbocnofahafaa
set_option linter.unusedVariables false
set_option linter.unusedSimpArgs false
open Go Go.Eng Go.Num
set_option maxRecDepth 100000
set_option maxHeartbeats 1000000
set_option linter.unusedSimpArgs false
set_option linter.unusedVariables false
theorem okQ_add {φ : Fe} (f : OkF φ) {a b : P4 N16} (h : okQ φ a = true) (k : okQ φ b = true) : okQ φ (addψ φ a b) = true := by
  have h1 := okQ_iff.1 h
  have k1 := okQ_iff.1 k
  have ht := okT f h1.2.2.2 k1.2.2.2
  have hz := f.mul h1.2.2.1 k1.2.2.1
  have hf := f.sub hz ht
  have hg := f.add hz ht
  have ha := f.add (f.mul h1.1 k1.2.1) (f.mul h1.2.1 k1.1)
  have hb := f.add (f.mul h1.2.1 k1.2.1) (f.mul h1.1 k1.1)
  exact okQ_iff.2 ⟨f.mul ha hf, f.mul hg hb, f.mul hf hg, f.mul ha hb⟩
theorem okQ_zero {φ : Fe} (f : OkF φ) (z : φ.ok zeroN = true) : okQ φ (zeroψ φ) = true := okQ_iff.2 ⟨z, f.small 1, f.small 1, z⟩
theorem okI : OkI realFi := ⟨okQ_add okF, okQ_zero okF okB_zero⟩
def i24 (φ : Fi) : List AVal → Option EffA
  | [a, b] => match pOf a, wOf b with
    | some x0, some x1 => some (.pure (pAv (φ.mul x0 x1)))
    | _, _ => none
  | _ => none
theorem i24_ok : CSOk Try.prog (csOne 24 (i24 realFi)) := csOne_ok fun args e he => by
  unfold i24 at he
  split at he
  · split at he
    · rename_i x0 x1 h0 h1
      cases he
      rw [pOf_eq h0, wOf_eq h1]
      exact (by rw [mul_eq]; exact callOk_val nh_ok hmix (rmul realFi sby_len x0 x1) rfl rfl)
    · cases he
  · cases he
def i25 (φ : Fi) : List AVal → Option (EffA × Bool)
  | [a, b] => match qOf a, nOf b with
    | some x0, some x1 => some (.pure (qAv (φ.mulQ x0 x1)), φ.okQ x0)
    | _, _ => none
  | _ => none
theorem i25_ok : CSOk Try.prog (csP (psOne 25 (i25 realFi))) := csP_one fun args v he => by
  unfold i25 at he
  split at he
  · split at he
    · rename_i x0 x1 h0 h1
      simp only [Option.some.injEq, Prod.mk.injEq] at he
      obtain ⟨rfl, h⟩ := he
      rw [qOf_eq h0, nOf_eq h1]
      exact (by rw [mulQ_eq]; exact callOk_val nh_ok hmix (rmulQ realFi okI x0 h x1) rfl rfl)
    · cases he
  · cases he
def i15 (φ : Fi) : List AVal → Option EffA
  | [a] => match pOf a with
    | some x0 => some (.pure (.bool (φ.small x0)))
    | _ => none
  | _ => none
theorem i15_ok : CSOk Try.prog (csOne 15 (i15 realFi)) := csOne_ok fun args e he => by
  unfold i15 at he
  split at he
  · split at he
    · rename_i x0 h0
      cases he
      rw [pOf_eq h0]
      exact (by rw [small_eq]; exact callOk_val nh_ok hmix (rsm realFi x0) rfl rfl)
    · cases he
  · cases he
def i16 (φ : Fi) : List AVal → Option (EffA × Bool)
  | [a] => match qOf a with
    | some x0 => some (.pure (.bool (φ.smallQ x0)), φ.okQ x0)
    | _ => none
  | _ => none
theorem i16_ok : CSOk Try.prog (csP (psOne 16 (i16 realFi))) := csP_one fun args v he => by
  unfold i16 at he
  split at he
  · split at he
    · rename_i x0 h0
      simp only [Option.some.injEq, Prod.mk.injEq] at he
      obtain ⟨rfl, h⟩ := he
      rw [qOf_eq h0]
      exact (by rw [smallQ_eq]; exact callOk_val nh_ok hmix (rsq realFi okI x0 h) rfl rfl)
    · cases he
  · cases he
def i27 (φ : Fi) : List AVal → Option EffA
  | [] => some (.pure (pAv φ.base))
  | _ => none
theorem i27_ok : CSOk Try.prog (csOne 27 (i27 realFi)) := csOne_ok fun args e he => by
  unfold i27 at he
  split at he
  · cases he
    exact (by rw [base_eq]; exact callOk_val nhr_ok hmix (rba realFi) rfl rfl)
  · cases he
def i32 (φ : Fi) : List AVal → Option EffA
  | [] => some (.pure (qAv φ.baseQ))
  | _ => none
theorem i32_ok : CSOk Try.prog (csOne 32 (i32 realFi)) := csOne_ok fun args e he => by
  unfold i32 at he
  split at he
  · cases he
    exact (by rw [baseQ_eq]; exact callOk_val nh_ok hmix (rbq realFi) rfl rfl)
  · cases he
def i22 (φ : Fi) : List AVal → Option EffA
  | [a] => match sOf a with
    | some x0 => some (.pure (.tup [W4.av (φ.sof x0), .int .i64 (φ.sofR x0)]))
    | _ => none
  | _ => none
theorem i22_ok : CSOk Try.prog (csOne 22 (i22 realFi)) := csOne_ok fun args e he => by
  unfold i22 at he
  split at he
  · split at he
    · rename_i x0 h0
      cases he
      rw [sOf_eq h0]
      exact callOk_val cs3i_ok hmix (run22 x0) rfl rfl
    · cases he
  · cases he
def i29 (φ : Fi) : List AVal → Option EffA
  | [a, b] => match wOf a, wOf b with
    | some x0, some x1 => some (.pure (W4.av (φ.sadd x0 x1)))
    | _, _ => none
  | _ => none
theorem i29_ok : CSOk Try.prog (csOne 29 (i29 realFi)) := csOne_ok fun args e he => by
  unfold i29 at he
  split at he
  · split at he
    · rename_i x0 x1 h0 h1
      cases he
      rw [wOf_eq h0, wOf_eq h1]
      exact callOk_val cs2_ok hmix (run29 x0 x1) rfl rfl
    · cases he
  · cases he
def i30 (φ : Fi) : List AVal → Option EffA
  | [a, b] => match wOf a, wOf b with
    | some x0, some x1 => some (.pure (W4.av (φ.smul x0 x1)))
    | _, _ => none
  | _ => none
theorem i30_ok : CSOk Try.prog (csOne 30 (i30 realFi)) := csOne_ok fun args e he => by
  unfold i30 at he
  split at he
  · split at he
    · rename_i x0 x1 h0 h1
      cases he
      rw [wOf_eq h0, wOf_eq h1]
      exact callOk_val cs5i_ok hmix (run30 x0 x1) rfl rfl
    · cases he
  · cases he
def i31 (φ : Fi) : List AVal → Option EffA
  | [a] => match wOf a with
    | some x0 => some (.pure (W4.av (φ.sneg x0)))
    | _ => none
  | _ => none
theorem i31_ok : CSOk Try.prog (csOne 31 (i31 realFi)) := csOne_ok fun args e he => by
  unfold i31 at he
  split at he
  · split at he
    · rename_i x0 h0
      cases he
      rw [wOf_eq h0]
      exact callOk_val cs5_ok hmix (run31 x0) rfl rfl
    · cases he
  · cases he
def i23 (φ : Fi) : List AVal → Option (EffA × Bool)
  | [a] => match sOf a with
    | some x0 => some (.pure (N16.av (φ.nof x0)), Nat.ble x0.length 100000)
    | _ => none
  | _ => none
theorem i23_ok : CSOk Try.prog (csP (psOne 23 (i23 realFi))) := csP_one fun args v he => by
  unfold i23 at he
  split at he
  · split at he
    · rename_i x0 h0
      simp only [Option.some.injEq, Prod.mk.injEq] at he
      obtain ⟨rfl, h⟩ := he
      rw [sOf_eq h0]
      exact callOk_val cr1_ok hmix (run23 x0 (Nat.le_of_ble_eq_true h)) rfl rfl
    · cases he
  · cases he
def psnj (φ : Fi) : PS := (psAlt (psOne 25 (i25 φ)) (psAlt (psOne 16 (i16 φ)) (psAlt (psOne 23 (i23 φ)) (psnh φ))))
theorem psnj_ok : CSOk Try.prog (csP (psnj realFi)) := (csP_alt i25_ok (csP_alt i16_ok (csP_alt i23_ok psnh_ok)))
def chnj (φ : Fi) : CS := (csAlt (csOne 24 (i24 φ)) (csAlt (csOne 15 (i15 φ)) (csAlt (csOne 27 (i27 φ)) (csAlt (csOne 32 (i32 φ)) (csAlt (csOne 22 (i22 φ)) (csAlt (csOne 29 (i29 φ)) (csAlt (csOne 30 (i30 φ)) (csAlt (csOne 31 (i31 φ)) (chnh φ)))))))))
theorem chnj_ok : CSOk Try.prog (chnj realFi) := (csAlt_ok i24_ok (csAlt_ok i15_ok (csAlt_ok i27_ok (csAlt_ok i32_ok (csAlt_ok i22_ok (csAlt_ok i29_ok (csAlt_ok i30_ok (csAlt_ok i31_ok chnh_ok))))))))
def nj (φ : Fi) : CS := csAlt (csP (psnj φ)) (chnj φ)
theorem nj_ok : CSOk Try.prog (nj realFi) := csAlt_ok psnj_ok chnj_ok
theorem nj_ps (φ : Fi) : PSOk (psnj φ) (nj φ) := csP_ok
end Go.Proofs.Ytipbocnofahafaa

/- Points: the comparison of both answers. -/
namespace Go.Proofs.Ytipbocnofahafaa
set_option linter.unusedVariables false
set_option linter.unusedSimpArgs false
open Go Go.Eng Go.Num
set_option maxRecDepth 100000
set_option maxHeartbeats 1000000
set_option linter.unusedSimpArgs false
set_option linter.unusedVariables false
theorem wis (φ : Fi) (p : P4 E5) (q : P4 N16) : ansO (run1O Try.prog (psnj φ) (nj φ) [8] [] [] (mask 14) 200 14 [pAv p, qAv q] [] Try.prog.globals.size) = some (.bool (φ.bytes p == φ.bytesQ q), [(φ.okQ q)]) := by kernel_rfl
theorem ris (φ : Fi) (p : P4 E5) (q : P4 N16) (h : φ.okQ q = true) : (run1 Try.prog (nj φ) (mask 14) 200 14 [pAv p, qAv q] [] Try.prog.globals.size).map (·.1) = some (.bool (φ.bytes p == φ.bytesQ q)) := ansO_run (nj_ps φ) (wis φ p q) (by simp only [allT, h, cond_true])
def j14 (φ : Fi) : List AVal → Option (EffA × Bool)
  | [a, b] => match pOf a, qOf b with
    | some x0, some x1 => some (.pure (.bool (φ.bytes x0 == φ.bytesQ x1)), φ.okQ x1)
    | _, _ => none
  | _ => none
theorem j14_ok : CSOk Try.prog (csP (psOne 14 (j14 realFi))) := csP_one fun args v he => by
  unfold j14 at he
  split at he
  · split at he
    · rename_i x0 x1 h0 h1
      simp only [Option.some.injEq, Prod.mk.injEq] at he
      obtain ⟨rfl, h⟩ := he
      rw [pOf_eq h0, qOf_eq h1]
      exact callOk_val nj_ok hmix (ris realFi x0 x1 h) rfl rfl
    · cases he
  · cases he
def psnk (φ : Fi) : PS := (psAlt (psOne 14 (j14 φ)) (psnj φ))
theorem psnk_ok : CSOk Try.prog (csP (psnk realFi)) := (csP_alt j14_ok psnj_ok)
def chnk (φ : Fi) : CS := (chnj φ)
theorem chnk_ok : CSOk Try.prog (chnk realFi) := chnj_ok
def nk (φ : Fi) : CS := csAlt (csP (psnk φ)) (chnk φ)
theorem nk_ok : CSOk Try.prog (nk realFi) := csAlt_ok psnk_ok chnk_ok
theorem nk_ps (φ : Fi) : PSOk (psnk φ) (nk φ) := csP_ok
end Go.Proofs.Ytipbocnofahafaa
