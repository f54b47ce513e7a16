/- The law on blocks. -/
import Derived.Test.YthnejkbldfcpiaaCha3
namespace Go.Proofs.Ythnejkbldfcpiaa
open Go Go.Eng Go.Cha
set_option maxRecDepth 100000
set_option maxHeartbeats 1000000
set_option linter.unusedSimpArgs false
/-- No bit of a byte is set. -/
def zeros : List UInt8 → Bool
  | [] => true
  | b :: l => cond (Nat.beq b.toNat 0) (zeros l) false
theorem zeros_eq : ∀ {l : List UInt8}, zeros l = true → l = List.replicate l.length 0
  | [], _ => rfl
  | b :: l, h => by
    simp only [zeros] at h
    cases hb : Nat.beq b.toNat 0 <;> rw [hb] at h <;> simp only [cond_true, cond_false] at h
    · cases h
    · have : b = 0 := UInt8.toNat_inj.1 (Nat.eq_of_beq_eq_true hb)
      rw [this, zeros_eq h]
      simp [List.replicate_succ]
def lit0 : List UInt8 := [118, 184, 224, 173, 160, 241, 61, 144, 64, 93, 106, 229, 83, 134, 189, 40, 189, 210, 25, 184, 160, 141, 237, 26, 168, 54, 239, 204, 139, 119, 13, 199, 218, 65, 89, 124, 81, 87, 72, 141, 119, 36, 224, 63, 184, 216, 74, 55, 106, 67, 184, 244, 21, 24, 161, 28, 195, 135, 182, 105, 178, 238, 101, 134]
def ga : List AVal → Option EffA
  | [.str k, .str n, .u32 c] => cond (may k n) (cond (zeros k && zeros n && Nat.beq c.toNat 0) (some (.pure (.tup [.str lit0, .int .i64 0]))) none) (some (.pure (.tup [.str [], .int .i64 2])))
  | _ => none
theorem ga_ok : CSOk Try.prog (csOne 7 ga) := csOne_ok fun args e he => by
  unfold ga at he
  split at he
  · rename_i k n c
    have hg := g7_ok 7 [.str k, .str n, .u32 c] _ rfl
    unfold res7 at hg
    cases hm : may k n <;> rw [hm] at he hg <;> simp only [cond_true, cond_false] at he hg
    · cases he; exact hg
    · cases hz : (zeros k && zeros n && Nat.beq c.toNat 0) <;> rw [hz] at he <;> simp only [cond_true, cond_false] at he
      · cases he
      · cases he
        simp only [Bool.and_eq_true] at hz
        obtain ⟨h1, h2⟩ := may_true.1 hm
        have hk := zeros_eq hz.1.1
        have hn := zeros_eq hz.1.2
        have hc : c = 0 := UInt32.toNat_inj.1 (Nat.eq_of_beq_eq_true hz.2)
        rw [h1] at hk
        rw [h2] at hn
        have : block k n c = lit0 := by
          rw [hk, hn, hc]
          exact zero_block
        rw [this] at hg
        exact hg
  · cases he
noncomputable def cs3 : CS := inl Try.prog mask 100 (csAlt (csOne 7 ga) (csOne 12 g12)) 3
theorem cs3_ok : CSOk Try.prog cs3 := inl_ok hmix (csAlt_ok ga_ok g12_ok) 3
theorem run6 : (run1 Try.prog cs3 (mask 6) 100 6 [] [] Try.prog.globals.size).map (·.1) = some (.bool true) := by kernel_rfl
def g6 : List AVal → Option EffA
  | [] => some (.pure (.bool true))
  | _ => none
theorem g6_ok : CSOk Try.prog (csOne 6 g6) := csOne_ok fun args e he => by
  unfold g6 at he
  split at he
  · cases he
    exact callOk_val cs3_ok hmix run6 rfl rfl
  · cases he
def cs4 : CS := csAlt (csOne 6 g6) (csAlt (csOne 7 g7) (csAlt (csOne 8 g8) (csAlt (csOne 9 g9) (csOne 12 g12))))
theorem cs4_ok : CSOk Try.prog cs4 := csAlt_ok g6_ok (csAlt_ok g7_ok (csAlt_ok g8_ok (csAlt_ok g9_ok g12_ok)))
theorem run3 (k n : List UInt8) (c : UInt32) : (run1 Try.prog cs4 (mask 3) 100 3 [.str k, .str n, .u32 c] [] Try.prog.globals.size).map (·.1) = some (.bool true) := by
  rw [run1_val (fn := Try.f3) (c := bodyOf Try.f3) (by kernel_rfl) (by kernel_rfl) (by kernel_rfl)]
  cases hm : may k n with
  | true =>
    obtain ⟨h1, h2⟩ := may_true.1 hm
    simp [nble, nbeq, Nat.testBit_eq_decide_div_mod_eq, bodyOf, pieces, evS, evC, regA, runA, stepA, wantA, effA, opd, aget, aset, putT, startT, cval, cscal, ofV, EffA.app, prune, mask, evL, builtinA, lenA, cint, binA, bin_i, finV, resA, Try.f3, hm, h1, h2, res7, cs4, csAlt, csOne, g6, g7, g8, g9, unA, bd6, bd7, bd8, bd9, extractA, bin_s]
  | false =>
    by_cases h1 : (4096 : Int) < (k.length : Int)
    · simp [nble, nbeq, Nat.testBit_eq_decide_div_mod_eq, bodyOf, pieces, evS, evC, regA, runA, stepA, wantA, effA, opd, aget, aset, putT, startT, cval, cscal, ofV, EffA.app, prune, mask, evL, builtinA, lenA, cint, binA, bin_i, finV, resA, Try.f3, hm, h1, res7, cs4, csAlt, csOne, g6, g7, g8, g9, unA, bd6, bd7, bd8, bd9, extractA, bin_s]
    · by_cases h2 : (4096 : Int) < (n.length : Int)
      · simp [nble, nbeq, Nat.testBit_eq_decide_div_mod_eq, bodyOf, pieces, evS, evC, regA, runA, stepA, wantA, effA, opd, aget, aset, putT, startT, cval, cscal, ofV, EffA.app, prune, mask, evL, builtinA, lenA, cint, binA, bin_i, finV, resA, Try.f3, hm, h1, h2, res7, cs4, csAlt, csOne, g6, g7, g8, g9, unA, bd6, bd7, bd8, bd9, extractA, bin_s]
      · simp [nble, nbeq, Nat.testBit_eq_decide_div_mod_eq, bodyOf, pieces, evS, evC, regA, runA, stepA, wantA, effA, opd, aget, aset, putT, startT, cval, cscal, ofV, EffA.app, prune, mask, evL, builtinA, lenA, cint, binA, bin_i, finV, resA, Try.f3, hm, h1, h2, res7, cs4, csAlt, csOne, g6, g7, g8, g9, unA, bd6, bd7, bd8, bd9, extractA, bin_s]
theorem law3 (k n : List UInt8) (c : UInt32) : CallOk Try.prog 3 [.str k, .str n, .u32 c] (.pure (.bool true)) := callOk_val cs4_ok hmix (run3 k n c) rfl rfl
end Go.Proofs.Ythnejkbldfcpiaa
