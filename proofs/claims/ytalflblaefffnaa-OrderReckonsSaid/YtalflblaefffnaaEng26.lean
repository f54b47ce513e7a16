/- Engine, part 26: functions with a loop. -/
import Derived.Test.YtalflblaefffnaaEng25
namespace Go.Eng
set_option linter.unusedVariables false
set_option linter.unusedSimpArgs false
open Go
open Go
/-- A function with a loop among its pieces: what stands before it, its rounds, its end, what stands behind it. -/
theorem run_loop {P : Program} {cs : CS} {nn F : Nat} {f : FuncId} {fn : Func} {c : Code} {args : List AVal} {H : HL} {fr : Nat} (hf : P.funcs[f]? = some fn) (hb : fn.body = some c) (hn : Nat.ble args.length fn.ntmps = true)
    (k : Nat) {id : Nat} {b : Code} (hk : (pieces c)[k]? = some (.block id (.loop b))) (I : Nat → SA) (N : Nat)
    (hpre : evS P cs fn.ntmps nn F fr ((pieces c).take k) ⟨startT args 0, H, fr⟩ = some (.normal, I 0))
    (hstep : ∀ j, j < N → roundA (evC P cs fn.ntmps nn F fr b) (headA P fr (I 0)) (I j) = some (I (j + 1)))
    {s1 : SA} (hend : evC P cs fn.ntmps nn F fr b (I N) = some (.exit id, s1)) (hF : N < F)
    {v : AVal} (hpost : finV P fn (evS P cs fn.ntmps nn F fr ((pieces c).drop (k + 1)) s1) = some v) : (run1 P cs nn F f args H fr).map (·.1) = some v := by
  rw [run1_val hf hb hn, ← hpost]
  congr 1
  have e : pieces c = (pieces c).take k ++ (pieces c).drop k := (List.take_append_drop k (pieces c)).symm
  rw [e, evS_append hpre, evS_loop hk I N hstep hend hF, ← e]
theorem opt_eq {α : Type} {x : Option α} {y z : α} (h : x = some y) (e : y = z) : x = some z := by rw [h, e]
/-! ### whole numbers that do not wrap -/
theorem wrapI (x : Int) (h1 : -9223372036854775808 ≤ x) (h2 : x < 9223372036854775808) : IntKind.wrap .i64 x = x := by
  simp only [IntKind.wrap, IntKind.bits, IntKind.signed]
  simp
  omega
theorem ofInt_nat (n : Nat) : UInt64.ofInt (n : Int) = UInt64.ofNat n := by
  simp [UInt64.ofInt]
  apply UInt64.toNat_inj.1
  simp
  omega
end Go.Eng
namespace Go.Eng
set_option linter.unusedVariables false
set_option linter.unusedSimpArgs false
open Go
theorem csP_one {P : Program} {f : FuncId} {g : List AVal → Option (AVal × Bool)} (h : ∀ args v, g args = some (v, true) → CallOk P f args (.pure v)) : CSOk P (csP (psOne f g)) := by
  intro f' args e he
  unfold csP psOne at he
  cases hb : Nat.beq f' f with
  | false => rw [hb] at he; cases he
  | true =>
    rw [hb] at he
    simp only at he
    cases hg : g args with
    | none => rw [hg] at he; cases he
    | some p =>
      obtain ⟨v, c⟩ := p
      rw [hg] at he
      cases c with
      | false => cases he
      | true =>
        cases he
        rw [Nat.eq_of_beq_eq_true hb]
        exact h args v hg
end Go.Eng
