/- Engine, part 26: functions with a loop. -/
import Derived.Test.YtkgbpnihbamceaaEng25
namespace Go.Eng
set_option linter.unusedVariables false
set_option linter.unusedSimpArgs false
open Go
open Go
/-- A function with a loop among its pieces: what stands before it, its rounds, its end, what stands behind it. -/
theorem run_loop {P : Program} {cs : CS} {nn F : Nat} {f : FuncId} {fn : Func} {c : Code} {args : List AVal} {H : HL} {fr : Nat} (hf : P.funcs[f]? = some fn) (hb : fn.body = some c) (hn : Nat.ble args.length fn.ntmps = true)
    (k : Nat) {id : Nat} {b : Code} (hk : (pieces c)[k]? = some (.block id (.loop b))) (I : Nat → SA) (N : Nat)
    (hpre : evS P cs fn.ntmps nn F fr ((pieces c).take k) ⟨startT args 0, H, fr⟩ = some (.normal, I 0))
    (hstep : ∀ j, j < N → roundA (evC P cs fn.ntmps nn F fr b) (headA P fr (I 0)) (I j) = some (I (j + 1)))
    {s1 : SA} (hend : evC P cs fn.ntmps nn F fr b (I N) = some (.exit id, s1)) (hF : N < F)
    {v : AVal} (hpost : finV P fn (evS P cs fn.ntmps nn F fr ((pieces c).drop (k + 1)) s1) = some v) : (run1 P cs nn F f args H fr).map (·.1) = some v := by
  rw [run1_val hf hb hn, ← hpost]
  congr 1
  have e : pieces c = (pieces c).take k ++ (pieces c).drop k := (List.take_append_drop k (pieces c)).symm
  rw [e, evS_append hpre, evS_loop hk I N hstep hend hF, ← e]
theorem opt_eq {α : Type} {x : Option α} {y z : α} (h : x = some y) (e : y = z) : x = some z := by rw [h, e]
/-! ### whole numbers that do not wrap -/
theorem wrapI (x : Int) (h1 : -9223372036854775808 ≤ x) (h2 : x < 9223372036854775808) : IntKind.wrap .i64 x = x := by
  simp only [IntKind.wrap, IntKind.bits, IntKind.signed]
  simp
  omega
theorem ofInt_nat (n : Nat) : UInt64.ofInt (n : Int) = UInt64.ofNat n := by
  simp [UInt64.ofInt]
  apply UInt64.toNat_inj.1
  simp
  omega
end Go.Eng
namespace Go.Eng
set_option linter.unusedVariables false
set_option linter.unusedSimpArgs false
open Go
theorem csP_one {P : Program} {f : FuncId} {g : List AVal → Option (EffA × Bool)} (h : ∀ args v, g args = some (v, true) → CallOk P f args v) : CSOk P (csP (psOne f g)) := by
  intro f' args e he
  unfold csP psOne at he
  cases hb : Nat.beq f' f with
  | false => rw [hb] at he; cases he
  | true =>
    rw [hb] at he
    simp only at he
    cases hg : g args with
    | none => rw [hg] at he; cases he
    | some p =>
      obtain ⟨v, c⟩ := p
      rw [hg] at he
      cases c with
      | false => cases he
      | true =>
        cases he
        rw [Nat.eq_of_beq_eq_true hb]
        exact h args _ hg
end Go.Eng
namespace Go.Eng
set_option linter.unusedVariables false
set_option linter.unusedSimpArgs false
open Go
/-- The answer of a function's last pieces with foretold tests. -/
def ansF (P : Program) (fn : Func) (x : Option (XA × SA × OS)) : Option (AVal × List Bool) :=
  match x with
  | some (x, s, q) => match finV P fn (some (x, s)) with
    | some v => some (v, q.ob)
    | none => none
  | none => none
theorem ansF_ok {P : Program} {ps : PS} {cs : CS} (hps : PSOk ps cs) {sy : List Nat} {fn : Func} {nt nn F bs : Nat} {l : List Code} {s : SA} {os : List Bool} {vs : List AVal} {v : AVal} {ob : List Bool} (h : ansF P fn (evSO P ps cs sy nt nn F bs l s ⟨os, vs, []⟩) = some (v, ob)) (ha : allT ob = true) : finV P fn (evS P cs nt nn F bs l s) = some v := by
  unfold ansF at h
  split at h
  · rename_i x s1 q hev
    split at h
    · rename_i u hu
      simp only [Option.some.injEq, Prod.mk.injEq] at h
      obtain ⟨rfl, rfl⟩ := h
      rw [(evSO_ok hps _ _ _ _ _ _ hev ha).1]
      exact hu
    · cases h
  · cases h
/-- A stretch of pieces with foretold tests. -/
def segO (x : Option (XA × SA × OS)) : Option (SA × List Bool) :=
  match x with
  | some (.normal, s, q) => some (s, q.ob)
  | _ => none
theorem segO_ok {P : Program} {ps : PS} {cs : CS} (hps : PSOk ps cs) {sy : List Nat} {nt nn F bs : Nat} {l : List Code} {k m : Nat} {s s' : SA} {os : List Bool} {vs : List AVal} {ob : List Bool} (h : segO (evSO P ps cs sy nt nn F bs ((l.drop k).take m) s ⟨os, vs, []⟩) = some (s', ob)) (ha : allT ob = true) : evS P cs nt nn F bs (l.drop k) s = evS P cs nt nn F bs (l.drop (k + m)) s' := by
  unfold segO at h
  split at h
  · rename_i s1 q hev
    simp only [Option.some.injEq, Prod.mk.injEq] at h
    obtain ⟨rfl, rfl⟩ := h
    exact evS_seg (evSO_ok hps _ _ _ _ _ _ hev ha).1
  · cases h
end Go.Eng
namespace Go.Eng
set_option linter.unusedVariables false
set_option linter.unusedSimpArgs false
open Go
theorem csP_alt {P : Program} {a b : PS} (ha : CSOk P (csP a)) (hb : CSOk P (csP b)) : CSOk P (csP (psAlt a b)) := by
  intro f args e h
  unfold csP psAlt at h
  cases h1 : a f args with
  | some q =>
    rw [h1] at h
    exact ha f args e (by unfold csP; rw [h1]; exact h)
  | none =>
    rw [h1] at h
    exact hb f args e (by unfold csP; exact h)
end Go.Eng
namespace Go.Eng
set_option linter.unusedVariables false
set_option linter.unusedSimpArgs false
open Go
/-- A loop's head where no name of a round's own is left; that this is so is asked apart. -/
def okS (P : Program) (s : SA) : Bool := ltT s.fr s.T && ltH s.fr s.H && Nat.ble P.globals.size s.fr
def headS (P : Program) (bs : Nat) (s0 s : SA) : SA :=
  let r := renAll P bs (pairsT s0.fr 0 s0.T s.T) s
  ⟨reshape s0.T r.T, reshapeH s0.H r.H ++ extraH s0.H s0.fr r.H, s0.fr⟩
theorem headS_eq {P : Program} {bs : Nat} {s0 s s1 : SA} (h : headS P bs s0 s = s1) (ho : okS P s1 = true) : headA P bs s0 s = s1 := by
  unfold headA headB
  unfold headS at h
  simp only at h
  subst h
  unfold okS at ho
  simp only at ho
  rw [ho, cond_true]
def roundO2 (P : Program) (ps : PS) (cs : CS) (sy : List Nat) (os : List Bool) (vs : List AVal) (nt nn F bs : Nat) (b : Code) (s0 s : SA) : Option (SA × List Bool) :=
  match evT P ps cs sy nt nn F bs b s ⟨os, vs, []⟩ with
  | some (.normal, s', q) => some (headS P bs s0 s', q.ob)
  | _ => none
theorem roundO2_ok {P : Program} {ps : PS} {cs : CS} (hps : PSOk ps cs) {sy : List Nat} {os : List Bool} {vs : List AVal} {nt nn F bs : Nat} {b : Code} {s0 s s1 : SA} {ob : List Bool} (h : roundO2 P ps cs sy os vs nt nn F bs b s0 s = some (s1, ob)) (ha : allT ob = true) (ho : okS P s1 = true) : roundA (evC P cs nt nn F bs b) (headA P bs s0) s = some s1 := by
  unfold roundO2 at h
  split at h
  · rename_i s' q hev
    simp only [Option.some.injEq, Prod.mk.injEq] at h
    obtain ⟨h1, rfl⟩ := h
    simp only [roundA, (evT_ok hps b _ _ _ _ _ hev ha).1, headS_eq h1 ho]
  · cases h
end Go.Eng
