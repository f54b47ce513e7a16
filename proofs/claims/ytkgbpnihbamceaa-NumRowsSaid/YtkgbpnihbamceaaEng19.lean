/- Engine, part 19: summaries put together; what simp needs. -/
import Derived.Test.YtkgbpnihbamceaaEng18
import GoSem.ClaimChange
namespace Go.Eng
set_option linter.unusedVariables false
set_option linter.unusedSimpArgs false
open Go

theorem nble (a b : Nat) : Nat.ble a b = decide (a ≤ b) := by rw [Bool.eq_iff_iff]; simp
theorem nbeq (a b : Nat) : Nat.beq a b = decide (a = b) := by rw [Bool.eq_iff_iff]; simp [Nat.beq_eq]
theorem optMap {α β : Type} {x : Option α} {g : α → β} {y : β} (h : x.map g = some y) : ∃ r, x = some r ∧ g r = y := by
  cases x with
  | none => cases h
  | some r => exact ⟨r, rfl, Option.some.inj h⟩
/-- A summary of one function. -/
def csOne (f : FuncId) (g : List AVal → Option EffA) : CS := fun f' args => match Nat.beq f' f with
  | true => g args
  | false => none
theorem csOne_ok {P : Program} {f : FuncId} {g : List AVal → Option EffA} (h : ∀ args e, g args = some e → CallOk P f args e) : CSOk P (csOne f g) := by
  intro f' args e he
  unfold csOne at he
  split at he
  · rename_i hb
    rw [Nat.eq_of_beq_eq_true hb]
    exact h args e he
  · cases he
def csAlt (a b : CS) : CS := fun f args => match a f args with
  | some e => some e
  | none => b f args
theorem csAlt_ok {P : Program} {a b : CS} (ha : CSOk P a) (hb : CSOk P b) : CSOk P (csAlt a b) := by
  intro f args e he
  unfold csAlt at he
  split at he
  · rename_i e' h'
    cases he
    exact ha f args _ h'
  · exact hb f args e he
theorem callOk_val {P : Program} {cs : CS} (hcs : CSOk P cs) (hm : P.follows .mixedOrders = true) {nn F : Nat} {f : FuncId} {args : List AVal} {v : AVal} (h : (run1 P cs nn F f args [] P.globals.size).map (·.1) = some v) (ha : allV args = true) (hv : ltV 0 v = true) : CallOk P f args (.pure v) := by
  obtain ⟨r, hr, hrv⟩ := optMap h
  have := callOk_run hcs hm hr ha (by rw [hrv]; exact hv)
  rwa [hrv] at this
/-- Nothing in memory at first but the globals' names. -/
def sig0 (P : Program) : Sig := fun g => if g < P.globals.size then some ⟨g, 0, 0⟩ else none
theorem sig0_g (P : Program) : GRel P (sig0 P) := fun g hg => ⟨0, by simp [sig0, hg]⟩
theorem sig0_free (P : Program) : Free (sig0 P) P.globals.size := fun j _ => by
  unfold sig0
  rw [if_neg (by omega)]
/-- The world has at most new blocks; what was frozen is frozen, what was not is not. -/
def Grew (W w' : World) : Prop := W.keptBut w' (fun _ => False) ∧ (∀ a : Addr, a.block < W.heap.size → w'.frozen? a = W.frozen? a) ∧ W.heap.size ≤ w'.heap.size
theorem grew_of {w w' : World} (h1 : w'.os = w.os) (h2 : w'.output = w.output) (h3 : w.heap.size ≤ w'.heap.size) (h4 : ∀ b, b < w.heap.size → w'.heap[b]? = w.heap[b]?) : Grew w w' := by
  refine ⟨⟨h1, h2, fun i hi => ?_⟩, fun a ha => ?_, h3⟩
  · rw [h4 i hi]
    cases w.heap[i]? with
    | none => exact rfl
    | some o => cases o with
      | cells c t fz => exact ⟨rfl, rfl, rfl, fun _ _ => rfl⟩
      | map es cl => exact .inr ⟨rfl, rfl⟩
      | _ => exact rfl
  · unfold World.frozen?
    rw [h4 a.block ha]
theorem calls_of_callOk {P : Program} {f : FuncId} {args : List AVal} {v : AVal} (h : CallOk P f args (.pure v)) {args' : Array Value} {w : World} (hl : LR (sig0 P) args args') :
    Calls P f args' w fun r w' => ∃ σ' v', r = .returned v' ∧ VR σ' v v' ∧ Grew w w' := by
  refine (h (sig0 P) args' [] w P.globals.size v [] hl (sig0_g P) ?_ rfl (sig0_free P)).mono fun r w' ⟨σ', v', h1, h2, _, h4, _⟩ => ⟨σ', v', h1, h2, grew_of h4.os h4.output h4.size fun b hb => (h4.old b hb ?_).1⟩
  · constructor
    · intro n o h
      exact nomatch (show (none : Option AObj) = some o from h)
    · intro n m o o' p q h
      exact nomatch (show (none : Option AObj) = some o from h)
  · rintro ⟨n, o, p, h, _⟩
    exact nomatch (show (none : Option AObj) = some o from h)
theorem law_calls {P : Program} {f : FuncId} {args : List AVal} (h : CallOk P f args (.pure (.bool true))) {args' : Array Value} {w : World} (hl : LR (sig0 P) args args') :
    Calls P f args' w fun r w' => r = .returned (.bool true) ∧ Grew w w' :=
  (calls_of_callOk h hl).mono fun r w' ⟨σ', v', h1, h2, h3⟩ => by
    cases h2
    exact ⟨h1, h3⟩
end Go.Eng
