/- Engine, part 30: functions with a loop, tests foretold from the beginning to the end. -/
import Derived.Test.YtkgbpnihbamceaaEng26
namespace Go.Eng
set_option linter.unusedVariables false
set_option linter.unusedSimpArgs false
open Go
/-- A loop's end and what stands behind it. -/
def endO (P : Program) (ps : PS) (cs : CS) (sy : List Nat) (fn : Func) (nn F bs id : Nat) (b : Code) (l : List Code) (s : SA) (q : OS) : Option (AVal × List Bool) :=
  match evT P ps cs sy fn.ntmps nn F bs b s q with
  | some (.exit id', s1, q1) => cond (Nat.beq id' id) (ansF P fn (evSO P ps cs sy fn.ntmps nn F bs l s1 q1)) none
  | _ => none
theorem ansF_ok2 {P : Program} {ps : PS} {cs : CS} (hps : PSOk ps cs) {sy : List Nat} {fn : Func} {nt nn F bs : Nat} {l : List Code} {s : SA} {q : OS} {v : AVal} {ob : List Bool} (h : ansF P fn (evSO P ps cs sy nt nn F bs l s q) = some (v, ob)) (ha : allT ob = true) : finV P fn (evS P cs nt nn F bs l s) = some v ∧ allT q.ob = true := by
  cases hx : evSO P ps cs sy nt nn F bs l s q with
  | none => rw [hx] at h; cases h
  | some r =>
    obtain ⟨x, s', q'⟩ := r
    rw [hx] at h
    have hq : q'.ob = ob := by
      unfold ansF at h
      cases hv : finV P fn (some (x, s')) with
      | none => simp only [hv] at h; cases h
      | some u =>
        simp only [hv, Option.some.injEq, Prod.mk.injEq] at h
        exact h.2
    have h2 := evSO_ok hps l s q x s' q' hx (by rw [hq]; exact ha)
    refine ⟨?_, h2.2⟩
    rw [h2.1]
    unfold ansF at h
    cases hv : finV P fn (some (x, s')) with
    | none => simp only [hv] at h; cases h
    | some u =>
      simp only [hv, Option.some.injEq, Prod.mk.injEq] at h
      rw [h.1]
theorem endO_ok {P : Program} {ps : PS} {cs : CS} (hps : PSOk ps cs) {sy : List Nat} {fn : Func} {nn F bs id : Nat} {b : Code} {l : List Code} {s : SA} {os : List Bool} {vs : List AVal} {v : AVal} {ob : List Bool} (h : endO P ps cs sy fn nn F bs id b l s ⟨os, vs, []⟩ = some (v, ob)) (ha : allT ob = true) :
    ∃ s1, evC P cs fn.ntmps nn F bs b s = some (.exit id, s1) ∧ finV P fn (evS P cs fn.ntmps nn F bs l s1) = some v := by
  unfold endO at h
  split at h
  · rename_i id' s1 q1 he
    cases hb : Nat.beq id' id with
    | false => rw [hb] at h; cases h
    | true =>
      rw [hb, cond_true] at h
      have := Nat.eq_of_beq_eq_true hb
      subst this
      obtain ⟨h1, h2⟩ := ansF_ok2 hps h ha
      exact ⟨s1, (evT_ok hps b _ _ _ _ _ he h2).1, h1⟩
  · cases h
theorem segO_pre {P : Program} {ps : PS} {cs : CS} (hps : PSOk ps cs) {sy : List Nat} {nt nn F bs : Nat} {l : List Code} {s s' : SA} {os : List Bool} {vs : List AVal} {ob : List Bool} (h : segO (evSO P ps cs sy nt nn F bs l s ⟨os, vs, []⟩) = some (s', ob)) (ha : allT ob = true) : evS P cs nt nn F bs l s = some (.normal, s') := by
  unfold segO at h
  split at h
  · rename_i s1 q he
    simp only [Option.some.injEq, Prod.mk.injEq] at h
    obtain ⟨rfl, rfl⟩ := h
    exact (evSO_ok hps _ _ _ _ _ _ he ha).1
  · cases h
theorem run_loopO {P : Program} {ps : PS} {cs : CS} (hps : PSOk ps cs) {nn F : Nat} {f : FuncId} {fn : Func} {c : Code} {args : List AVal} {H : HL} {fr : Nat} (hf : P.funcs[f]? = some fn) (hb : fn.body = some c) (hn : Nat.ble args.length fn.ntmps = true)
    (k : Nat) {id : Nat} {b : Code} (hk : (pieces c)[k]? = some (.block id (.loop b))) (I : Nat → SA) (N : Nat) {sy0 sy1 : List Nat} {os0 os1 : List Bool} {vs0 vs1 : List AVal} {ob0 ob1 : List Bool}
    (hpre : segO (evSO P ps cs sy0 fn.ntmps nn F fr ((pieces c).take k) ⟨startT args 0, H, fr⟩ ⟨os0, vs0, []⟩) = some (I 0, ob0)) (ha0 : allT ob0 = true)
    (hstep : ∀ j, j < N → roundA (evC P cs fn.ntmps nn F fr b) (headA P fr (I 0)) (I j) = some (I (j + 1)))
    {v : AVal} (hend : endO P ps cs sy1 fn nn F fr id b ((pieces c).drop (k + 1)) (I N) ⟨os1, vs1, []⟩ = some (v, ob1)) (ha1 : allT ob1 = true) (hF : N < F) : (run1 P cs nn F f args H fr).map (·.1) = some v := by
  obtain ⟨s1, h1, h2⟩ := endO_ok hps hend ha1
  exact run_loop hf hb hn k hk I N (segO_pre hps hpre ha0) hstep h1 hF h2
theorem flatMap_at {α β : Type} {f : α → List β} {k : Nat} (hf : ∀ x, (f x).length = k) : ∀ {l : List α} {i : Nat} {x : α} {j : Nat}, l[i]? = some x → j < k → (l.flatMap f)[i * k + j]? = (f x)[j]?
  | [], i, x, j, h, _ => by simp at h
  | y :: l, 0, x, j, h, hj => by
    simp only [List.getElem?_cons_zero, Option.some.injEq] at h
    subst h
    rw [List.flatMap_cons, Nat.zero_mul, Nat.zero_add, List.getElem?_append_left (by rw [hf]; exact hj)]
  | y :: l, i + 1, x, j, h, hj => by
    rw [List.getElem?_cons_succ] at h
    have := flatMap_at hf (i := i) h hj
    rw [List.flatMap_cons, List.getElem?_append_right (by rw [hf, Nat.succ_mul]; omega), hf, ← this]
    congr 1
    rw [Nat.succ_mul]; omega
theorem isAt_of {c : List AVal} {off : Nat} {v : AVal} (h : c[off]? = some v) (hv : eqS v v = true) : isAt c off v = true := by
  unfold isAt
  rw [h]; exact hv
end Go.Eng
