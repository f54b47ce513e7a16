/- Engine, part 27: calls on blocks of plain data that look at no globals. -/
import Derived.Test.YtkgbpnihbamceaaEng26
import Derived.Test.YtkgbpnihbamceaaEng23
namespace Go.Eng
set_option linter.unusedVariables false
set_option linter.unusedSimpArgs false
open Go
/-- A call on blocks of plain data that the arguments point to. -/
def viewE0 (P : Program) (cs : CS) (nn F : Nat) (f : FuncId) (ns : List Nat) (cargs : List AVal) : EffA :=
  .eff fun _ η => match objsA η ns P.globals.size with
    | none => none
    | some Ho => match run1 P cs nn F f cargs Ho (P.globals.size + ns.length) with
      | none => none
      | some (v, H', _) => match backA η H' ns P.globals.size with
        | none => none
        | some us => cond (ltV 0 v && nodupB ns) (some (v, us)) none
theorem callOk_view0 {P : Program} {cs : CS} (hcs : CSOk P cs) (hm : P.follows .mixedOrders = true) {nn F : Nat} {f : FuncId} {args cargs : List AVal} {ns : List Nat} (hcan : canL P.globals.size [] args = some (cargs, ns)) : CallOk P f args (viewE0 P cs nn F f ns cargs) := by
  intro σ args' H w base v0 H0 hl hg hH happ hfree
  simp only [viewE0, EffA.app] at happ
  cases hobj : objsA (aget H) ns P.globals.size with
  | none => rw [hobj] at happ; cases happ
  | some Ho =>
  rw [hobj] at happ
  simp only at happ
  cases hrun : run1 P cs nn F f cargs (Ho) (P.globals.size + ns.length) with
  | none => rw [hrun] at happ; cases happ
  | some r =>
  obtain ⟨v, H', fr'⟩ := r
  rw [hrun] at happ
  simp only at happ
  cases hback : backA (aget H) H' ns P.globals.size with
  | none => rw [hback] at happ; cases happ
  | some us =>
  rw [hback] at happ
  simp only at happ
  cases hcond : (ltV 0 v && nodupB ns) with
  | false => rw [hcond] at happ; cases happ
  | true =>
  rw [hcond] at happ
  simp only [cond_true, Option.some.injEq, Prod.mk.injEq] at happ
  obtain ⟨rfl, rfl⟩ := happ
  simp only [Bool.and_eq_true] at hcond
  obtain ⟨hv, hnd⟩ := hcond
  have hnd := nodupB_ok hnd
  obtain ⟨fn, body, hf, hb, hrunF⟩ := run1_some hrun
  obtain ⟨u1, u2⟩ := backA_mem hback
  have husome : ∀ m x, (m, x) ∈ us → x.isSome = true := fun m x hx => by
    obtain ⟨c, i, c0, e, _⟩ := u1 m x hx
    rw [e]; rfl
  -- what the callee sees
  have heap : ∀ m o, aget (Ho) m = some o → ∃ n ro c, aget H n = some o ∧ o = .cells ro c ∧ ltL 0 c = true ∧ sigC P.globals.size ns σ m = σ n ∧ ((m < P.globals.size ∧ n = m ∧ ro = true) ∨ ∃ i, m = P.globals.size + i ∧ ns[i]? = some n) := fun m o hmo => by
    obtain ⟨a1, n, a2, a3, ro, c, a4, a5⟩ := objsA_get hobj m o hmo
    have e : m = P.globals.size + (m - P.globals.size) := by omega
    refine ⟨n, ro, c, a3, a4, a5, ?_, .inr ⟨m - P.globals.size, e, a2⟩⟩
    rw [e]
    exact sigC_at a2
  have hgc : GRel P (sigC P.globals.size ns σ) := fun g hgl => by
    obtain ⟨sz, hs⟩ := hg g hgl
    exact ⟨sz, by unfold sigC; rw [if_pos hgl]; exact hs⟩
  have hfr : Fresh (sigC P.globals.size ns σ) (P.globals.size + ns.length) := fun m hm' => by
    unfold sigC
    rw [if_neg (by omega), List.getElem?_eq_none (by omega)]
  obtain ⟨_, hlen, hcv⟩ := canL_ok hcan
  have hlc : LR (sigC P.globals.size ns σ) cargs args' := by
    refine ⟨by rw [hlen]; exact hl.1, fun i u u' h1 h2 => ?_⟩
    have := hcv [] σ i u u' h1 fun x hx => hl.2 i x u' hx h2
    rwa [List.append_nil] at this
  have hHc : HRel (sigC P.globals.size ns σ) (aget (Ho)) w := by
    refine ⟨fun m o hmo => ?_, fun m m' o o' q q' h1 h2 hq hq' he => ?_⟩
    · obtain ⟨n, ro, c, a1, rfl, a3, a4, _⟩ := heap m o hmo
      obtain ⟨p, hp, hor⟩ := hH.obj n _ a1
      exact ⟨p, by rw [a4]; exact hp, hor.plain a3⟩
    · obtain ⟨n, ro, c, a1, rfl, a3, a4, a5⟩ := heap m o h1
      obtain ⟨n', ro', c', b1, rfl, b3, b4, b5⟩ := heap m' o' h2
      rw [a4] at hq
      rw [b4] at hq'
      rcases hH.inj n n' _ _ q q' a1 b1 hq hq' he with e | e
      · subst e
        rw [a1] at b1
        cases b1
        rcases a5 with ⟨x1, x2, x3⟩ | ⟨i, x1, x2⟩ <;> rcases b5 with ⟨y1, y2, y3⟩ | ⟨j, y1, y2⟩
        · exact .inl (by omega)
        · subst x3; exact .inr ⟨rfl, rfl⟩
        · subst y3; exact .inr ⟨rfl, rfl⟩
        · left
          have h3 := (List.getElem?_eq_some_iff.1 x2)
          have h4 := (List.getElem?_eq_some_iff.1 y2)
          obtain ⟨hi, ei⟩ := h3
          obtain ⟨hj, ej⟩ := h4
          have : i = j := (List.getElem_inj hnd).1 (ei.trans ej.symm)
          omega
      · exact .inr e
  refine (runF_ok hcs hm hf hb hrunF hlc hHc hgc hfr).mono fun r w' hrw => ?_
  obtain ⟨σ', v', rfl, g1, g2, g3, g4⟩ := hrw
  -- what the callee may write, the caller may
  have hown : ∀ b, Own (sigC P.globals.size ns σ) (aget (Ho)) b → ∃ n c p, n ∈ ns ∧ aget H n = some (.cells false c) ∧ σ n = some p ∧ p.blk = b := fun b ⟨m, o, p, a1, a2, a3, a4⟩ => by
    obtain ⟨n, ro, c, b1, rfl, b3, b4, b5⟩ := heap m o a1
    have hro : ro = false := a2
    subst hro
    rw [b4] at a3
    rcases b5 with ⟨_, _, x⟩ | ⟨i, _, x⟩
    · cases x
    · exact ⟨n, c, p, List.mem_of_getElem? x, b1, a3, a4⟩
  have hold : ∀ b, b < w.heap.size → (∀ n c p, n ∈ ns → aget H n = some (.cells false c) → σ n = some p → p.blk ≠ b) → w'.heap[b]? = w.heap[b]? := fun b hb hne =>
    (g3.old b hb fun ho => by
      obtain ⟨n, c, p, a1, a2, a3, a4⟩ := hown b ho
      exact hne n c p a1 a2 a3 a4).1
  have orig : ∀ m ob, aget (appU H us) m = some ob → ∃ ob0, aget H m = some ob0 ∧ ob0.ro = ob.ro := fun m ob hmo => by
    rcases appU_get husome (H := H) m with ⟨o, a1, a2⟩ | ⟨_, a2⟩
    · obtain ⟨c, i, c0, e1, _, _, _, e5⟩ := u1 m _ a1
      rw [hmo] at a2
      cases a2
      cases e1
      exact ⟨_, e5, rfl⟩
    · exact ⟨ob, by rw [← a2]; exact hmo, rfl⟩
  refine ⟨σ, v', rfl, g1.cut0 hv σ, ⟨fun m ob hmo => ?_, fun m1 m2 o1 o2 q1 q2 h1 h2 hq1 hq2 he => ?_⟩, ⟨Sig.le_refl σ, g3.size, g3.os, g3.output, g3.tape, fun b hb hno => ⟨hold b hb fun n c p k1 k2 k3 k4 => hno ⟨n, _, p, k2, rfl, k3, k4⟩, ?_⟩⟩, Only.refl σ base⟩
  · rcases appU_get husome (H := H) m with ⟨o, a1, a2⟩ | ⟨a1, a2⟩
    · obtain ⟨c, i, c0, e1, e2, e3, e4, e5⟩ := u1 m _ a1
      rw [hmo] at a2
      cases a2
      cases e1
      obtain ⟨p, hp, _⟩ := hH.obj m _ e5
      refine ⟨p, hp, ?_⟩
      obtain ⟨q, hq, hor⟩ := g2.obj _ _ e4
      have : q = p := Option.some.inj (hq.symm.trans (g3.ext _ _ (by rw [sigC_at e3]; exact hp)))
      subst this
      exact hor.plain e2
    · rw [a2] at hmo
      obtain ⟨p, hp, hor⟩ := hH.obj m ob hmo
      refine ⟨p, hp, hor.mono (Sig.le_refl σ) (hold _ hor.lt fun n c q k1 k2 k3 k4 => ?_)⟩
      rcases hH.inj n m _ ob q p k2 hmo k3 hp k4 with e | ⟨e, _⟩
      · subst e
        obtain ⟨x, hx⟩ := u2 n c k1 k2
        exact a1 x hx
      · cases e
  · obtain ⟨x1, y1, z1⟩ := orig m1 o1 h1
    obtain ⟨x2, y2, z2⟩ := orig m2 o2 h2
    rcases hH.inj m1 m2 x1 x2 q1 q2 y1 y2 hq1 hq2 he with e | ⟨e1, e2⟩
    · exact .inl e
    · exact .inr ⟨z1 ▸ e1, z2 ▸ e2⟩
  · rintro ⟨m, o, q, k1, k2, k3, k4⟩
    obtain ⟨x1, y1, z1⟩ := orig m o k1
    exact hno ⟨m, x1, q, y1, by rw [z1]; exact k2, k3, k4⟩
/-- Calls carried out in place, of plain data, or on blocks. -/
theorem asetH_same {α : Type} : ∀ {T : List (Nat × α)} {d : Nat} {v : α}, aget T d = some v → aset T d v = T
  | [], d, v, h => by simp [aget] at h
  | (k, u) :: l, d, v, h => by
    simp only [aget] at h
    rcases beq_cases k d with ⟨he, hb⟩ | ⟨he, hb⟩ <;> rw [hb] at h <;> simp only [cond_true, cond_false] at h
    · subst he; cases h
      simp [aset, hb]
    · simp only [aset, hb, cond_false, asetH_same h]
/-- A call on one slice, from its block's first cell on, that only reads it. -/
theorem callOk_slice {P : Program} {cs : CS} (hcs : CSOk P cs) (hm : P.follows .mixedOrders = true) {nn F : Nat} {f : FuncId} {a : AVal} {n off len esz : Nat} {g : List AVal → Option AVal}
    (ha : ltV 0 a = true) (hc : ∀ s, canV P.globals.size s a = some (a, s))
    (hrun : ∀ ro c v, g c = some v → ltV 0 v = true → ltL 0 c = true → ∃ r, run1 P cs nn F f [a, .slice P.globals.size off len esz] [(P.globals.size, .cells ro c)] (P.globals.size + 1) = some r ∧ r.1 = v ∧ aget r.2.1 P.globals.size = some (.cells ro c)) :
    CallOk P f [a, .slice n off len esz] (.read n fun ob => match ob with | .cells _ c => cond (ltL 0 c) (match g c with | some v => cond (ltV 0 v) (some v) none | none => none) none) := by
  have hcan : canL P.globals.size [] [a, .slice n off len esz] = some ([a, .slice P.globals.size off len esz], [n]) := by
    simp only [canL, hc]
    simp only [canV, canN, posN, List.length_nil, Nat.add_zero, List.nil_append]
  refine (callOk_view0 hcs hm (nn := nn) (F := F) (f := f) hcan).less fun base H r hr => ?_
  simp only [EffA.app] at hr
  cases hn : aget H n with
  | none => rw [hn] at hr; cases hr
  | some ob =>
    rw [hn] at hr
    cases ob with
    | cells ro c =>
      simp only at hr
      cases hl : ltL 0 c with
      | false => rw [hl] at hr; cases hr
      | true =>
        rw [hl] at hr
        simp only [cond_true] at hr
        cases hg : g c with
        | none => rw [hg] at hr; cases hr
        | some v =>
          rw [hg] at hr
          simp only at hr
          cases hv : ltV 0 v with
          | false => rw [hv] at hr; cases hr
          | true =>
            rw [hv] at hr
            simp only [cond_true, Option.some.injEq] at hr
            subst hr
            obtain ⟨⟨v', H', fr'⟩, h1, h2, h3⟩ := hrun ro c v hg hv hl
            simp only at h2 h3
            subst h2
            cases ro with
            | true =>
              simp only [viewE0, EffA.app, objsA, hn, hl, cond_true, List.length_cons, List.length_nil, Nat.zero_add, h1, backA, hv, nodupB, List.all_nil, Bool.and_self, appU]
            | false =>
              have e : aset H n (.cells false c) = H := asetH_same hn
              simp only [viewE0, EffA.app, objsA, hn, hl, cond_true, List.length_cons, List.length_nil, Nat.zero_add, h1, backA, h3, hv, nodupB, List.all_nil, Bool.and_self, appU, e]
end Go.Eng
