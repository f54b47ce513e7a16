/- Texts Eng24, Eng28, Eng30, Eng31, Eng38, Eng39, Eng40, Eng41, Eng48, Eng49, Eng44: what they show stands ahead of each. -/
import Derived.Test.YtjdhndicgifnbaaT5
/- Engine, part 24: calls that hand back a new block. -/
namespace Go.Eng
set_option linter.unusedVariables false
set_option linter.unusedSimpArgs false
open Go
/-- The first name in a value. -/
def newN : AVal → Option Nat
  | .ptr n _ => some n
  | .slice n _ _ _ => some n
  | .tup vs => newL vs
  | _ => none
where newL : List AVal → Option Nat
  | [] => none
  | .ptr n _ :: _ => some n
  | .slice n _ _ _ :: _ => some n
  | _ :: l => newL l
/-- As 'viewE', of a function that hands back a new block of plain data. -/
def viewN (P : Program) (cs : CS) (nn F : Nat) (f : FuncId) (ns : List Nat) (cargs : List AVal) : EffA :=
  .eff fun base η => match objsA η ns P.globals.size with
    | none => none
    | some Ho => match run1 P cs nn F f cargs (globA η P.globals.size 0 ++ Ho) (P.globals.size + ns.length) with
      | none => none
      | some (v, H', _) => match backA η H' ns P.globals.size with
        | none => none
        | some us => match newN v with
          | none => none
          | some k => match aget H' k with
            | some (.cells false c) => match renV k 0 v with
              | none => none
              | some v1 => match renV 0 base v1 with
                | none => none
                | some v2 => cond (ltV 1 v1 && ltL 0 c && nodupB ns && Nat.ble (P.globals.size + ns.length) k) (some (v2, us ++ [(base, some (.cells false c))])) none
            | _ => none
theorem appU_append : ∀ {us : List (Nat × Option AObj)} {vs : List (Nat × Option AObj)} {H : HL}, (∀ m x, (m, x) ∈ us → x.isSome = true) → appU H (us ++ vs) = appU (appU H us) vs
  | [], vs, H, _ => rfl
  | (n, none) :: us, vs, H, h => by have := h n none (List.mem_cons_self ..); cases this
  | (n, some o) :: us, vs, H, h => by
    simp only [List.cons_append, appU]
    exact appU_append fun m x hx => h m x (List.mem_cons_of_mem _ hx)
theorem callOk_viewN {P : Program} {cs : CS} (hcs : CSOk P cs) (hm : P.follows .mixedOrders = true) {nn F : Nat} {f : FuncId} {args cargs : List AVal} {ns : List Nat} (hcan : canL P.globals.size [] args = some (cargs, ns)) : CallOk P f args (viewN P cs nn F f ns cargs) := by
  intro σ args' H w base v0 H0 hl hg hH happ hfree
  simp only [viewN, EffA.app] at happ
  cases hobj : objsA (aget H) ns P.globals.size with
  | none => rw [hobj] at happ; cases happ
  | some Ho =>
  rw [hobj] at happ
  simp only at happ
  cases hrun : run1 P cs nn F f cargs (globA (aget H) P.globals.size 0 ++ Ho) (P.globals.size + ns.length) with
  | none => rw [hrun] at happ; cases happ
  | some r =>
  obtain ⟨v, H', fr'⟩ := r
  rw [hrun] at happ
  simp only at happ
  cases hback : backA (aget H) H' ns P.globals.size with
  | none => rw [hback] at happ; cases happ
  | some us =>
  rw [hback] at happ
  simp only at happ
  cases hnew : newN v with
  | none => rw [hnew] at happ; cases happ
  | some k =>
  rw [hnew] at happ
  simp only at happ
  cases hblk : aget H' k with
  | none => rw [hblk] at happ; cases happ
  | some obk =>
  obtain ⟨rok, ck⟩ := obk
  cases rok with
  | true => rw [hblk] at happ; cases happ
  | false =>
  rw [hblk] at happ
  simp only at happ
  cases hr0 : renV k 0 v with
  | none => rw [hr0] at happ; cases happ
  | some v1 =>
  rw [hr0] at happ
  simp only at happ
  cases hr1 : renV 0 base v1 with
  | none => rw [hr1] at happ; cases happ
  | some v2 =>
  rw [hr1] at happ
  simp only at happ
  cases hcond : (ltV 1 v1 && ltL 0 ck && nodupB ns && Nat.ble (P.globals.size + ns.length) k) with
  | false => rw [hcond] at happ; cases happ
  | true =>
  rw [hcond] at happ
  simp only [cond_true, Option.some.injEq, Prod.mk.injEq] at happ
  obtain ⟨rfl, rfl⟩ := happ
  simp only [Bool.and_eq_true] at hcond
  obtain ⟨⟨⟨hv1, hck⟩, hnd⟩, hkk⟩ := hcond
  have hkk := Nat.le_of_ble_eq_true hkk
  have hnd := nodupB_ok hnd
  obtain ⟨fn, body, hf, hb, hrunF⟩ := run1_some hrun
  obtain ⟨u1, u2⟩ := backA_mem hback
  have husome : ∀ m x, (m, x) ∈ us → x.isSome = true := fun m x hx => by
    obtain ⟨c, i, c0, e, _⟩ := u1 m x hx
    rw [e]; rfl
  -- what the callee sees
  have heap : ∀ m o, aget (globA (aget H) P.globals.size 0 ++ Ho) m = some o → ∃ n ro c, aget H n = some o ∧ o = .cells ro c ∧ ltL 0 c = true ∧ sigC P.globals.size ns σ m = σ n ∧ ((m < P.globals.size ∧ n = m ∧ ro = true) ∨ ∃ i, m = P.globals.size + i ∧ ns[i]? = some n) := fun m o hmo => by
    rcases aget_append hmo with h1 | h1
    · obtain ⟨_, a2, a3, c, a4, a5⟩ := globA_get m o h1
      refine ⟨m, true, c, a3, a4, a5, ?_, .inl ⟨by omega, rfl, rfl⟩⟩
      unfold sigC
      rw [if_pos (by omega)]
    · obtain ⟨a1, n, a2, a3, ro, c, a4, a5⟩ := objsA_get hobj m o h1
      have e : m = P.globals.size + (m - P.globals.size) := by omega
      refine ⟨n, ro, c, a3, a4, a5, ?_, .inr ⟨m - P.globals.size, e, a2⟩⟩
      rw [e]
      exact sigC_at a2
  have hgc : GRel P (sigC P.globals.size ns σ) := fun g hgl => by
    obtain ⟨sz, hs⟩ := hg g hgl
    exact ⟨sz, by unfold sigC; rw [if_pos hgl]; exact hs⟩
  have hfr : Fresh (sigC P.globals.size ns σ) (P.globals.size + ns.length) := fun m hm' => by
    unfold sigC
    rw [if_neg (by omega), List.getElem?_eq_none (by omega)]
  obtain ⟨_, hlen, hcv⟩ := canL_ok hcan
  have hlc : LR (sigC P.globals.size ns σ) cargs args' := by
    refine ⟨by rw [hlen]; exact hl.1, fun i u u' h1 h2 => ?_⟩
    have := hcv [] σ i u u' h1 fun x hx => hl.2 i x u' hx h2
    rwa [List.append_nil] at this
  have hHc : HRel (sigC P.globals.size ns σ) (aget (globA (aget H) P.globals.size 0 ++ Ho)) w := by
    refine ⟨fun m o hmo => ?_, fun m m' o o' q q' h1 h2 hq hq' he => ?_⟩
    · obtain ⟨n, ro, c, a1, rfl, a3, a4, _⟩ := heap m o hmo
      obtain ⟨p, hp, hor⟩ := hH.obj n _ a1
      exact ⟨p, by rw [a4]; exact hp, hor.plain a3⟩
    · obtain ⟨n, ro, c, a1, rfl, a3, a4, a5⟩ := heap m o h1
      obtain ⟨n', ro', c', b1, rfl, b3, b4, b5⟩ := heap m' o' h2
      rw [a4] at hq
      rw [b4] at hq'
      rcases hH.inj n n' _ _ q q' a1 b1 hq hq' he with e | e
      · subst e
        rw [a1] at b1
        cases b1
        rcases a5 with ⟨x1, x2, x3⟩ | ⟨i, x1, x2⟩ <;> rcases b5 with ⟨y1, y2, y3⟩ | ⟨j, y1, y2⟩
        · exact .inl (by omega)
        · subst x3; exact .inr ⟨rfl, rfl⟩
        · subst y3; exact .inr ⟨rfl, rfl⟩
        · left
          have h3 := (List.getElem?_eq_some_iff.1 x2)
          have h4 := (List.getElem?_eq_some_iff.1 y2)
          obtain ⟨hi, ei⟩ := h3
          obtain ⟨hj, ej⟩ := h4
          have : i = j := (List.getElem_inj hnd).1 (ei.trans ej.symm)
          omega
      · exact .inr e
  refine (runF_ok hcs hm hf hb hrunF hlc hHc hgc hfr).mono fun r w' hrw => ?_
  obtain ⟨σ', v', rfl, g1, g2, g3, g4⟩ := hrw
  -- what the callee may write, the caller may
  have hown : ∀ b, Own (sigC P.globals.size ns σ) (aget (globA (aget H) P.globals.size 0 ++ Ho)) b → ∃ n c p, n ∈ ns ∧ aget H n = some (.cells false c) ∧ σ n = some p ∧ p.blk = b := fun b ⟨m, o, p, a1, a2, a3, a4⟩ => by
    obtain ⟨n, ro, c, b1, rfl, b3, b4, b5⟩ := heap m o a1
    have hro : ro = false := a2
    subst hro
    rw [b4] at a3
    rcases b5 with ⟨_, _, x⟩ | ⟨i, _, x⟩
    · cases x
    · exact ⟨n, c, p, List.mem_of_getElem? x, b1, a3, a4⟩
  have hold : ∀ b, b < w.heap.size → (∀ n c p, n ∈ ns → aget H n = some (.cells false c) → σ n = some p → p.blk ≠ b) → w'.heap[b]? = w.heap[b]? := fun b hb hne =>
    (g3.old b hb fun ho => by
      obtain ⟨n, c, p, a1, a2, a3, a4⟩ := hown b ho
      exact hne n c p a1 a2 a3 a4).1
  have orig : ∀ m ob, aget (appU H us) m = some ob → ∃ ob0, aget H m = some ob0 ∧ ob0.ro = ob.ro := fun m ob hmo => by
    rcases appU_get husome (H := H) m with ⟨o, a1, a2⟩ | ⟨_, a2⟩
    · obtain ⟨c, i, c0, e1, _, _, _, e5⟩ := u1 m _ a1
      rw [hmo] at a2
      cases a2
      cases e1
      exact ⟨_, e5, rfl⟩
    · exact ⟨ob, by rw [← a2]; exact hmo, rfl⟩
  have hbn : σ base = none := hfree 0 (by omega)
  obtain ⟨pk, hpk, hork⟩ := g2.obj k _ hblk
  have ownk : Own σ' (aget H') pk.blk := ⟨k, _, pk, hblk, rfl, hpk, rfl⟩
  -- the new block is none of the caller's
  have fresh : ∀ m ob q, aget H m = some ob → σ m = some q → q.blk ≠ pk.blk := fun m ob q hmo hq he => by
    obtain ⟨q', hq', hor⟩ := hH.obj m ob hmo
    rw [hq] at hq'; cases hq'
    by_cases hin : ∃ c, m ∈ ns ∧ ob = .cells false c
    · obtain ⟨c, h1, rfl⟩ := hin
      obtain ⟨x, hx⟩ := u2 m c h1 hmo
      obtain ⟨c1, i, c0, e1, e2, e3, e4, e5⟩ := u1 m x hx
      have hq2 : σ' (P.globals.size + i) = some q := g3.ext _ _ (by rw [sigC_at e3]; exact hq)
      rcases g2.inj _ _ _ _ _ _ e4 hblk hq2 hpk he with e | ⟨e, _⟩
      · have := (List.getElem?_eq_some_iff.1 e3).1
        omega
      · cases e
    · refine (g3.old q.blk hor.lt fun ho => ?_).2 (he ▸ ownk)
      obtain ⟨n, c, p, a1, a2, a3, a4⟩ := hown _ ho
      rcases hH.inj n m _ ob p q a2 hmo a3 hq a4 with e | ⟨e, _⟩
      · subst e
        rw [a2] at hmo
        cases hmo
        exact hin ⟨c, a1, rfl⟩
      · cases e
  have hbase : aget (appU H us) base = none := by
    cases hb : aget (appU H us) base with
    | none => rfl
    | some ob =>
      obtain ⟨ob0, h1, _⟩ := orig base ob hb
      obtain ⟨p, hp, _⟩ := hH.obj base ob0 h1
      rw [hbn] at hp; cases hp
  have app : ∀ m, aget (appU H (us ++ [(base, some (.cells false ck))])) m = if base = m then some (.cells false ck) else aget (appU H us) m := fun m => by
    rw [appU_append husome]
    simp only [appU]
    rw [aget_aset]
  have vr : VR (σ.set base pk) v2 v' := by
    have h1 := ltV_ok hv1 (renV_ok hr0 g1)
    refine (renV_ok hr1 h1).mono fun n p hp => ?_
    unfold Sig.ren at hp
    split at hp
    · rename_i e
      subst e
      have hp1 := cut_le 1 (Sig.ren k 0 σ') 0 p hp
      have hp2 : σ' k = some p := by simpa [Sig.ren] using hp1
      rw [hpk] at hp2; cases hp2
      exact Sig.set_same σ n _
    · split at hp
      · cases hp
      · rename_i e1 e2
        simp only [Go.Eng.cut] at hp
        rw [if_neg (by omega)] at hp
        cases hp
  have base0 : HRel σ (aget (appU H us)) w' := by
    refine ⟨fun m ob hmo => ?_, fun m1 m2 o1 o2 q1 q2 h1 h2 hq1 hq2 he => ?_⟩
    · rcases appU_get husome (H := H) m with ⟨o, a1, a2⟩ | ⟨a1, a2⟩
      · obtain ⟨c, i, c0, e1, e2, e3, e4, e5⟩ := u1 m _ a1
        rw [hmo] at a2
        cases a2
        cases e1
        obtain ⟨p, hp, _⟩ := hH.obj m _ e5
        refine ⟨p, hp, ?_⟩
        obtain ⟨q, hq, hor⟩ := g2.obj _ _ e4
        have : q = p := Option.some.inj (hq.symm.trans (g3.ext _ _ (by rw [sigC_at e3]; exact hp)))
        subst this
        exact hor.plain e2
      · rw [a2] at hmo
        obtain ⟨p, hp, hor⟩ := hH.obj m ob hmo
        refine ⟨p, hp, hor.mono (Sig.le_refl σ) (hold _ hor.lt fun n c q k1 k2 k3 k4 => ?_)⟩
        rcases hH.inj n m _ ob q p k2 hmo k3 hp k4 with e | ⟨e, _⟩
        · subst e
          obtain ⟨x, hx⟩ := u2 n c k1 k2
          exact a1 x hx
        · cases e
    · obtain ⟨x1, y1, z1⟩ := orig m1 o1 h1
      obtain ⟨x2, y2, z2⟩ := orig m2 o2 h2
      rcases hH.inj m1 m2 x1 x2 q1 q2 y1 y2 hq1 hq2 he with e | ⟨e1, e2⟩
      · exact .inl e
      · exact .inr ⟨z1 ▸ e1, z2 ▸ e2⟩
  refine ⟨σ.set base pk, v', rfl, vr, ⟨fun m ob hmo => ?_, fun m1 m2 o1 o2 q1 q2 h1 h2 hq1 hq2 he => ?_⟩, ⟨Sig.le_set hbn pk, g3.size, g3.os, g3.output, g3.tape, fun b hb hno => ⟨hold b hb fun n c p k1 k2 k3 k4 => hno ⟨n, _, p, k2, rfl, k3, k4⟩, ?_⟩⟩, fun n hn => Sig.set_other σ _ (by omega)⟩
  · rw [app] at hmo
    split at hmo
    · rename_i e
      subst e
      cases hmo
      exact ⟨pk, Sig.set_same σ base pk, hork.plain hck⟩
    · rename_i e
      obtain ⟨p, hp, hor⟩ := base0.obj m ob hmo
      exact ⟨p, by rw [Sig.set_other σ _ (Ne.symm e)]; exact hp, hor.mono (Sig.le_set hbn pk) rfl⟩
  · rw [app] at h1 h2
    split at h1 <;> split at h2
    · rename_i e1 e2; exact .inl (e1.symm.trans e2)
    · rename_i e1 e2
      subst e1
      rw [Sig.set_same] at hq1; cases hq1
      rw [Sig.set_other σ _ (Ne.symm e2)] at hq2
      obtain ⟨x2, y2, _⟩ := orig m2 o2 h2
      exact absurd he.symm (fresh m2 x2 q2 y2 hq2)
    · rename_i e1 e2
      subst e2
      rw [Sig.set_same] at hq2; cases hq2
      rw [Sig.set_other σ _ (Ne.symm e1)] at hq1
      obtain ⟨x1, y1, _⟩ := orig m1 o1 h1
      exact absurd he (fresh m1 x1 q1 y1 hq1)
    · rename_i e1 e2
      rw [Sig.set_other σ _ (Ne.symm e1)] at hq1
      rw [Sig.set_other σ _ (Ne.symm e2)] at hq2
      exact base0.inj m1 m2 o1 o2 q1 q2 h1 h2 hq1 hq2 he
  · rintro ⟨m, o, q, k1, k2, k3, k4⟩
    rw [app] at k1
    split at k1
    · rename_i e
      subst e
      rw [Sig.set_same] at k3; cases k3
      refine (g3.old b hb fun ho => ?_).2 (k4 ▸ ownk)
      obtain ⟨n, c, p, a1, a2, a3, a4⟩ := hown b ho
      exact hno ⟨n, _, p, a2, rfl, a3, a4⟩
    · rename_i e
      rw [Sig.set_other σ _ (Ne.symm e)] at k3
      obtain ⟨x1, y1, z1⟩ := orig m o k1
      exact hno ⟨m, x1, q, y1, by rw [z1]; exact k2, k3, k4⟩
/-- The one effect, or where it does not serve the other one. -/
def orE (a b : EffA) : EffA :=
  match a, b with
  | .eff f, .eff g => .eff fun base η => match f base η with
    | some r => some r
    | none => g base η
  | a, _ => a
theorem orE_ok {P : Program} {f : FuncId} {args : List AVal} {a b : EffA} (ha : CallOk P f args a) (hb : CallOk P f args b) : CallOk P f args (orE a b) := by
  cases a with
  | eff fa => cases b with
    | eff fb =>
      intro σ args' H w base v H' hl hg hH happ hf
      simp only [orE, EffA.app] at happ
      cases h : fa base (aget H) with
      | some r =>
        rw [h] at happ
        exact ha σ args' H w base v H' hl hg hH (by simp only [EffA.app, h]; exact happ) hf
      | none =>
        rw [h] at happ
        exact hb σ args' H w base v H' hl hg hH (by simp only [EffA.app]; exact happ) hf
    | pure _ => exact ha
    | read _ _ => exact ha
    | alloc _ _ => exact ha
  | pure _ => exact ha
  | read _ _ => exact ha
  | alloc _ _ => exact ha
/-- Calls carried out in place: of plain data, on blocks, with a new block. -/
def inlW (P : Program) (nn : FuncId → Nat) (F : Nat) (cs : CS) : Nat → CS
  | 0 => cs
  | n + 1 => fun f args => match cs f args with
    | some e => some e
    | none => match canL P.globals.size [] args with
      | none => none
      | some (cargs, ns) => match ns with
        | [] => match run1 P (inlW P nn F cs n) (nn f) F f args [] P.globals.size with
          | some (v, _, _) => cond (allV args && ltV 0 v) (some (.pure v)) (some (orE (viewE P (inlW P nn F cs n) (nn f) F f [] cargs) (viewN P (inlW P nn F cs n) (nn f) F f [] cargs)))
          | none => some (orE (viewE P (inlW P nn F cs n) (nn f) F f [] cargs) (viewN P (inlW P nn F cs n) (nn f) F f [] cargs))
        | k :: ks => some (orE (viewE P (inlW P nn F cs n) (nn f) F f (k :: ks) cargs) (viewN P (inlW P nn F cs n) (nn f) F f (k :: ks) cargs))
theorem inlW_ok {P : Program} (hm : P.follows .mixedOrders = true) {nn : FuncId → Nat} {F : Nat} {cs : CS} (hcs : CSOk P cs) : ∀ n, CSOk P (inlW P nn F cs n)
  | 0 => hcs
  | n + 1 => fun f args e h => by
    have ih := inlW_ok hm (nn := nn) (F := F) hcs n
    simp only [inlW] at h
    split at h
    · rename_i e' he
      cases h
      exact hcs f args e he
    · split at h
      · cases h
      · rename_i cargs ns hcan
        split at h
        · split at h
          · rename_i v H' fr' hr
            cases hb : (allV args && ltV 0 v) <;> rw [hb] at h <;> simp only [cond_true, cond_false] at h
            · cases h
              exact orE_ok (callOk_view ih hm hcan) (callOk_viewN ih hm hcan)
            · cases h
              simp only [Bool.and_eq_true] at hb
              exact callOk_run ih hm hr hb.1 hb.2
          · cases h
            exact orE_ok (callOk_view ih hm hcan) (callOk_viewN ih hm hcan)
        · cases h
          exact orE_ok (callOk_view ih hm hcan) (callOk_viewN ih hm hcan)
end Go.Eng

/- Engine, part 28: calls that hand back a new block and look at no globals. -/
namespace Go.Eng
set_option linter.unusedVariables false
set_option linter.unusedSimpArgs false
open Go
def viewN0 (P : Program) (cs : CS) (nn F : Nat) (f : FuncId) (ns : List Nat) (cargs : List AVal) : EffA :=
  .eff fun base η => match objsA η ns P.globals.size with
    | none => none
    | some Ho => match run1 P cs nn F f cargs (Ho) (P.globals.size + ns.length) with
      | none => none
      | some (v, H', _) => match backA η H' ns P.globals.size with
        | none => none
        | some us => match newN v with
          | none => none
          | some k => match aget H' k with
            | some (.cells false c) => match renV k 0 v with
              | none => none
              | some v1 => match renV 0 base v1 with
                | none => none
                | some v2 => cond (ltV 1 v1 && ltL 0 c && nodupB ns && Nat.ble (P.globals.size + ns.length) k) (some (v2, us ++ [(base, some (.cells false c))])) none
            | _ => none
theorem callOk_viewN0 {P : Program} {cs : CS} (hcs : CSOk P cs) (hm : P.follows .mixedOrders = true) {nn F : Nat} {f : FuncId} {args cargs : List AVal} {ns : List Nat} (hcan : canL P.globals.size [] args = some (cargs, ns)) : CallOk P f args (viewN0 P cs nn F f ns cargs) := by
  intro σ args' H w base v0 H0 hl hg hH happ hfree
  simp only [viewN0, EffA.app] at happ
  cases hobj : objsA (aget H) ns P.globals.size with
  | none => rw [hobj] at happ; cases happ
  | some Ho =>
  rw [hobj] at happ
  simp only at happ
  cases hrun : run1 P cs nn F f cargs (Ho) (P.globals.size + ns.length) with
  | none => rw [hrun] at happ; cases happ
  | some r =>
  obtain ⟨v, H', fr'⟩ := r
  rw [hrun] at happ
  simp only at happ
  cases hback : backA (aget H) H' ns P.globals.size with
  | none => rw [hback] at happ; cases happ
  | some us =>
  rw [hback] at happ
  simp only at happ
  cases hnew : newN v with
  | none => rw [hnew] at happ; cases happ
  | some k =>
  rw [hnew] at happ
  simp only at happ
  cases hblk : aget H' k with
  | none => rw [hblk] at happ; cases happ
  | some obk =>
  obtain ⟨rok, ck⟩ := obk
  cases rok with
  | true => rw [hblk] at happ; cases happ
  | false =>
  rw [hblk] at happ
  simp only at happ
  cases hr0 : renV k 0 v with
  | none => rw [hr0] at happ; cases happ
  | some v1 =>
  rw [hr0] at happ
  simp only at happ
  cases hr1 : renV 0 base v1 with
  | none => rw [hr1] at happ; cases happ
  | some v2 =>
  rw [hr1] at happ
  simp only at happ
  cases hcond : (ltV 1 v1 && ltL 0 ck && nodupB ns && Nat.ble (P.globals.size + ns.length) k) with
  | false => rw [hcond] at happ; cases happ
  | true =>
  rw [hcond] at happ
  simp only [cond_true, Option.some.injEq, Prod.mk.injEq] at happ
  obtain ⟨rfl, rfl⟩ := happ
  simp only [Bool.and_eq_true] at hcond
  obtain ⟨⟨⟨hv1, hck⟩, hnd⟩, hkk⟩ := hcond
  have hkk := Nat.le_of_ble_eq_true hkk
  have hnd := nodupB_ok hnd
  obtain ⟨fn, body, hf, hb, hrunF⟩ := run1_some hrun
  obtain ⟨u1, u2⟩ := backA_mem hback
  have husome : ∀ m x, (m, x) ∈ us → x.isSome = true := fun m x hx => by
    obtain ⟨c, i, c0, e, _⟩ := u1 m x hx
    rw [e]; rfl
  -- what the callee sees
  have heap : ∀ m o, aget (Ho) m = some o → ∃ n ro c, aget H n = some o ∧ o = .cells ro c ∧ ltL 0 c = true ∧ sigC P.globals.size ns σ m = σ n ∧ ((m < P.globals.size ∧ n = m ∧ ro = true) ∨ ∃ i, m = P.globals.size + i ∧ ns[i]? = some n) := fun m o hmo => by
    obtain ⟨a1, n, a2, a3, ro, c, a4, a5⟩ := objsA_get hobj m o hmo
    have e : m = P.globals.size + (m - P.globals.size) := by omega
    refine ⟨n, ro, c, a3, a4, a5, ?_, .inr ⟨m - P.globals.size, e, a2⟩⟩
    rw [e]
    exact sigC_at a2
  have hgc : GRel P (sigC P.globals.size ns σ) := fun g hgl => by
    obtain ⟨sz, hs⟩ := hg g hgl
    exact ⟨sz, by unfold sigC; rw [if_pos hgl]; exact hs⟩
  have hfr : Fresh (sigC P.globals.size ns σ) (P.globals.size + ns.length) := fun m hm' => by
    unfold sigC
    rw [if_neg (by omega), List.getElem?_eq_none (by omega)]
  obtain ⟨_, hlen, hcv⟩ := canL_ok hcan
  have hlc : LR (sigC P.globals.size ns σ) cargs args' := by
    refine ⟨by rw [hlen]; exact hl.1, fun i u u' h1 h2 => ?_⟩
    have := hcv [] σ i u u' h1 fun x hx => hl.2 i x u' hx h2
    rwa [List.append_nil] at this
  have hHc : HRel (sigC P.globals.size ns σ) (aget (Ho)) w := by
    refine ⟨fun m o hmo => ?_, fun m m' o o' q q' h1 h2 hq hq' he => ?_⟩
    · obtain ⟨n, ro, c, a1, rfl, a3, a4, _⟩ := heap m o hmo
      obtain ⟨p, hp, hor⟩ := hH.obj n _ a1
      exact ⟨p, by rw [a4]; exact hp, hor.plain a3⟩
    · obtain ⟨n, ro, c, a1, rfl, a3, a4, a5⟩ := heap m o h1
      obtain ⟨n', ro', c', b1, rfl, b3, b4, b5⟩ := heap m' o' h2
      rw [a4] at hq
      rw [b4] at hq'
      rcases hH.inj n n' _ _ q q' a1 b1 hq hq' he with e | e
      · subst e
        rw [a1] at b1
        cases b1
        rcases a5 with ⟨x1, x2, x3⟩ | ⟨i, x1, x2⟩ <;> rcases b5 with ⟨y1, y2, y3⟩ | ⟨j, y1, y2⟩
        · exact .inl (by omega)
        · subst x3; exact .inr ⟨rfl, rfl⟩
        · subst y3; exact .inr ⟨rfl, rfl⟩
        · left
          have h3 := (List.getElem?_eq_some_iff.1 x2)
          have h4 := (List.getElem?_eq_some_iff.1 y2)
          obtain ⟨hi, ei⟩ := h3
          obtain ⟨hj, ej⟩ := h4
          have : i = j := (List.getElem_inj hnd).1 (ei.trans ej.symm)
          omega
      · exact .inr e
  refine (runF_ok hcs hm hf hb hrunF hlc hHc hgc hfr).mono fun r w' hrw => ?_
  obtain ⟨σ', v', rfl, g1, g2, g3, g4⟩ := hrw
  -- what the callee may write, the caller may
  have hown : ∀ b, Own (sigC P.globals.size ns σ) (aget (Ho)) b → ∃ n c p, n ∈ ns ∧ aget H n = some (.cells false c) ∧ σ n = some p ∧ p.blk = b := fun b ⟨m, o, p, a1, a2, a3, a4⟩ => by
    obtain ⟨n, ro, c, b1, rfl, b3, b4, b5⟩ := heap m o a1
    have hro : ro = false := a2
    subst hro
    rw [b4] at a3
    rcases b5 with ⟨_, _, x⟩ | ⟨i, _, x⟩
    · cases x
    · exact ⟨n, c, p, List.mem_of_getElem? x, b1, a3, a4⟩
  have hold : ∀ b, b < w.heap.size → (∀ n c p, n ∈ ns → aget H n = some (.cells false c) → σ n = some p → p.blk ≠ b) → w'.heap[b]? = w.heap[b]? := fun b hb hne =>
    (g3.old b hb fun ho => by
      obtain ⟨n, c, p, a1, a2, a3, a4⟩ := hown b ho
      exact hne n c p a1 a2 a3 a4).1
  have orig : ∀ m ob, aget (appU H us) m = some ob → ∃ ob0, aget H m = some ob0 ∧ ob0.ro = ob.ro := fun m ob hmo => by
    rcases appU_get husome (H := H) m with ⟨o, a1, a2⟩ | ⟨_, a2⟩
    · obtain ⟨c, i, c0, e1, _, _, _, e5⟩ := u1 m _ a1
      rw [hmo] at a2
      cases a2
      cases e1
      exact ⟨_, e5, rfl⟩
    · exact ⟨ob, by rw [← a2]; exact hmo, rfl⟩
  have hbn : σ base = none := hfree 0 (by omega)
  obtain ⟨pk, hpk, hork⟩ := g2.obj k _ hblk
  have ownk : Own σ' (aget H') pk.blk := ⟨k, _, pk, hblk, rfl, hpk, rfl⟩
  -- the new block is none of the caller's
  have fresh : ∀ m ob q, aget H m = some ob → σ m = some q → q.blk ≠ pk.blk := fun m ob q hmo hq he => by
    obtain ⟨q', hq', hor⟩ := hH.obj m ob hmo
    rw [hq] at hq'; cases hq'
    by_cases hin : ∃ c, m ∈ ns ∧ ob = .cells false c
    · obtain ⟨c, h1, rfl⟩ := hin
      obtain ⟨x, hx⟩ := u2 m c h1 hmo
      obtain ⟨c1, i, c0, e1, e2, e3, e4, e5⟩ := u1 m x hx
      have hq2 : σ' (P.globals.size + i) = some q := g3.ext _ _ (by rw [sigC_at e3]; exact hq)
      rcases g2.inj _ _ _ _ _ _ e4 hblk hq2 hpk he with e | ⟨e, _⟩
      · have := (List.getElem?_eq_some_iff.1 e3).1
        omega
      · cases e
    · refine (g3.old q.blk hor.lt fun ho => ?_).2 (he ▸ ownk)
      obtain ⟨n, c, p, a1, a2, a3, a4⟩ := hown _ ho
      rcases hH.inj n m _ ob p q a2 hmo a3 hq a4 with e | ⟨e, _⟩
      · subst e
        rw [a2] at hmo
        cases hmo
        exact hin ⟨c, a1, rfl⟩
      · cases e
  have hbase : aget (appU H us) base = none := by
    cases hb : aget (appU H us) base with
    | none => rfl
    | some ob =>
      obtain ⟨ob0, h1, _⟩ := orig base ob hb
      obtain ⟨p, hp, _⟩ := hH.obj base ob0 h1
      rw [hbn] at hp; cases hp
  have app : ∀ m, aget (appU H (us ++ [(base, some (.cells false ck))])) m = if base = m then some (.cells false ck) else aget (appU H us) m := fun m => by
    rw [appU_append husome]
    simp only [appU]
    rw [aget_aset]
  have vr : VR (σ.set base pk) v2 v' := by
    have h1 := ltV_ok hv1 (renV_ok hr0 g1)
    refine (renV_ok hr1 h1).mono fun n p hp => ?_
    unfold Sig.ren at hp
    split at hp
    · rename_i e
      subst e
      have hp1 := cut_le 1 (Sig.ren k 0 σ') 0 p hp
      have hp2 : σ' k = some p := by simpa [Sig.ren] using hp1
      rw [hpk] at hp2; cases hp2
      exact Sig.set_same σ n _
    · split at hp
      · cases hp
      · rename_i e1 e2
        simp only [Go.Eng.cut] at hp
        rw [if_neg (by omega)] at hp
        cases hp
  have base0 : HRel σ (aget (appU H us)) w' := by
    refine ⟨fun m ob hmo => ?_, fun m1 m2 o1 o2 q1 q2 h1 h2 hq1 hq2 he => ?_⟩
    · rcases appU_get husome (H := H) m with ⟨o, a1, a2⟩ | ⟨a1, a2⟩
      · obtain ⟨c, i, c0, e1, e2, e3, e4, e5⟩ := u1 m _ a1
        rw [hmo] at a2
        cases a2
        cases e1
        obtain ⟨p, hp, _⟩ := hH.obj m _ e5
        refine ⟨p, hp, ?_⟩
        obtain ⟨q, hq, hor⟩ := g2.obj _ _ e4
        have : q = p := Option.some.inj (hq.symm.trans (g3.ext _ _ (by rw [sigC_at e3]; exact hp)))
        subst this
        exact hor.plain e2
      · rw [a2] at hmo
        obtain ⟨p, hp, hor⟩ := hH.obj m ob hmo
        refine ⟨p, hp, hor.mono (Sig.le_refl σ) (hold _ hor.lt fun n c q k1 k2 k3 k4 => ?_)⟩
        rcases hH.inj n m _ ob q p k2 hmo k3 hp k4 with e | ⟨e, _⟩
        · subst e
          obtain ⟨x, hx⟩ := u2 n c k1 k2
          exact a1 x hx
        · cases e
    · obtain ⟨x1, y1, z1⟩ := orig m1 o1 h1
      obtain ⟨x2, y2, z2⟩ := orig m2 o2 h2
      rcases hH.inj m1 m2 x1 x2 q1 q2 y1 y2 hq1 hq2 he with e | ⟨e1, e2⟩
      · exact .inl e
      · exact .inr ⟨z1 ▸ e1, z2 ▸ e2⟩
  refine ⟨σ.set base pk, v', rfl, vr, ⟨fun m ob hmo => ?_, fun m1 m2 o1 o2 q1 q2 h1 h2 hq1 hq2 he => ?_⟩, ⟨Sig.le_set hbn pk, g3.size, g3.os, g3.output, g3.tape, fun b hb hno => ⟨hold b hb fun n c p k1 k2 k3 k4 => hno ⟨n, _, p, k2, rfl, k3, k4⟩, ?_⟩⟩, fun n hn => Sig.set_other σ _ (by omega)⟩
  · rw [app] at hmo
    split at hmo
    · rename_i e
      subst e
      cases hmo
      exact ⟨pk, Sig.set_same σ base pk, hork.plain hck⟩
    · rename_i e
      obtain ⟨p, hp, hor⟩ := base0.obj m ob hmo
      exact ⟨p, by rw [Sig.set_other σ _ (Ne.symm e)]; exact hp, hor.mono (Sig.le_set hbn pk) rfl⟩
  · rw [app] at h1 h2
    split at h1 <;> split at h2
    · rename_i e1 e2; exact .inl (e1.symm.trans e2)
    · rename_i e1 e2
      subst e1
      rw [Sig.set_same] at hq1; cases hq1
      rw [Sig.set_other σ _ (Ne.symm e2)] at hq2
      obtain ⟨x2, y2, _⟩ := orig m2 o2 h2
      exact absurd he.symm (fresh m2 x2 q2 y2 hq2)
    · rename_i e1 e2
      subst e2
      rw [Sig.set_same] at hq2; cases hq2
      rw [Sig.set_other σ _ (Ne.symm e1)] at hq1
      obtain ⟨x1, y1, _⟩ := orig m1 o1 h1
      exact absurd he (fresh m1 x1 q1 y1 hq1)
    · rename_i e1 e2
      rw [Sig.set_other σ _ (Ne.symm e1)] at hq1
      rw [Sig.set_other σ _ (Ne.symm e2)] at hq2
      exact base0.inj m1 m2 o1 o2 q1 q2 h1 h2 hq1 hq2 he
  · rintro ⟨m, o, q, k1, k2, k3, k4⟩
    rw [app] at k1
    split at k1
    · rename_i e
      subst e
      rw [Sig.set_same] at k3; cases k3
      refine (g3.old b hb fun ho => ?_).2 (k4 ▸ ownk)
      obtain ⟨n, c, p, a1, a2, a3, a4⟩ := hown b ho
      exact hno ⟨n, _, p, a2, rfl, a3, a4⟩
    · rename_i e
      rw [Sig.set_other σ _ (Ne.symm e)] at k3
      obtain ⟨x1, y1, z1⟩ := orig m o k1
      exact hno ⟨m, x1, q, y1, by rw [z1]; exact k2, k3, k4⟩

/-- A call of plain data that hands back a slice of a new block. -/
theorem callOk_new {P : Program} {cs : CS} (hcs : CSOk P cs) (hm : P.follows .mixedOrders = true) {nn F : Nat} {f : FuncId} {args : List AVal} {k len esz fr : Nat} {H' : HL} {c : List AVal} (hcan : canL P.globals.size [] args = some (args, []))
    (hrun : run1 P cs nn F f args [] P.globals.size = some (.slice k 0 len esz, H', fr)) (hk : aget H' k = some (.cells false c)) (hc : ltL 0 c = true) (hg : Nat.ble P.globals.size k = true) : CallOk P f args (.alloc (.cells false c) fun b => .slice b 0 len esz) := by
  refine (callOk_viewN0 hcs hm (nn := nn) (F := F) (f := f) hcan).less fun base H r hr => ?_
  simp only [EffA.app, Option.some.injEq] at hr
  subst hr
  have e1 : renV k 0 (.slice k 0 len esz) = some (.slice 0 0 len esz) := by
    simp only [renV, renS, renN, Nat.beq_refl, cond_true]
  have e2 : renV 0 base (.slice 0 0 len esz) = some (.slice base 0 len esz) := by
    simp only [renV, renS, renN, Nat.beq_refl, cond_true]
  have e3 : ltV 1 (.slice 0 0 len esz) = true := rfl
  simp only [viewN0, EffA.app, objsA, List.length_nil, Nat.add_zero, hrun, backA, newN, hk, e1, e2, e3, hc, nodupB, hg, Bool.and_self, cond_true, List.nil_append, appU]
end Go.Eng
namespace Go.Eng
set_option linter.unusedVariables false
set_option linter.unusedSimpArgs false
open Go
/-- The new block that a call hands back. -/
def newR (x : Option (AVal × HL × Nat)) : Option (Nat × Nat × Nat × List AVal) :=
  match x with
  | some (.slice k 0 len esz, H', _) => match aget H' k with
    | some (.cells false c) => some (k, len, esz, c)
    | _ => none
  | _ => none
theorem callOk_new2 {P : Program} {cs : CS} (hcs : CSOk P cs) (hm : P.follows .mixedOrders = true) {nn F : Nat} {f : FuncId} {args : List AVal} {k len esz : Nat} {c : List AVal} (hcan : canL P.globals.size [] args = some (args, []))
    (hrun : newR (run1 P cs nn F f args [] P.globals.size) = some (k, len, esz, c)) (hc : ltL 0 c = true) (hg : Nat.ble P.globals.size k = true) : CallOk P f args (.alloc (.cells false c) fun b => .slice b 0 len esz) := by
  unfold newR at hrun
  split at hrun
  · rename_i k' len' esz' H' fr hr
    split at hrun
    · rename_i c' hk
      simp only [Option.some.injEq, Prod.mk.injEq] at hrun
      obtain ⟨rfl, rfl, rfl, rfl⟩ := hrun
      exact callOk_new hcs hm hcan hr hk hc hg
    · cases hrun
  · cases hrun
end Go.Eng

/- Engine, part 30: functions with a loop, tests foretold from the beginning to the end. -/
namespace Go.Eng
set_option linter.unusedVariables false
set_option linter.unusedSimpArgs false
open Go
/-- A loop's end and what stands behind it. -/
noncomputable def endO (P : Program) (ps : PS) (cs : CS) (sy : List Nat) (fn : Func) (nn F bs id : Nat) (b : Code) (l : List Code) (s : SA) (q : OS) : Option (AVal × List Bool) :=
  match evT P ps cs sy fn.ntmps nn F bs b s q with
  | some (.exit id', s1, q1) => cond (Nat.beq id' id) (ansF P fn (evSO P ps cs sy fn.ntmps nn F bs l s1 q1)) none
  | _ => none
theorem ansF_ok2 {P : Program} {ps : PS} {cs : CS} (hps : PSOk ps cs) {sy : List Nat} {fn : Func} {nt nn F bs : Nat} {l : List Code} {s : SA} {q : OS} {v : AVal} {ob : List Bool} (h : ansF P fn (evSO P ps cs sy nt nn F bs l s q) = some (v, ob)) (ha : allT ob = true) : finV P fn (evS P cs nt nn F bs l s) = some v ∧ allT q.ob = true := by
  cases hx : evSO P ps cs sy nt nn F bs l s q with
  | none => rw [hx] at h; cases h
  | some r =>
    obtain ⟨x, s', q'⟩ := r
    rw [hx] at h
    have hq : q'.ob = ob := by
      unfold ansF at h
      cases hv : finV P fn (some (x, s')) with
      | none => simp only [hv] at h; cases h
      | some u =>
        simp only [hv, Option.some.injEq, Prod.mk.injEq] at h
        exact h.2
    have h2 := evSO_ok hps l s q x s' q' hx (by rw [hq]; exact ha)
    refine ⟨?_, h2.2⟩
    rw [h2.1]
    unfold ansF at h
    cases hv : finV P fn (some (x, s')) with
    | none => simp only [hv] at h; cases h
    | some u =>
      simp only [hv, Option.some.injEq, Prod.mk.injEq] at h
      rw [h.1]
theorem endO_ok {P : Program} {ps : PS} {cs : CS} (hps : PSOk ps cs) {sy : List Nat} {fn : Func} {nn F bs id : Nat} {b : Code} {l : List Code} {s : SA} {os : List Bool} {vs : List AVal} {v : AVal} {ob : List Bool} (h : endO P ps cs sy fn nn F bs id b l s ⟨os, vs, []⟩ = some (v, ob)) (ha : allT ob = true) :
    ∃ s1, evC P cs fn.ntmps nn F bs b s = some (.exit id, s1) ∧ finV P fn (evS P cs fn.ntmps nn F bs l s1) = some v := by
  unfold endO at h
  split at h
  · rename_i id' s1 q1 he
    cases hb : Nat.beq id' id with
    | false => rw [hb] at h; cases h
    | true =>
      rw [hb, cond_true] at h
      have := Nat.eq_of_beq_eq_true hb
      subst this
      obtain ⟨h1, h2⟩ := ansF_ok2 hps h ha
      exact ⟨s1, (evT_ok hps b _ _ _ _ _ he h2).1, h1⟩
  · cases h
theorem segO_pre {P : Program} {ps : PS} {cs : CS} (hps : PSOk ps cs) {sy : List Nat} {nt nn F bs : Nat} {l : List Code} {s s' : SA} {os : List Bool} {vs : List AVal} {ob : List Bool} (h : segO (evSO P ps cs sy nt nn F bs l s ⟨os, vs, []⟩) = some (s', ob)) (ha : allT ob = true) : evS P cs nt nn F bs l s = some (.normal, s') := by
  unfold segO at h
  split at h
  · rename_i s1 q he
    simp only [Option.some.injEq, Prod.mk.injEq] at h
    obtain ⟨rfl, rfl⟩ := h
    exact (evSO_ok hps _ _ _ _ _ _ he ha).1
  · cases h
theorem run_loopO {P : Program} {ps : PS} {cs : CS} (hps : PSOk ps cs) {nn F : Nat} {f : FuncId} {fn : Func} {c : Code} {args : List AVal} {H : HL} {fr : Nat} (hf : P.funcs[f]? = some fn) (hb : fn.body = some c) (hn : Nat.ble args.length fn.ntmps = true)
    (k : Nat) {id : Nat} {b : Code} (hk : (pieces c)[k]? = some (.block id (.loop b))) (I : Nat → SA) (N : Nat) {sy0 sy1 : List Nat} {os0 os1 : List Bool} {vs0 vs1 : List AVal} {ob0 ob1 : List Bool}
    (hpre : segO (evSO P ps cs sy0 fn.ntmps nn F fr ((pieces c).take k) ⟨startT args 0, H, fr⟩ ⟨os0, vs0, []⟩) = some (I 0, ob0)) (ha0 : allT ob0 = true)
    (hstep : ∀ j, j < N → roundA (evC P cs fn.ntmps nn F fr b) (headA P fr (I 0)) (I j) = some (I (j + 1)))
    {v : AVal} (hend : endO P ps cs sy1 fn nn F fr id b ((pieces c).drop (k + 1)) (I N) ⟨os1, vs1, []⟩ = some (v, ob1)) (ha1 : allT ob1 = true) (hF : N < F) : (run1 P cs nn F f args H fr).map (·.1) = some v := by
  obtain ⟨s1, h1, h2⟩ := endO_ok hps hend ha1
  exact run_loop hf hb hn k hk I N (segO_pre hps hpre ha0) hstep h1 hF h2
theorem flatMap_at {α β : Type} {f : α → List β} {k : Nat} (hf : ∀ x, (f x).length = k) : ∀ {l : List α} {i : Nat} {x : α} {j : Nat}, l[i]? = some x → j < k → (l.flatMap f)[i * k + j]? = (f x)[j]?
  | [], i, x, j, h, _ => by simp at h
  | y :: l, 0, x, j, h, hj => by
    simp only [List.getElem?_cons_zero, Option.some.injEq] at h
    subst h
    rw [List.flatMap_cons, Nat.zero_mul, Nat.zero_add, List.getElem?_append_left (by rw [hf]; exact hj)]
  | y :: l, i + 1, x, j, h, hj => by
    rw [List.getElem?_cons_succ] at h
    have := flatMap_at hf (i := i) h hj
    rw [List.flatMap_cons, List.getElem?_append_right (by rw [hf, Nat.succ_mul]; omega), hf, ← this]
    congr 1
    rw [Nat.succ_mul]; omega
theorem isAt_of {c : List AVal} {off : Nat} {v : AVal} (h : c[off]? = some v) (hv : eqS v v = true) : isAt c off v = true := by
  unfold isAt
  rw [h]; exact hv
end Go.Eng

/- Engine, part 31: a loop that is left by a return. -/
namespace Go.Eng
set_option linter.unusedVariables false
set_option linter.unusedSimpArgs false
open Go
theorem evS_loopR {P : Program} {cs : CS} {nt nn F bs : Nat} {l : List Code} {k id : Nat} {b : Code} (hk : l[k]? = some (.block id (.loop b))) (I : Nat → SA) (N : Nat) {s1 : SA} (hstep : ∀ k, k < N → roundA (evC P cs nt nn F bs b) (headA P bs (I 0)) (I k) = some (I (k + 1)))
    (hend : evC P cs nt nn F bs b (I N) = some (.ret, s1)) (hF : N < F) : evS P cs nt nn F bs (l.drop k) (I 0) = some (.ret, s1) := by
  have hlt := (List.getElem?_eq_some_iff.1 hk).1
  have e : l.drop k = .block id (.loop b) :: l.drop (k + 1) := by
    rw [List.drop_eq_getElem_cons hlt]
    rw [List.getElem?_eq_getElem hlt] at hk
    rw [Option.some.inj hk]
  rw [e]
  simp only [evS, evC_loop_ret I N (fun k h => roundA_some (hstep k h)) hend hF]
/-- A round that returns. -/
noncomputable def retO (P : Program) (ps : PS) (cs : CS) (sy : List Nat) (fn : Func) (nn F bs : Nat) (b : Code) (s : SA) (q : OS) : Option (AVal × List Bool) :=
  match evT P ps cs sy fn.ntmps nn F bs b s q with
  | some (.ret, s1, q1) => match finV P fn (some (.ret, s1)) with
    | some v => some (v, q1.ob)
    | none => none
  | _ => none
theorem retO_ok {P : Program} {ps : PS} {cs : CS} (hps : PSOk ps cs) {sy : List Nat} {fn : Func} {nn F bs : Nat} {b : Code} {s : SA} {os : List Bool} {vs : List AVal} {v : AVal} {ob : List Bool} (h : retO P ps cs sy fn nn F bs b s ⟨os, vs, []⟩ = some (v, ob)) (ha : allT ob = true) :
    ∃ s1, evC P cs fn.ntmps nn F bs b s = some (.ret, s1) ∧ finV P fn (some (.ret, s1)) = some v := by
  unfold retO at h
  split at h
  · rename_i s1 q1 he
    split at h
    · rename_i u hu
      simp only [Option.some.injEq, Prod.mk.injEq] at h
      obtain ⟨rfl, rfl⟩ := h
      exact ⟨s1, (evT_ok hps b _ _ _ _ _ he ha).1, hu⟩
    · cases h
  · cases h
theorem run_loopR {P : Program} {ps : PS} {cs : CS} (hps : PSOk ps cs) {nn F : Nat} {f : FuncId} {fn : Func} {c : Code} {args : List AVal} {H : HL} {fr : Nat} (hf : P.funcs[f]? = some fn) (hb : fn.body = some c) (hn : Nat.ble args.length fn.ntmps = true)
    (k : Nat) {id : Nat} {b : Code} (hk : (pieces c)[k]? = some (.block id (.loop b))) (I : Nat → SA) (N : Nat) {sy0 sy1 : List Nat} {os0 os1 : List Bool} {vs0 vs1 : List AVal} {ob0 ob1 : List Bool}
    (hpre : segO (evSO P ps cs sy0 fn.ntmps nn F fr ((pieces c).take k) ⟨startT args 0, H, fr⟩ ⟨os0, vs0, []⟩) = some (I 0, ob0)) (ha0 : allT ob0 = true)
    (hstep : ∀ j, j < N → roundA (evC P cs fn.ntmps nn F fr b) (headA P fr (I 0)) (I j) = some (I (j + 1)))
    {v : AVal} (hend : retO P ps cs sy1 fn nn F fr b (I N) ⟨os1, vs1, []⟩ = some (v, ob1)) (ha1 : allT ob1 = true) (hF : N < F) : (run1 P cs nn F f args H fr).map (·.1) = some v := by
  obtain ⟨s1, h1, h2⟩ := retO_ok hps hend ha1
  rw [run1_val hf hb hn, ← h2]
  congr 1
  have e : pieces c = (pieces c).take k ++ (pieces c).drop k := (List.take_append_drop k (pieces c)).symm
  rw [e, evS_append (segO_pre hps hpre ha0), evS_loopR hk I N hstep h1 hF]
end Go.Eng

/- Engine, part 38: blocks of words that are known as a function of the place. -/
namespace Go.Eng
set_option linter.unusedVariables false
set_option linter.unusedSimpArgs false
open Go
def cellsU (n : Nat) (f : Nat → UInt64) : List AVal := (List.range n).map fun j => .u64 (f j)
def cellsB (n : Nat) (f : Nat → UInt8) : List AVal := (List.range n).map fun j => .u8 (f j)
def updF {α : Type} (w : Nat → α) (k : Nat) (v : α) : Nat → α := fun j => if j = k then v else w j
theorem cellsU_len {n : Nat} {f : Nat → UInt64} : (cellsU n f).length = n := by simp [cellsU]
theorem cellsB_len {n : Nat} {f : Nat → UInt8} : (cellsB n f).length = n := by simp [cellsB]
theorem cellsU_at {n i : Nat} (f : Nat → UInt64) (h : i < n) : (cellsU n f)[i]? = some (.u64 (f i)) := by simp [cellsU, h]
theorem cellsB_at {n i : Nat} (f : Nat → UInt8) (h : i < n) : (cellsB n f)[i]? = some (.u8 (f i)) := by simp [cellsB, h]
theorem off_nat (i : Nat) : 0 + ((i : Int).toNat * 1) = i := by simp
theorem eqS_u64 (x : UInt64) : eqS (.u64 x) (.u64 x) = true := by simp [eqS]
theorem eqS_u8 (x : UInt8) : eqS (.u8 x) (.u8 x) = true := by simp [eqS]
theorem eqS_int (k : IntKind) (x : Int) : eqS (.int k x) (.int k x) = true := by simp [eqS]
theorem eqS_i64 {x y : Int} (h : IntKind.wrap .i64 x = y) : eqS (.int .i64 (IntKind.wrap .i64 x)) (.int .i64 y) = true := by rw [h]; exact eqS_int ..
theorem isAt_get {c : List AVal} {i : Nat} {x : UInt64} (h : c[i]? = some (.u64 x)) : isAt c (0 + ((i : Int).toNat * 1)) (.u64 x) = true := by
  rw [off_nat]; exact isAt_of h (eqS_u64 x)
theorem isAt_cellsU {n i : Nat} (f : Nat → UInt64) (h : i < n) : isAt (cellsU n f) (0 + ((i : Int).toNat * 1)) (.u64 (f i)) = true := isAt_get (cellsU_at f h)
theorem set_cellsU {n i : Nat} (f : Nat → UInt64) (v : UInt64) (h : i < n) : (cellsU n f).set i (.u64 v) = cellsU n (updF f i v) := by
  apply List.ext_getElem?
  intro j
  by_cases hj : j < n
  · rw [cellsU_at _ hj]
    by_cases e : i = j
    · subst e
      rw [List.getElem?_set_self (by rw [cellsU_len]; exact h)]
      simp [updF]
    · rw [List.getElem?_set_ne e, cellsU_at _ hj]
      simp [updF, Ne.symm e]
  · rw [List.getElem?_eq_none (by rw [List.length_set, cellsU_len]; omega), List.getElem?_eq_none (by rw [cellsU_len]; omega)]
theorem set_cellsB {n i : Nat} (f : Nat → UInt8) (v : UInt8) (h : i < n) : (cellsB n f).set i (.u8 v) = cellsB n (updF f i v) := by
  apply List.ext_getElem?
  intro j
  by_cases hj : j < n
  · rw [cellsB_at _ hj]
    by_cases e : i = j
    · subst e
      rw [List.getElem?_set_self (by rw [cellsB_len]; exact h)]
      simp [updF]
    · rw [List.getElem?_set_ne e, cellsB_at _ hj]
      simp [updF, Ne.symm e]
  · rw [List.getElem?_eq_none (by rw [List.length_set, cellsB_len]; omega), List.getElem?_eq_none (by rw [cellsB_len]; omega)]
theorem putA_set {c : List AVal} {i : Nat} (v : AVal) (hv : cellsA v = [v]) (h : i < c.length) : putA c i (cellsA v) = c.set i v := by
  unfold putA
  rw [hv, List.set_eq_take_append_cons_drop, if_pos h]
  simp
theorem putA_cellsU {n i : Nat} (f : Nat → UInt64) (v : UInt64) (h : i < n) : putA (cellsU n f) (0 + ((i : Int).toNat * 1)) (cellsA (.u64 v)) = cellsU n (updF f i v) := by
  rw [off_nat, putA_set _ rfl (by rw [cellsU_len]; exact h), set_cellsU f v h]
theorem getD_cellsB {n i : Nat} (f : Nat → UInt8) (h : i < n) : (cellsB n f).getD i (.bool false) = .u8 (f i) := by
  rw [List.getD_eq_getElem?_getD, cellsB_at f h]; rfl
theorem getD_cellsU {n i : Nat} (f : Nat → UInt64) (h : i < n) : (cellsU n f).getD i (.bool false) = .u64 (f i) := by
  rw [List.getD_eq_getElem?_getD, cellsU_at f h]; rfl
theorem cellsU_congr {n : Nat} {f g : Nat → UInt64} (h : ∀ i, i < n → f i = g i) : cellsU n f = cellsU n g := by
  unfold cellsU
  exact List.map_congr_left fun i hi => by rw [h i (List.mem_range.1 hi)]
theorem cellsB_congr {n : Nat} {f g : Nat → UInt8} (h : ∀ i, i < n → f i = g i) : cellsB n f = cellsB n g := by
  unfold cellsB
  exact List.map_congr_left fun i hi => by rw [h i (List.mem_range.1 hi)]
/-- What a function with no more pieces hands back. -/
theorem run1_fin {P : Program} {cs : CS} {nn F : Nat} {f : FuncId} {fn : Func} {c : Code} {args : List AVal} {H : HL} {fr : Nat} (hf : P.funcs[f]? = some fn) (hb : fn.body = some c) (hn : Nat.ble args.length fn.ntmps = true)
    {x : XA} {s : SA} (he : evS P cs fn.ntmps nn F fr (pieces c) ⟨startT args 0, H, fr⟩ = some (x, s)) (hx : x = .normal ∨ x = .ret) {vs : List AVal} (hr : resA P s.T s.H fn.results.toList = some vs) (h1 : vs.length ≠ 1) : run1 P cs nn F f args H fr = some (.tup vs, s.H, s.fr) := by
  unfold run1
  simp only [hf, hb]
  unfold runF
  rw [hn, evC_pieces, he]
  rcases hx with rfl | rfl
  all_goals
    simp only [cond_true, hr]
    match vs, h1 with
    | [], _ => rfl
    | [_], h => exact absurd rfl h
    | _ :: _ :: _, _ => rfl
end Go.Eng

/- Engine, part 39: calls on one block, whose form is looked at; words and bytes of a block. -/
namespace Go.Eng
set_option linter.unusedVariables false
set_option linter.unusedSimpArgs false
open Go
/-- What a call does with the one block that it is handed. -/
def oneE (n : Nat) (k : (Nat → Option AObj) → List AVal → Option (AVal × List AVal)) : EffA :=
  .eff fun _ η => match η n with
    | some (.cells false c) => match k η c with
      | some (v, c') => some (v, [(n, some (.cells false c'))])
      | none => none
    | _ => none
theorem callOk_one {P : Program} {cs : CS} (hcs : CSOk P cs) (hm : P.follows .mixedOrders = true) {f : FuncId} {args cargs : List AVal} {n : Nat} (hcan : canL P.globals.size [] args = some (cargs, [n])) {k : (Nat → Option AObj) → List AVal → Option (AVal × List AVal)}
    (h : ∀ η c v c', k η c = some (v, c') → ltL 0 c = true ∧ ltL 0 c' = true ∧ ltV 0 v = true ∧ ∃ F nn H' fr', run1 P cs nn F f cargs (globA η P.globals.size 0 ++ [(P.globals.size, .cells false c)]) (P.globals.size + 1) = some (v, H', fr') ∧ aget H' P.globals.size = some (.cells false c')) : CallOk P f args (oneE n k) := by
  intro σ args' H w base v0 H0 hl hg hH happ hfree
  unfold oneE EffA.app at happ
  simp only at happ
  cases hn : aget H n with
  | none => rw [hn] at happ; cases happ
  | some ob =>
    obtain ⟨ro, c⟩ := ob
    rw [hn] at happ
    cases ro with
    | true => cases happ
    | false =>
      simp only at happ
      cases hk : k (aget H) c with
      | none => rw [hk] at happ; cases happ
      | some r =>
        obtain ⟨v, c'⟩ := r
        rw [hk] at happ
        simp only [Option.some.injEq, Prod.mk.injEq] at happ
        obtain ⟨rfl, rfl⟩ := happ
        obtain ⟨h1, h2, h3, F, nn, H', fr', h4, h5⟩ := h (aget H) c v c' hk
        refine callOk_view hcs hm (nn := nn) (F := F) hcan σ args' H w base v _ hl hg hH ?_ hfree
        unfold viewE EffA.app
        simp only [objsA, hn, h1, cond_true]
        have h4' : run1 P cs nn F f cargs (globA (aget H) P.globals.size 0 ++ [(P.globals.size, .cells false c)]) (P.globals.size + [n].length) = some (v, H', fr') := h4
        rw [h4']
        simp only [backA, hn, h5, h2, cond_true, h3, nodupB, List.all_nil, Bool.and_self]
/-- What a function with one result hands back. -/
theorem run1_fin1 {P : Program} {cs : CS} {nn F : Nat} {f : FuncId} {fn : Func} {c : Code} {args : List AVal} {H : HL} {fr : Nat} (hf : P.funcs[f]? = some fn) (hb : fn.body = some c) (hn : Nat.ble args.length fn.ntmps = true)
    {x : XA} {s : SA} (he : evS P cs fn.ntmps nn F fr (pieces c) ⟨startT args 0, H, fr⟩ = some (x, s)) (hx : x = .normal ∨ x = .ret) {v : AVal} (hr : resA P s.T s.H fn.results.toList = some [v]) : run1 P cs nn F f args H fr = some (v, s.H, s.fr) := by
  unfold run1
  simp only [hf, hb]
  unfold runF
  rw [hn, evC_pieces, he]
  rcases hx with rfl | rfl
  all_goals simp only [cond_true, hr]
theorem psOne_ok {P : Program} {f : FuncId} {g : List AVal → Option (EffA × Bool)} (h : ∀ args e, g args = some (e, true) → CallOk P f args e) : CSOk P (csP (psOne f g)) := by
  intro f' args e he
  unfold csP psOne at he
  cases hf : Nat.beq f' f with
  | false => rw [hf] at he; cases he
  | true =>
    rw [hf] at he
    have hf := Nat.eq_of_beq_eq_true hf
    subst hf
    simp only at he
    cases hg : g args with
    | none => rw [hg] at he; cases he
    | some r =>
      obtain ⟨e', c⟩ := r
      rw [hg] at he
      cases c with
      | false => cases he
      | true => cases he; exact h args _ hg
/-! ### words and bytes of a block -/
def gU (c : List AVal) (j : Nat) : UInt64 := match c[j]? with
  | some (.u64 x) => x
  | _ => 0
def gB (c : List AVal) (j : Nat) : UInt8 := match c[j]? with
  | some (.u8 x) => x
  | _ => 0
def shU : Nat → List AVal → Option (List AVal)
  | 0, c => some c
  | n + 1, .u64 _ :: c => shU n c
  | _ + 1, _ => none
def shB : Nat → List AVal → Option (List AVal)
  | 0, c => some c
  | n + 1, .u8 _ :: c => shB n c
  | _ + 1, _ => none
theorem cellsU_succ (n : Nat) (f : Nat → UInt64) : cellsU (n + 1) f = .u64 (f 0) :: cellsU n fun j => f (j + 1) := by
  unfold cellsU
  rw [List.range_succ_eq_map, List.map_cons, List.map_map]; rfl
theorem cellsB_succ (n : Nat) (f : Nat → UInt8) : cellsB (n + 1) f = .u8 (f 0) :: cellsB n fun j => f (j + 1) := by
  unfold cellsB
  rw [List.range_succ_eq_map, List.map_cons, List.map_map]; rfl
theorem shU_ok : ∀ {n : Nat} {c r : List AVal}, shU n c = some r → c = cellsU n (gU c) ++ r
  | 0, c, r, h => by cases h; rfl
  | n + 1, [], r, h => by cases h
  | n + 1, .u64 x :: c, r, h => by
    have := shU_ok (n := n) (c := c) h
    rw [cellsU_succ]
    have e : cellsU n (fun j => gU (.u64 x :: c) (j + 1)) = cellsU n (gU c) := cellsU_congr fun i _ => by unfold gU; simp
    rw [e]
    show AVal.u64 x :: c = AVal.u64 x :: (cellsU n (gU c) ++ r)
    rw [← this]
  | n + 1, .bool _ :: c, r, h | n + 1, .u8 _ :: c, r, h | n + 1, .u32 _ :: c, r, h | n + 1, .b64 _ :: c, r, h | n + 1, .int _ _ :: c, r, h | n + 1, .str _ :: c, r, h | n + 1, .nilPtr :: c, r, h | n + 1, .ptr _ _ :: c, r, h | n + 1, .nilSlice :: c, r, h
  | n + 1, .slice _ _ _ _ :: c, r, h | n + 1, .nilMap :: c, r, h | n + 1, .map _ :: c, r, h | n + 1, .nilFunc :: c, r, h | n + 1, .fn _ _ :: c, r, h | n + 1, .nilIface :: c, r, h | n + 1, .iface _ _ :: c, r, h | n + 1, .agg _ :: c, r, h | n + 1, .tup _ :: c, r, h | n + 1, .tp _ _ _ :: c, r, h => by cases h
theorem shB_ok : ∀ {n : Nat} {c r : List AVal}, shB n c = some r → c = cellsB n (gB c) ++ r
  | 0, c, r, h => by cases h; rfl
  | n + 1, [], r, h => by cases h
  | n + 1, .u8 x :: c, r, h => by
    have := shB_ok (n := n) (c := c) h
    rw [cellsB_succ]
    have e : cellsB n (fun j => gB (.u8 x :: c) (j + 1)) = cellsB n (gB c) := cellsB_congr fun i _ => by unfold gB; simp
    rw [e]
    show AVal.u8 x :: c = AVal.u8 x :: (cellsB n (gB c) ++ r)
    rw [← this]
  | n + 1, .bool _ :: c, r, h | n + 1, .u64 _ :: c, r, h | n + 1, .u32 _ :: c, r, h | n + 1, .b64 _ :: c, r, h | n + 1, .int _ _ :: c, r, h | n + 1, .str _ :: c, r, h | n + 1, .nilPtr :: c, r, h | n + 1, .ptr _ _ :: c, r, h | n + 1, .nilSlice :: c, r, h
  | n + 1, .slice _ _ _ _ :: c, r, h | n + 1, .nilMap :: c, r, h | n + 1, .map _ :: c, r, h | n + 1, .nilFunc :: c, r, h | n + 1, .fn _ _ :: c, r, h | n + 1, .nilIface :: c, r, h | n + 1, .iface _ _ :: c, r, h | n + 1, .agg _ :: c, r, h | n + 1, .tup _ :: c, r, h | n + 1, .tp _ _ _ :: c, r, h => by cases h
/-- A function, of the first places alone. -/
def nU (k : Nat) (f : Nat → UInt64) : Nat → UInt64 := fun j => if j < k then f j else 0
def nB (k : Nat) (f : Nat → UInt8) : Nat → UInt8 := fun j => if j < k then f j else 0
theorem gU_cellsU (k : Nat) (f : Nat → UInt64) : gU (cellsU k f) = nU k f := by
  funext j
  unfold gU nU
  by_cases h : j < k
  · rw [cellsU_at f h, if_pos h]
  · rw [List.getElem?_eq_none (by rw [cellsU_len]; omega), if_neg h]
theorem gB_cellsB (k : Nat) (f : Nat → UInt8) : gB (cellsB k f) = nB k f := by
  funext j
  unfold gB nB
  by_cases h : j < k
  · rw [cellsB_at f h, if_pos h]
  · rw [List.getElem?_eq_none (by rw [cellsB_len]; omega), if_neg h]
theorem nU_nU (k : Nat) (f : Nat → UInt64) : nU k (nU k f) = nU k f := by
  funext j
  unfold nU
  by_cases h : j < k <;> simp [h]
theorem nB_nB (k : Nat) (f : Nat → UInt8) : nB k (nB k f) = nB k f := by
  funext j
  unfold nB
  by_cases h : j < k <;> simp [h]
theorem cellsU_nU (k : Nat) (f : Nat → UInt64) : cellsU k (nU k f) = cellsU k f := cellsU_congr fun i h => by unfold nU; rw [if_pos h]
theorem cellsB_nB (k : Nat) (f : Nat → UInt8) : cellsB k (nB k f) = cellsB k f := cellsB_congr fun i h => by unfold nB; rw [if_pos h]
end Go.Eng

/- Engine, part 40: calls that hand back a new block by a pointer; calls that look at the tables alone. -/
namespace Go.Eng
set_option linter.unusedVariables false
set_option linter.unusedSimpArgs false
open Go
/-- The new block that a call hands back. -/
def newP (x : Option (AVal × HL × Nat)) : Option (Nat × List AVal) :=
  match x with
  | some (.ptr k 0, H', _) => match aget H' k with
    | some (.cells false c) => some (k, c)
    | _ => none
  | _ => none
theorem callOk_newP {P : Program} {cs : CS} (hcs : CSOk P cs) (hm : P.follows .mixedOrders = true) {nn F : Nat} {f : FuncId} {args : List AVal} {k : Nat} {c : List AVal} (hcan : canL P.globals.size [] args = some (args, []))
    (hrun : newP (run1 P cs nn F f args [] P.globals.size) = some (k, c)) (hc : ltL 0 c = true) (hg : Nat.ble P.globals.size k = true) : CallOk P f args (.alloc (.cells false c) fun b => .ptr b 0) := by
  unfold newP at hrun
  split at hrun
  · rename_i k' H' fr hr
    split at hrun
    · rename_i c' hk
      simp only [Option.some.injEq, Prod.mk.injEq] at hrun
      obtain ⟨rfl, rfl⟩ := hrun
      refine (callOk_viewN0 hcs hm (nn := nn) (F := F) (f := f) hcan).less fun base H r hr2 => ?_
      simp only [EffA.app, Option.some.injEq] at hr2
      subst hr2
      have e1 : renV k' 0 (.ptr k' 0) = some (.ptr 0 0) := by
        simp only [renV, renS, renN, Nat.beq_refl, cond_true]
      have e2 : renV 0 base (.ptr 0 0) = some (.ptr base 0) := by
        simp only [renV, renS, renN, Nat.beq_refl, cond_true]
      have e3 : ltV 1 (.ptr 0 0) = true := rfl
      simp only [viewN0, EffA.app, objsA, List.length_nil, Nat.add_zero, hr, backA, newN, hk, e1, e2, e3, hc, nodupB, hg, Bool.and_self, cond_true, List.nil_append, appU]
    · cases hrun
  · cases hrun
/-- What a call makes of the tables alone. -/
def tabE (k : (Nat → Option AObj) → Option AVal) : EffA :=
  .eff fun _ η => match k η with
    | some v => some (v, [])
    | none => none
theorem callOk_tab {P : Program} {cs : CS} (hcs : CSOk P cs) (hm : P.follows .mixedOrders = true) {f : FuncId} {args : List AVal} (hcan : canL P.globals.size [] args = some (args, [])) {k : (Nat → Option AObj) → Option AVal}
    (h : ∀ η v, k η = some v → ltV 0 v = true ∧ ∃ F nn H' fr', run1 P cs nn F f args (globA η P.globals.size 0) P.globals.size = some (v, H', fr')) : CallOk P f args (tabE k) := by
  intro σ args' H w base v0 H0 hl hg hH happ hfree
  unfold tabE EffA.app at happ
  simp only at happ
  cases hk : k (aget H) with
  | none => rw [hk] at happ; cases happ
  | some v =>
    rw [hk] at happ
    simp only [Option.some.injEq, Prod.mk.injEq] at happ
    obtain ⟨rfl, rfl⟩ := happ
    obtain ⟨h3, F, nn, H', fr', h4⟩ := h (aget H) v hk
    refine callOk_view hcs hm (nn := nn) (F := F) hcan σ args' H w base v _ hl hg hH ?_ hfree
    unfold viewE EffA.app
    simp only [objsA, List.append_nil]
    have h4' : run1 P cs nn F f args (globA (aget H) P.globals.size 0) (P.globals.size + ([] : List Nat).length) = some (v, H', fr') := h4
    rw [h4']
    simp only [backA, h3, nodupB, cond_true, Bool.and_self]
end Go.Eng
namespace Go.Eng
set_option linter.unusedVariables false
set_option linter.unusedSimpArgs false
open Go
/-- A call on one block, without the tables. -/
theorem callOk_one0 {P : Program} {cs : CS} (hcs : CSOk P cs) (hm : P.follows .mixedOrders = true) {f : FuncId} {args cargs : List AVal} {n : Nat} (hcan : canL P.globals.size [] args = some (cargs, [n])) {k : List AVal → Option (AVal × List AVal)}
    (h : ∀ c v c', k c = some (v, c') → ltL 0 c = true ∧ ltL 0 c' = true ∧ ltV 0 v = true ∧ ∃ F nn H' fr', run1 P cs nn F f cargs [(P.globals.size, .cells false c)] (P.globals.size + 1) = some (v, H', fr') ∧ aget H' P.globals.size = some (.cells false c')) : CallOk P f args (oneE n fun _ => k) := by
  intro σ args' H w base v0 H0 hl hg hH happ hfree
  unfold oneE EffA.app at happ
  simp only at happ
  cases hn : aget H n with
  | none => rw [hn] at happ; cases happ
  | some ob =>
    obtain ⟨ro, c⟩ := ob
    rw [hn] at happ
    cases ro with
    | true => cases happ
    | false =>
      simp only at happ
      cases hk : k c with
      | none => rw [hk] at happ; cases happ
      | some r =>
        obtain ⟨v, c'⟩ := r
        rw [hk] at happ
        simp only [Option.some.injEq, Prod.mk.injEq] at happ
        obtain ⟨rfl, rfl⟩ := happ
        obtain ⟨h1, h2, h3, F, nn, H', fr', h4, h5⟩ := h c v c' hk
        refine callOk_view0 hcs hm (nn := nn) (F := F) hcan σ args' H w base v _ hl hg hH ?_ hfree
        unfold viewE0 EffA.app
        simp only [objsA, hn, h1, cond_true]
        have h4' : run1 P cs nn F f cargs [(P.globals.size, .cells false c)] (P.globals.size + [n].length) = some (v, H', fr') := h4
        rw [h4']
        simp only [backA, hn, h5, h2, cond_true, h3, nodupB, List.all_nil, Bool.and_self]
end Go.Eng

/- Engine, part 41: rounds at whose end blocks of plain data of unknown length bear new names. -/
namespace Go.Eng
set_option linter.unusedVariables false
set_option linter.unusedSimpArgs false
open Go
theorem renS_plain {m n : Nat} {v : AVal} (h : ltS 0 v = true) : renS m n v = some v := by
  have h0 : ∀ n : Nat, Nat.ble (n + 1) 0 = false := fun n => rfl
  cases v <;> first | rfl | (simp only [ltS, h0] at h; done) | skip
  all_goals simp only [ltS, h0] at h
  all_goals first | cases h | skip
  all_goals (rename_i cs; cases cs <;> first | rfl | cases h)
theorem renL_plain {m n : Nat} : ∀ {c : List AVal}, ltL 0 c = true → renL m n c = some c
  | [], _ => rfl
  | v :: c, h => by
    simp only [ltL] at h
    cases hv : ltS 0 v <;> rw [hv] at h <;> simp only [cond_true, cond_false] at h
    · cases h
    · simp only [renL, renS_plain hv, renL_plain h]
def memD (k : Nat) : List Nat → Bool
  | [] => false
  | m :: l => cond (Nat.beq k m) true (memD k l)
/-- As 'renH'; that the blocks named in 'dl' are plain data is asked. -/
def renHx (dl : List Nat) (m n : Nat) : HL → Option (HL × List Bool)
  | [] => some ([], [])
  | (k, .cells ro c) :: l => match renN m n k, renHx dl m n l with
    | some k', some (l', ob) => cond (memD k dl) (some ((k', .cells ro c) :: l', ltL 0 c :: ob)) (match renL m n c with
      | some c' => some ((k', .cells ro c') :: l', ob)
      | none => none)
    | _, _ => none
theorem renHx_ok {dl : List Nat} {m n : Nat} : ∀ {H H' : HL} {ob : List Bool}, renHx dl m n H = some (H', ob) → allT ob = true → renH m n H = some H'
  | [], H', ob, h, _ => by cases h; rfl
  | (k, .cells ro c) :: l, H', ob, h, ha => by
    simp only [renHx] at h
    split at h
    · rename_i k' l' ob' h1 h2
      cases hm : memD k dl <;> rw [hm] at h <;> simp only [cond_true, cond_false] at h
      · split at h
        · rename_i c' hc
          cases h
          simp only [renH, h1, hc, renHx_ok h2 ha]
        · cases h
      · cases h
        have := allT_cons ha
        simp only [renH, h1, renL_plain this.1, renHx_ok h2 this.2]
    · cases h
def ren1x (dl : List Nat) (P : Program) (bs m n : Nat) (s : SA) : Option (SA × List Bool) :=
  cond (Nat.ble bs m && Nat.ble bs n && Nat.ble P.globals.size bs && Nat.ble (n + 1) s.fr && !(Nat.beq m n)) (match renT m n s.T, renHx dl m n (adel s.H n) with
    | some T, some (H, ob) => some (⟨T, H, s.fr⟩, ob)
    | _, _ => none) none
theorem ren1x_ok {dl : List Nat} {P : Program} {bs m n : Nat} {s s' : SA} {ob : List Bool} (h : ren1x dl P bs m n s = some (s', ob)) (ha : allT ob = true) : ren1 P bs m n s = some s' := by
  unfold ren1x at h
  unfold ren1 ren0
  simp only at h ⊢
  cases hc : (Nat.ble bs m && Nat.ble bs n && Nat.ble P.globals.size bs && Nat.ble (n + 1) s.fr && !(Nat.beq m n)) <;> rw [hc] at h <;> simp only [cond_true, cond_false] at h ⊢
  · cases h
  · split at h
    · rename_i T H ob' h1 h2
      cases h
      simp only [h1, renHx_ok h2 ha]
    · cases h
def renAllx (dl : List Nat) (P : Program) (bs : Nat) : List (Nat × Nat) → SA → List Bool → Option (SA × List Bool)
  | [], s, ob => some (s, ob)
  | (m, n) :: l, s, ob => match ren1x dl P bs m n s with
    | some (s', ob') => renAllx dl P bs l s' (ob' ++ ob)
    | none => none
theorem allT_append : ∀ {a b : List Bool}, allT (a ++ b) = true → allT a = true ∧ allT b = true
  | [], b, h => ⟨rfl, h⟩
  | x :: a, b, h => by
    have h1 := allT_cons (b := x) (l := a ++ b) h
    have h2 := allT_append h1.2
    refine ⟨?_, h2.2⟩
    simp only [allT, h1.1, h2.1, cond_true]
theorem renAllx_ok {dl : List Nat} {P : Program} {bs : Nat} : ∀ {l : List (Nat × Nat)} {s s' : SA} {ob ob' : List Bool}, renAllx dl P bs l s ob = some (s', ob') → allT ob' = true → renAll P bs l s = s' ∧ allT ob = true
  | [], s, s', ob, ob', h, ha => by cases h; exact ⟨rfl, ha⟩
  | (m, n) :: l, s, s', ob, ob', h, ha => by
    simp only [renAllx] at h
    split at h
    · rename_i s1 ob1 h1
      obtain ⟨e1, e2⟩ := renAllx_ok h ha
      have e3 := allT_append e2
      refine ⟨?_, e3.2⟩
      simp only [renAll, ren1x_ok h1 e3.1]
      exact e1
    · cases h
noncomputable def roundO3 (dl : List Nat) (P : Program) (ps : PS) (cs : CS) (sy : List Nat) (os : List Bool) (vs : List AVal) (nt nn F bs : Nat) (b : Code) (s0 s : SA) : Option (SA × List Bool) :=
  match evT P ps cs sy nt nn F bs b s ⟨os, vs, []⟩ with
  | some (.normal, s', q) => match renAllx dl P bs (pairsT s0.fr 0 s0.T s'.T) s' q.ob with
    | some (r, ob) => some (⟨reshape s0.T r.T, reshapeH s0.H r.H ++ extraH s0.H s0.fr r.H, s0.fr⟩, ob)
    | none => none
  | _ => none
theorem roundO3_ok {dl : List Nat} {P : Program} {ps : PS} {cs : CS} (hps : PSOk ps cs) {sy : List Nat} {os : List Bool} {vs : List AVal} {nt nn F bs : Nat} {b : Code} {s0 s s1 : SA} {ob : List Bool} (h : roundO3 dl P ps cs sy os vs nt nn F bs b s0 s = some (s1, ob)) (ha : allT ob = true) (ho : okS P s1 = true) :
    roundA (evC P cs nt nn F bs b) (headA P bs s0) s = some s1 := by
  unfold roundO3 at h
  split at h
  · rename_i s' q hev
    split at h
    · rename_i r ob' hr
      simp only [Option.some.injEq, Prod.mk.injEq] at h
      obtain ⟨h1, rfl⟩ := h
      obtain ⟨e1, e2⟩ := renAllx_ok hr ha
      have hh : headS P bs s0 s' = s1 := by
        unfold headS
        simp only
        rw [e1]
        exact h1
      simp only [roundA, (evT_ok hps b _ _ _ _ _ hev e2).1, headS_eq hh ho]
    · cases h
  · cases h
end Go.Eng

/- Engine, part 48: calls on blocks that lead to blocks, carried out under other names. -/
namespace Go.Eng
set_option linter.unusedVariables false
set_option linter.unusedSimpArgs false
open Go
set_option linter.unusedSimpArgs false
set_option linter.unusedVariables false
/-! ### the same value under other names -/
inductive RN (ρ : Nat → Nat → Prop) : AVal → AVal → Prop where
  | same {v : AVal} (h : ltV 0 v = true) : RN ρ v v
  | ptr {k n off : Nat} (h : ρ k n) : RN ρ (.ptr k off) (.ptr n off)
  | slice {k n off len esz : Nat} (h : ρ k n) : RN ρ (.slice k off len esz) (.slice n off len esz)
  | map {k n : Nat} (h : ρ k n) : RN ρ (.map k) (.map n)
  | fn {f : FuncId} {c c' : List AVal} (hs : c.length = c'.length) (h : ∀ (i : Nat) v v', c[i]? = some v → c'[i]? = some v' → RN ρ v v') : RN ρ (.fn f c) (.fn f c')
  | iface {t : TypeId} {v v' : AVal} (h : RN ρ v v') : RN ρ (.iface t v) (.iface t v')
  | agg {c c' : List AVal} (hs : c.length = c'.length) (h : ∀ (i : Nat) v v', c[i]? = some v → c'[i]? = some v' → RN ρ v v') : RN ρ (.agg c) (.agg c')
  | tup {c c' : List AVal} (hs : c.length = c'.length) (h : ∀ (i : Nat) v v', c[i]? = some v → c'[i]? = some v' → RN ρ v v') : RN ρ (.tup c) (.tup c')
  | tp {k n : Nat} {t : TypeId} {b : Bool} (h : ρ k n) : RN ρ (.tp k t b) (.tp n t b)
def RL (ρ : Nat → Nat → Prop) (c c' : List AVal) : Prop := c.length = c'.length ∧ ∀ (i : Nat) v v', c[i]? = some v → c'[i]? = some v' → RN ρ v v'
theorem RL.nil (ρ : Nat → Nat → Prop) : RL ρ [] [] := ⟨rfl, fun i v v' h => by simp at h⟩
theorem RL.cons {ρ : Nat → Nat → Prop} {v v' : AVal} {c c' : List AVal} (h : RN ρ v v') (hc : RL ρ c c') : RL ρ (v :: c) (v' :: c') := by
  refine ⟨by simp [hc.1], fun i u u' h1 h2 => ?_⟩
  cases i with
  | zero => simp at h1 h2; subst h1; subst h2; exact h
  | succ i => exact hc.2 i u u' (by simpa using h1) (by simpa using h2)
theorem ltV_of_ltS48 {v : AVal} (h : ltS 0 v = true) : ltV 0 v = true := by
  cases v with
  | agg l => cases l with
    | nil => rfl
    | cons x l => cases h
  | tup l => cases l with
    | nil => rfl
    | cons x l => cases h
  | fn f l => cases l with
    | nil => rfl
    | cons x l => cases h
  | iface t v => cases h
  | _ => exact h
theorem partner {c c' : List AVal} (hs : c.length = c'.length) {i : Nat} {x : AVal} (h : c'[i]? = some x) : ∃ y, c[i]? = some y :=
  ⟨_, List.getElem?_eq_getElem (by rw [hs]; exact (List.getElem?_eq_some_iff.1 h).1)⟩
theorem RL.same {ρ : Nat → Nat → Prop} {c : List AVal} (h : ltL 0 c = true) : RL ρ c c :=
  ⟨rfl, fun i v v' h1 h2 => by
    rw [h1] at h2
    cases h2
    exact .same (ltV_of_ltS48 (ltL_mem h v (List.mem_of_getElem? h1)))⟩
theorem RL.append {ρ : Nat → Nat → Prop} {a a' b b' : List AVal} (h : RL ρ a a') (k : RL ρ b b') : RL ρ (a ++ b) (a' ++ b') := by
  refine ⟨by simp [h.1, k.1], fun i u u' h1 h2 => ?_⟩
  by_cases hi : i < a.length
  · rw [List.getElem?_append_left hi] at h1
    rw [List.getElem?_append_left (by rw [← h.1]; exact hi)] at h2
    exact h.2 i u u' h1 h2
  · rw [List.getElem?_append_right (by omega)] at h1
    rw [List.getElem?_append_right (by rw [← h.1]; omega), ← h.1] at h2
    exact k.2 _ u u' h1 h2
theorem RN.aggL {ρ : Nat → Nat → Prop} {c c' : List AVal} (h : RL ρ c c') : RN ρ (.agg c) (.agg c') := .agg h.1 h.2
theorem RN.tupL {ρ : Nat → Nat → Prop} {c c' : List AVal} (h : RL ρ c c') : RN ρ (.tup c) (.tup c') := .tup h.1 h.2
theorem RN.fnL {ρ : Nat → Nat → Prop} {f : FuncId} {c c' : List AVal} (h : RL ρ c c') : RN ρ (.fn f c) (.fn f c') := .fn h.1 h.2
def Keeps2 (ρ : Nat → Nat → Prop) (σ σ' : Sig) : Prop := ∀ k n, ρ k n → ∀ p, σ k = some p → σ' n = some p
theorem RN.vr {ρ : Nat → Nat → Prop} {σ σ' : Sig} (hk : Keeps2 ρ σ σ') {c a : AVal} (h : RN ρ c a) : ∀ {v : Value}, VR σ c v → VR σ' a v := by
  induction h with
  | same h => intro v hv; exact (ltV_ok h hv).mono fun n p hp => by simp [cut] at hp
  | ptr h => intro v hv; cases hv with | ptr hp => exact .ptr (hk _ _ h _ hp)
  | slice h => intro v hv; cases hv with | slice hp a b c => exact .slice (hk _ _ h _ hp) a b c
  | map h => intro v hv; cases hv with | map hp => exact .map (hk _ _ h _ hp)
  | tp h =>
    intro v hv
    cases hv with
    | tp0 hp a b c => exact .tp0 (hk _ _ h _ hp) a b c
    | tp1 hp a b c => exact .tp1 (hk _ _ h _ hp) a b c
  | fn hs h ih =>
    intro v hv
    cases hv with
    | fn a b =>
      refine .fn (hs ▸ a) fun i x x' h1 h2 => ?_
      obtain ⟨y, hy⟩ := partner hs h1
      exact ih i y x hy h1 (b i y x' hy h2)
  | iface h ih => intro v hv; cases hv with | iface hp => exact .iface (ih hp)
  | agg hs h ih =>
    intro v hv
    cases hv with
    | agg a b =>
      refine .agg (hs ▸ a) fun i x x' h1 h2 => ?_
      obtain ⟨y, hy⟩ := partner hs h1
      exact ih i y x hy h1 (b i y x' hy h2)
  | tup hs h ih =>
    intro v hv
    cases hv with
    | tup a b =>
      refine .tup (hs ▸ a) fun i x x' h1 h2 => ?_
      obtain ⟨y, hy⟩ := partner hs h1
      exact ih i y x hy h1 (b i y x' hy h2)
theorem RN.vr' {ρ : Nat → Nat → Prop} {σ σ' : Sig} (hk : Keeps2 (fun k n => ρ n k) σ σ') {c a : AVal} (h : RN ρ c a) : ∀ {v : Value}, VR σ a v → VR σ' c v := by
  induction h with
  | same h => intro v hv; exact (ltV_ok h hv).mono fun n p hp => by simp [cut] at hp
  | ptr h => intro v hv; cases hv with | ptr hp => exact .ptr (hk _ _ h _ hp)
  | slice h => intro v hv; cases hv with | slice hp a b c => exact .slice (hk _ _ h _ hp) a b c
  | map h => intro v hv; cases hv with | map hp => exact .map (hk _ _ h _ hp)
  | tp h =>
    intro v hv
    cases hv with
    | tp0 hp a b c => exact .tp0 (hk _ _ h _ hp) a b c
    | tp1 hp a b c => exact .tp1 (hk _ _ h _ hp) a b c
  | fn hs h ih =>
    intro v hv
    cases hv with
    | fn a b =>
      refine .fn (hs.symm ▸ a) fun i x x' h1 h2 => ?_
      obtain ⟨y, hy⟩ := partner hs.symm h1
      exact ih i x y h1 hy (b i y x' hy h2)
  | iface h ih => intro v hv; cases hv with | iface hp => exact .iface (ih hp)
  | agg hs h ih =>
    intro v hv
    cases hv with
    | agg a b =>
      refine .agg (hs.symm ▸ a) fun i x x' h1 h2 => ?_
      obtain ⟨y, hy⟩ := partner hs.symm h1
      exact ih i x y h1 hy (b i y x' hy h2)
  | tup hs h ih =>
    intro v hv
    cases hv with
    | tup a b =>
      refine .tup (hs.symm ▸ a) fun i x x' h1 h2 => ?_
      obtain ⟨y, hy⟩ := partner hs.symm h1
      exact ih i x y h1 hy (b i y x' hy h2)
def RO (ρ : Nat → Nat → Prop) (o o' : AObj) : Prop := ∃ ro c c', o = .cells ro c ∧ o' = .cells ro c' ∧ RL ρ c c'
theorem RO.orel {ρ : Nat → Nat → Prop} {σ σ' : Sig} (hk : Keeps2 ρ σ σ') {o o' : AObj} (h : RO ρ o o') {w : World} {p : Place} (ho : ORel σ w p o) : ORel σ' w p o' := by
  obtain ⟨ro, c, c', rfl, rfl, hl⟩ := h
  obtain ⟨d, t, fz, h1, h2, h3, h4⟩ := ho
  refine ⟨d, t, fz, h1, h2, fun i v hv => ?_, h4⟩
  obtain ⟨y, hy⟩ : ∃ y, c[i]? = some y := ⟨_, List.getElem?_eq_getElem (by rw [hl.1]; exact (List.getElem?_eq_some_iff.1 hv).1)⟩
  obtain ⟨v', a, b⟩ := h3 i y hy
  exact ⟨v', a, (hl.2 i y v hy hv).vr hk b⟩
theorem RO.orel' {ρ : Nat → Nat → Prop} {σ σ' : Sig} (hk : Keeps2 (fun k n => ρ n k) σ σ') {o o' : AObj} (h : RO ρ o o') {w : World} {p : Place} (ho : ORel σ w p o') : ORel σ' w p o := by
  obtain ⟨ro, c, c', rfl, rfl, hl⟩ := h
  obtain ⟨d, t, fz, h1, h2, h3, h4⟩ := ho
  refine ⟨d, t, fz, h1, h2, fun i v hv => ?_, h4⟩
  obtain ⟨y, hy⟩ : ∃ y, c'[i]? = some y := ⟨_, List.getElem?_eq_getElem (by rw [← hl.1]; exact (List.getElem?_eq_some_iff.1 hv).1)⟩
  obtain ⟨v', a, b⟩ := h3 i y hy
  exact ⟨v', a, (hl.2 i v y hv hy).vr' hk b⟩
theorem RO.ro {ρ : Nat → Nat → Prop} {o o' : AObj} (h : RO ρ o o') : o.ro = o'.ro := by
  obtain ⟨ro, c, c', rfl, rfl, _⟩ := h
  rfl
/-! ### changes at several names -/
theorem appU_at : ∀ {us : List (Nat × Option AObj)} {H : HL} {m : Nat}, (us.map (·.1)).Nodup → (∃ x, (m, x) ∈ us ∧ aget (appU H us) m = x) ∨ ((∀ x, (m, x) ∉ us) ∧ aget (appU H us) m = aget H m)
  | [], H, m, _ => .inr ⟨fun x h => (by cases h), rfl⟩
  | (k, x) :: us, H, m, hn => by
    simp only [List.map_cons, List.nodup_cons] at hn
    have hstep : ∀ H1 : HL, (aget H1 k = x) → (∀ j, j ≠ k → aget H1 j = aget H j) → appU H ((k, x) :: us) = appU H1 us → (∃ x', (m, x') ∈ (k, x) :: us ∧ aget (appU H ((k, x) :: us)) m = x') ∨ ((∀ x', (m, x') ∉ (k, x) :: us) ∧ aget (appU H ((k, x) :: us)) m = aget H m) := fun H1 e1 e2 e3 => by
      rw [e3]
      rcases appU_at (us := us) (H := H1) (m := m) hn.2 with ⟨x', h1, h2⟩ | ⟨h1, h2⟩
      · exact .inl ⟨x', List.mem_cons_of_mem _ h1, h2⟩
      · by_cases c : m = k
        · subst c
          exact .inl ⟨x, List.mem_cons_self .., by rw [h2, e1]⟩
        · refine .inr ⟨fun x' h => ?_, by rw [h2, e2 m c]⟩
          rcases List.mem_cons.1 h with h | h
          · cases h; exact c rfl
          · exact h1 x' h
    cases x with
    | some o => exact hstep (aset H k o) (by rw [aget_aset_fun, upd_same]) (fun j hj => by rw [aget_aset_fun, upd_other _ _ (Ne.symm hj)]) rfl
    | none => exact hstep (adel H k) (by rw [aget_adel, if_pos rfl]) (fun j hj => by rw [aget_adel, if_neg (Ne.symm hj)]) rfl
/-- What the callee's names stand for. -/
def ρ0 (G : Nat) (ns : List Nat) (k n : Nat) : Prop := (k < G ∧ n = k) ∨ ∃ i, k = G + i ∧ ns[i]? = some n
/-- And those that it made. -/
def ρ1 (G : Nat) (ns ks : List Nat) (base : Nat) (k n : Nat) : Prop := ρ0 G ns k n ∨ ∃ j, ks[j]? = some k ∧ n = base + j
/-- A name that stands for a place. -/
def Known (η : Nat → Option AObj) (args : List AVal) (n : Nat) : Prop := (∃ o, η n = some o) ∨ (∃ (m : Nat) (fz : Bool) (c : List AVal) (i : Nat), η m = some (.cells fz c) ∧ ((∃ off len esz, c[i]? = some (AVal.slice n off len esz)) ∨ ∃ off, c[i]? = some (AVal.ptr n off))) ∨ ∃ (i : Nat) (off : Nat), args[i]? = some (AVal.ptr n off)
structure Deep (P : Program) (cs : CS) (f : FuncId) (args : List AVal) (base : Nat) (η : Nat → Option AObj) (v : AVal) (us : List (Nat × Option AObj)) where
  nn : Nat
  F : Nat
  ns : List Nat
  ks : List Nat
  cargs : List AVal
  Hc : HL
  fr : Nat
  v0 : AVal
  H' : HL
  fr' : Nat
  hns : ns.Nodup
  hη : ∀ n, n ∈ ns → Known η args n
  hargs : RL (ρ0 P.globals.size ns) cargs args
  hblk : ∀ k o, aget Hc k = some o → ∃ i n o', k = P.globals.size + i ∧ ns[i]? = some n ∧ η n = some o' ∧ RO (ρ0 P.globals.size ns) o o'
  hfr : P.globals.size + ns.length ≤ fr
  hrun : run1 P cs nn F f cargs Hc fr = some (v0, H', fr')
  hks : ks.Nodup
  hks8 : ks.length ≤ 8
  hkfr : ∀ k, k ∈ ks → fr ≤ k
  hv : RN (ρ1 P.globals.size ns ks base) v0 v
  hnd : (us.map (·.1)).Nodup
  hus : ∀ m x, (m, x) ∈ us → (∃ i, ns[i]? = some m ∧ (x = none ∨ ∃ o o', x = some o' ∧ aget H' (P.globals.size + i) = some o ∧ o.ro = false ∧ RO (ρ1 P.globals.size ns ks base) o o')) ∨
    ∃ j k o o', m = base + j ∧ ks[j]? = some k ∧ x = some o' ∧ aget H' k = some o ∧ o.ro = false ∧ RO (ρ1 P.globals.size ns ks base) o o'
  hall : ∀ i n o, ns[i]? = some n → aget Hc (P.globals.size + i) = some o → o.ro = false → ∃ x, (n, x) ∈ us
theorem inj_of_nodup {l : List Nat} (h : l.Nodup) {i j n : Nat} (hi : l[i]? = some n) (hj : l[j]? = some n) : i = j := by
  obtain ⟨a, ea⟩ := List.getElem?_eq_some_iff.1 hi
  obtain ⟨b, eb⟩ := List.getElem?_eq_some_iff.1 hj
  exact (List.getElem_inj h).1 (ea.trans eb.symm)
theorem callOk_deep {P : Program} {cs : CS} (hcs : CSOk P cs) (hm : P.follows .mixedOrders = true) {f : FuncId} {args : List AVal} {K : Nat → (Nat → Option AObj) → Option (AVal × List (Nat × Option AObj))}
    (h : ∀ base η v us, K base η = some (v, us) → Nonempty (Deep P cs f args base η v us)) : CallOk P f args (.eff K) := by
  intro σ args' H w base v H0 hl hg hH happ hfree
  simp only [EffA.app] at happ
  cases hK : K base (aget H) with
  | none => rw [hK] at happ; cases happ
  | some r =>
  obtain ⟨v1, us⟩ := r
  rw [hK] at happ
  simp only [Option.some.injEq, Prod.mk.injEq] at happ
  obtain ⟨rfl, rfl⟩ := happ
  obtain ⟨D⟩ := h base (aget H) v1 us hK
  obtain ⟨nn, F, ns, ks, cargs, Hc, fr, v0, H', fr', hns, hη, hargs, hblk, hfr, hrun, hks, hks8, hkfr, hv, hnd, hus, hall⟩ := D
  obtain ⟨fn, body, hf, hb, hrunF⟩ := run1_some hrun
  obtain ⟨G, hG⟩ : ∃ G, G = P.globals.size := ⟨_, rfl⟩
  rw [← hG] at hargs hblk hfr hv hus hall
  -- the callee's names
  obtain ⟨σc, hσc⟩ : ∃ σc, σc = sigC G ns σ := ⟨_, rfl⟩
  have c1 : ∀ k, k < G → σc k = σ k := fun k hk => by rw [hσc]; unfold sigC; rw [if_pos hk]
  have c2 : ∀ i n, ns[i]? = some n → σc (G + i) = σ n := fun i n hi => by rw [hσc]; exact sigC_at hi
  have hin : Keeps2 (fun n k => ρ0 G ns k n) σ σc := fun n k hk p hp => by
    rcases hk with ⟨a, rfl⟩ | ⟨i, rfl, hi⟩
    · rw [c1 _ a]; exact hp
    · rw [c2 i n hi]; exact hp
  have hgc : GRel P σc := fun g hgl => by
    obtain ⟨sz, hs⟩ := hg g hgl
    exact ⟨sz, by rw [c1 g (by omega)]; exact hs⟩
  have hfrc : Fresh σc fr := fun m hm' => by
    rw [hσc]
    unfold sigC
    rw [if_neg (by omega), List.getElem?_eq_none (by omega)]
  have hlc : LR σc cargs args' := ⟨hargs.1.trans hl.1, fun i u u' h1 h2 => by
    obtain ⟨y, hy⟩ := partner hargs.1.symm h1
    exact (hargs.2 i u y h1 hy).vr' hin (hl.2 i y u' hy h2)⟩
  have hdef : ∀ n, n ∈ ns → ∃ p, σ n = some p := fun n hn => by
    rcases hη n hn with ⟨o, ho⟩ | ⟨m, fz, c, i, ho, hc⟩ | ⟨i, off, ha⟩
    · obtain ⟨p, hp, _⟩ := hH.obj n o ho
      exact ⟨p, hp⟩
    · obtain ⟨p, hp, d, t, fz, h1, h2, h3, h4⟩ := hH.obj m _ ho
      rcases hc with ⟨off, len, esz, hc⟩ | ⟨off, hc⟩
      · obtain ⟨v', a, b⟩ := h3 i _ hc
        cases b with
        | slice hs => exact ⟨_, hs⟩
      · obtain ⟨v', a, b⟩ := h3 i _ hc
        cases b with
        | ptr hs => exact ⟨_, hs⟩
    · obtain ⟨v', hv'⟩ : ∃ v', args'[i]? = some v' := ⟨_, Array.getElem?_eq_getElem (by rw [← hl.1]; exact (List.getElem?_eq_some_iff.1 ha).1)⟩
      cases hl.2 i _ v' ha hv' with
      | ptr hs => exact ⟨_, hs⟩
  have hHc : HRel σc (aget Hc) w := by
    refine ⟨fun k o hk => ?_, fun k k' o o' q q' h1 h2 hq hq' he => ?_⟩
    · obtain ⟨i, n, o', rfl, hi, ho', hro⟩ := hblk k o hk
      obtain ⟨p, hp, hor⟩ := hH.obj n o' ho'
      exact ⟨p, by rw [c2 i n hi]; exact hp, hro.orel' hin hor⟩
    · obtain ⟨i, n, u, rfl, hi, hu, hro⟩ := hblk k o h1
      obtain ⟨i', n', u', rfl, hi', hu', hro'⟩ := hblk k' o' h2
      rw [c2 i n hi] at hq
      rw [c2 i' n' hi'] at hq'
      rcases hH.inj n n' u u' q q' hu hu' hq hq' he with e | ⟨e1, e2⟩
      · subst e
        exact .inl (by rw [inj_of_nodup hns hi hi'])
      · exact .inr ⟨by rw [hro.ro]; exact e1, by rw [hro'.ro]; exact e2⟩
  refine (runF_ok hcs hm hf hb hrunF hlc hHc hgc hfrc).mono fun r w' hrw => ?_
  obtain ⟨σ', v', rfl, g1, g2, g3, g4⟩ := hrw
  -- the caller's names behind the call
  obtain ⟨σ2, hσ2⟩ : ∃ σ2 : Sig, σ2 = fun m => if base ≤ m ∧ m < base + 8 then (match ks[m - base]? with | some k => σ' k | none => none) else σ m := ⟨_, rfl⟩
  have s1 : ∀ j k, ks[j]? = some k → σ2 (base + j) = σ' k := fun j k hj => by
    have : j < ks.length := (List.getElem?_eq_some_iff.1 hj).1
    rw [hσ2]
    show (if base ≤ base + j ∧ base + j < base + 8 then _ else _) = _
    rw [if_pos (by omega), Nat.add_sub_cancel_left, hj]
  have s2 : ∀ m, (m < base ∨ base + 8 ≤ m) → σ2 m = σ m := fun m hm' => by
    rw [hσ2]
    show (if base ≤ m ∧ m < base + 8 then _ else _) = _
    rw [if_neg (by omega)]
  have hfr0 : ∀ m p, σ m = some p → m < base ∨ base + 8 ≤ m := fun m p hp => by
    by_cases c : base ≤ m ∧ m < base + 8
    · have := hfree (m - base) (by omega)
      rw [show base + (m - base) = m by omega, hp] at this
      cases this
    · omega
  have s3 : ∀ m p, σ m = some p → σ2 m = some p := fun m p hp => by rw [s2 m (hfr0 m p hp)]; exact hp
  have hout0 : ∀ k n, ρ0 G ns k n → σ' k = σ2 n := fun k n hk => by
    rcases hk with ⟨a, rfl⟩ | ⟨i, rfl, hi⟩
    · obtain ⟨sz, hs⟩ := hg n (by omega)
      rw [s3 _ _ hs]
      exact g3.ext _ _ (by rw [c1 _ a]; exact hs)
    · obtain ⟨p, hp⟩ := hdef n (List.mem_of_getElem? hi)
      rw [s3 _ _ hp]
      exact g3.ext _ _ (by rw [c2 i n hi]; exact hp)
  have hout : Keeps2 (ρ1 G ns ks base) σ' σ2 := fun k n hk p hp => by
    rcases hk with hk | ⟨j, hj, rfl⟩
    · rw [← hout0 k n hk]; exact hp
    · rw [s1 j k hj]; exact hp
  -- what the callee may write, the caller may
  have hown : ∀ b, Own σc (aget Hc) b → ∃ i n o p, ns[i]? = some n ∧ (∃ x, (n, x) ∈ us) ∧ aget H n = some o ∧ o.ro = false ∧ σ n = some p ∧ p.blk = b := fun b ⟨k, o, p, a1, a2, a3, a4⟩ => by
    obtain ⟨i, n, o', rfl, hi, ho', hro⟩ := hblk k o a1
    rw [c2 i n hi] at a3
    exact ⟨i, n, o', p, hi, hall i n o hi a1 a2, ho', by rw [← hro.ro]; exact a2, a3, a4⟩
  have hnot : ∀ m o p, aget H m = some o → σ m = some p → (∀ x, (m, x) ∉ us) → ¬ Own σc (aget Hc) p.blk := fun m o p hm' hp hno ho => by
    obtain ⟨i, n, o', p', a1, ⟨x, a2⟩, a3, a4, a5, a6⟩ := hown _ ho
    rcases hH.inj m n o o' p p' hm' a3 hp a5 a6.symm with e | ⟨_, e⟩
    · subst e; exact hno x a2
    · rw [a4] at e; cases e
  -- the blocks behind the call
  have key : ∀ m x, (m, some x) ∈ us → ∃ k o p, aget H' k = some o ∧ o.ro = false ∧ x.ro = false ∧ σ' k = some p ∧ σ2 m = some p ∧ RO (ρ1 G ns ks base) o x ∧ ρ1 G ns ks base k m := fun m x hx => by
    rcases hus m _ hx with ⟨i, hi, h1⟩ | ⟨j, k, o, o', rfl, hj, e, a1, a2, a3⟩
    · rcases h1 with h1 | ⟨o, o', e, a1, a2, a3⟩
      · cases h1
      · cases e
        obtain ⟨p, hp, _⟩ := g2.obj _ o a1
        have h0 : ρ0 G ns (G + i) m := .inr ⟨i, rfl, hi⟩
        exact ⟨_, o, p, a1, a2, by rw [← a3.ro]; exact a2, hp, by rw [← hout0 _ _ h0]; exact hp, a3, .inl h0⟩
    · cases e
      obtain ⟨p, hp, _⟩ := g2.obj _ o a1
      exact ⟨k, o, p, a1, a2, by rw [← a3.ro]; exact a2, hp, by rw [s1 j k hj]; exact hp, a3, .inr ⟨j, hj, rfl⟩⟩
  have parts : ∀ m o, aget (appU H us) m = some o → ((m, some o) ∈ us) ∨ ((∀ x, (m, x) ∉ us) ∧ aget H m = some o) := fun m o hm' => by
    rcases appU_at (H := H) (m := m) hnd with ⟨x, a, b⟩ | ⟨a, b⟩
    · rw [b] at hm'; subst hm'; exact .inl a
    · rw [b] at hm'; exact .inr ⟨a, hm'⟩
  have names : ∀ m x, (m, some x) ∈ us → ∃ k o p, aget H' k = some o ∧ o.ro = false ∧ σ' k = some p ∧ σ2 m = some p ∧ ((∃ i, k = G + i ∧ ns[i]? = some m) ∨ ∃ j, ks[j]? = some k ∧ m = base + j) := fun m x hx => by
    rcases hus m _ hx with ⟨i, hi, h1⟩ | ⟨j, k, o, o', rfl, hj, e, a1, a2, a3⟩
    · rcases h1 with h1 | ⟨o, o', e, a1, a2, a3⟩
      · cases h1
      · cases e
        obtain ⟨p, hp, _⟩ := g2.obj _ o a1
        have h0 : ρ0 G ns (G + i) m := .inr ⟨i, rfl, hi⟩
        exact ⟨_, o, p, a1, a2, hp, by rw [← hout0 _ _ h0]; exact hp, .inl ⟨i, rfl, hi⟩⟩
    · obtain ⟨p, hp, _⟩ := g2.obj _ o a1
      exact ⟨k, o, p, a1, a2, hp, by rw [s1 j k hj]; exact hp, .inr ⟨j, hj, rfl⟩⟩
  have final : HRel σ2 (aget (appU H us)) w' := by
    refine ⟨fun m o hm' => ?_, fun m m' o o' q q' h1 h2 hq hq' he => ?_⟩
    · rcases parts m o hm' with hx | ⟨hno, ho⟩
      · obtain ⟨k, u, p, a1, a2, a3, a4, a5, a6, a7⟩ := key m o hx
        obtain ⟨p', hp', hor⟩ := g2.obj k u a1
        rw [a4] at hp'
        cases hp'
        exact ⟨p, a5, a6.orel hout hor⟩
      · obtain ⟨p, hp, hor⟩ := hH.obj m o ho
        have hsame := (g3.old p.blk hor.lt (hnot m o p ho hp hno)).1
        exact ⟨p, s3 m p hp, hor.mono (fun n q hq => s3 n q hq) hsame⟩
    · rcases parts m o h1 with hx | ⟨hno, ho⟩ <;> rcases parts m' o' h2 with hx' | ⟨hno', ho'⟩
      · obtain ⟨k, u, p, a1, a2, a4, a5, a7⟩ := names m o hx
        obtain ⟨k', u', p', b1, b2, b4, b5, b7⟩ := names m' o' hx'
        have eq1 := Option.some.inj (a5.symm.trans hq)
        subst eq1
        have eq2 := Option.some.inj (b5.symm.trans hq')
        subst eq2
        rcases g2.inj k k' u u' p p' a1 b1 a4 b4 he with e | ⟨e, _⟩
        · subst e
          left
          rcases a7 with ⟨i, e1, i1⟩ | ⟨j, j1, rfl⟩ <;> rcases b7 with ⟨i', e1', i1'⟩ | ⟨j', j1', rfl⟩
          · have : i = i' := by omega
            subst this
            rw [i1] at i1'
            cases i1'; rfl
          · have h3 := hkfr k (List.mem_of_getElem? j1')
            have h4 := (List.getElem?_eq_some_iff.1 i1).1
            omega
          · have h3 := hkfr k (List.mem_of_getElem? j1)
            have h4 := (List.getElem?_eq_some_iff.1 i1').1
            omega
          · rw [inj_of_nodup hks j1 j1']
        · rw [a2] at e; cases e
      · obtain ⟨k, u, p, a1, a2, a4, a5, a7⟩ := names m o hx
        have eq1 := Option.some.inj (a5.symm.trans hq)
        subst eq1
        obtain ⟨p', hp', hor⟩ := hH.obj m' o' ho'
        have eq2 := Option.some.inj ((s3 m' p' hp').symm.trans hq')
        subst eq2
        exact absurd ⟨k, u, p, a1, a2, a4, he⟩ (g3.old p'.blk hor.lt (hnot m' o' p' ho' hp' hno')).2
      · obtain ⟨k, u, p, a1, a2, a4, a5, a7⟩ := names m' o' hx'
        have eq1 := Option.some.inj (a5.symm.trans hq')
        subst eq1
        obtain ⟨p', hp', hor⟩ := hH.obj m o ho
        have eq2 := Option.some.inj ((s3 m p' hp').symm.trans hq)
        subst eq2
        exact absurd ⟨k, u, p, a1, a2, a4, he.symm⟩ (g3.old p'.blk hor.lt (hnot m o p' ho hp' hno)).2
      · obtain ⟨p, hp, _⟩ := hH.obj m o ho
        obtain ⟨p', hp', _⟩ := hH.obj m' o' ho'
        have eq1 := Option.some.inj ((s3 m p hp).symm.trans hq)
        have eq2 := Option.some.inj ((s3 m' p' hp').symm.trans hq')
        subst eq1
        subst eq2
        exact hH.inj m m' o o' p p' ho ho' hp hp' he
  have hown2 : ∀ b, ¬ Own σ (aget H) b → ¬ Own σc (aget Hc) b := fun b hb ho => by
    obtain ⟨i, n, o, p, a1, a2, a3, a4, a5, a6⟩ := hown b ho
    exact hb ⟨n, o, p, a3, a4, a5, a6⟩
  refine ⟨σ2, v', rfl, hv.vr hout g1, final, ⟨fun n p hp => s3 n p hp, g3.size, g3.os, g3.output, g3.tape, fun b hb hno => ?_⟩, fun n hn => s2 n hn⟩
  obtain ⟨e1, e2⟩ := g3.old b hb (hown2 b hno)
  refine ⟨e1, fun ⟨m, o, p, a1, a2, a3, a4⟩ => ?_⟩
  rcases parts m o a1 with hx | ⟨hno', ho⟩
  · obtain ⟨k, u, q, b1, b2, b4, b5, _⟩ := names m o hx
    have eq1 := Option.some.inj (b5.symm.trans a3)
    subst eq1
    exact e2 ⟨k, u, q, b1, b2, b4, a4⟩
  · obtain ⟨q, hq, _⟩ := hH.obj m o ho
    have eq1 := Option.some.inj ((s3 m q hq).symm.trans a3)
    subst eq1
    exact hno ⟨m, o, q, ho, a2, hq, a4⟩
end Go.Eng

/- Engine, part 49: objects of several blocks, and their methods. -/
namespace Go.Eng
set_option linter.unusedVariables false
set_option linter.unusedSimpArgs false
set_option maxRecDepth 100000
set_option linter.unusedVariables false
set_option linter.unusedSimpArgs false
/-- A kind of objects: a few blocks, of which the first one leads to the others. -/
structure Cls (S : Type) where
  k : Nat
  place : List Nat → S → List (List AVal)
  find : (Nat → Option AObj) → Nat → Option (List Nat × S)
  len : ∀ ns s, (place ns s).length = k
  find_ok : ∀ {η : Nat → Option AObj} {t : Nat} {ns : List Nat} {s : S}, find η t = some (ns, s) → ns.length = k ∧ ns[0]? = some t ∧ ∀ (i n : Nat) (c : List AVal), ns[i]? = some n → (place ns s)[i]? = some c → η n = some (.cells false c)
/-- An object's cells mean the same under other names. -/
def Cls.Rel {S : Type} (C : Cls S) (s : S) : Prop := ∀ (ρ : Nat → Nat → Prop) (ns ns' : List Nat), ns.length = C.k → ns'.length = C.k → (∀ (i n n' : Nat), ns[i]? = some n → ns'[i]? = some n' → ρ n n') →
  ∀ (i : Nat) (c c' : List AVal), (C.place ns s)[i]? = some c → (C.place ns' s)[i]? = some c' → RL ρ c c'
/-- A value means the same under other names. -/
def NameV (k : Nat) (v : List Nat → AVal) : Prop := ∀ (ρ : Nat → Nat → Prop) (ns ns' : List Nat), ns.length = k → ns'.length = k → (∀ (i n n' : Nat), ns[i]? = some n → ns'[i]? = some n' → ρ n n') → RN ρ (v ns) (v ns')
theorem NameV.plain {k : Nat} {v : AVal} (h : ltV 0 v = true) : NameV k fun _ => v := fun ρ ns ns' _ _ _ => .same h
def canB (G k : Nat) : List Nat := (List.range k).map (G + ·)
def heapOf : List Nat → List (List AVal) → HL
  | n :: ns, c :: cs => (n, .cells false c) :: heapOf ns cs
  | _, _ => []
theorem heapOf_get : ∀ {ns : List Nat} {cs : List (List AVal)} {m : Nat} {o : AObj}, aget (heapOf ns cs) m = some o → ∃ (i : Nat) (c : List AVal), ns[i]? = some m ∧ cs[i]? = some c ∧ o = .cells false c
  | [], _, m, o, h => by simp [heapOf, aget] at h
  | n :: ns, [], m, o, h => by simp [heapOf, aget] at h
  | n :: ns, c :: cs, m, o, h => by
    unfold heapOf at h
    by_cases e : n = m
    · subst e
      have h0 : aget ((n, AObj.cells false c) :: heapOf ns cs) n = some (.cells false c) := by simp [aget]
      rw [h0] at h
      cases h
      exact ⟨0, c, rfl, rfl, rfl⟩
    · have h' : aget (heapOf ns cs) m = some o := by
        have h0 : aget ((n, AObj.cells false c) :: heapOf ns cs) m = aget (heapOf ns cs) m := by
          have hb : Nat.beq n m = false := by
            cases hb : Nat.beq n m with
            | false => rfl
            | true => exact absurd (Nat.eq_of_beq_eq_true hb) e
          simp only [aget, hb, cond_false]
        rw [← h0]; exact h
      obtain ⟨i, c', h1, h2, h3⟩ := heapOf_get h'
      exact ⟨i + 1, c', by simpa using h1, by simpa using h2, h3⟩
/-- The names of what a method leaves: old blocks by their place, and a new one. -/
def nmC (G kk : Nat) : Option Nat → Nat
  | some j => G + j
  | none => kk
def nmU (ns : List Nat) (base : Nat) : Option Nat → Nat
  | some j => ns.getD j 0
  | none => base
def putC : List Nat → List (List AVal) → List (Nat × Option AObj)
  | n :: ns, c :: cs => (n, some (.cells false c)) :: putC ns cs
  | _, _ => []
theorem putC_mem : ∀ {ns : List Nat} {cs : List (List AVal)} {m : Nat} {x : Option AObj}, (m, x) ∈ putC ns cs → ∃ (i : Nat) (c : List AVal), ns[i]? = some m ∧ cs[i]? = some c ∧ x = some (.cells false c)
  | [], _, m, x, h => by simp [putC] at h
  | n :: ns, [], m, x, h => by simp [putC] at h
  | n :: ns, c :: cs, m, x, h => by
    unfold putC at h
    rcases List.mem_cons.1 h with h | h
    · cases h
      exact ⟨0, c, rfl, rfl, rfl⟩
    · obtain ⟨i, c', h1, h2, h3⟩ := putC_mem h
      exact ⟨i + 1, c', by simpa using h1, by simpa using h2, h3⟩
theorem putC_of : ∀ {ns : List Nat} {cs : List (List AVal)} {i m : Nat} {c : List AVal}, ns[i]? = some m → cs[i]? = some c → (m, some (.cells false c)) ∈ putC ns cs
  | [], _, i, m, c, h, _ => by simp at h
  | n :: ns, [], i, m, c, _, h => by simp at h
  | n :: ns, d :: cs, 0, m, c, h1, h2 => by
    simp at h1 h2
    subst h1 h2
    exact List.mem_cons_self ..
  | n :: ns, d :: cs, i + 1, m, c, h1, h2 => by
    unfold putC
    exact List.mem_cons_of_mem _ (putC_of (by simpa using h1) (by simpa using h2))
theorem putC_names : ∀ {ns : List Nat} {cs : List (List AVal)}, ns.length = cs.length → (putC ns cs).map (·.1) = ns
  | [], [], _ => rfl
  | n :: ns, c :: cs, h => by
    unfold putC
    rw [List.map_cons, putC_names (by simpa using h)]
/-- The places that are not kept. -/
def goneJ (k : Nat) (src : List (Option Nat)) : List Nat := (List.range k).filter fun j => !src.contains (some j)
def updE (ns : List Nat) (base : Nat) (src : List (Option Nat)) (cs : List (List AVal)) : List (Nat × Option AObj) :=
  putC (src.map (nmU ns base)) cs ++ (goneJ ns.length src).map fun j => (ns.getD j 0, none)
def methE {S S2 : Type} (C : Cls S) (C2 : Cls S2) (src : List (Option Nat)) (t : Nat) (val : List Nat → S → AVal) (next : S → S2) (ok : S → Bool) : EffA := .eff fun base η =>
  match C.find η t with
  | some (ns, s) => cond (nodupB (base :: ns) && ok s) (some (val (src.map (nmU ns base)) s, updE ns base src (C2.place (src.map (nmU ns base)) (next s)))) none
  | none => none
/-- What a method's run under the names from G on must show. -/
def MethRun {S S2 : Type} (P : Program) (cs : CS) (f : FuncId) (C : Cls S) (C2 : Cls S2) (src : List (Option Nat)) (xs : List AVal) (s : S) (v : List Nat → AVal) (s2 : S2) : Prop :=
  ∃ nn F H' fr' kk, run1 P cs nn F f (.ptr P.globals.size 0 :: xs) (heapOf (canB P.globals.size C.k) (C.place (canB P.globals.size C.k) s)) (P.globals.size + C.k) = some (v (src.map (nmC P.globals.size kk)), H', fr') ∧ P.globals.size + C.k ≤ kk ∧
    ∀ (i m : Nat) (c : List AVal), (src.map (nmC P.globals.size kk))[i]? = some m → (C2.place (src.map (nmC P.globals.size kk)) s2)[i]? = some c → aget H' m = some (.cells false c)
theorem canB_get {G k i n : Nat} (h : (canB G k)[i]? = some n) : i < k ∧ n = G + i := by
  unfold canB at h
  rw [List.getElem?_map] at h
  by_cases hi : i < k
  · rw [List.getElem?_range hi] at h
    simp at h
    exact ⟨hi, h.symm⟩
  · rw [List.getElem?_eq_none (by simpa using Nat.le_of_not_lt hi)] at h
    simp at h
theorem canB_len (G k : Nat) : (canB G k).length = k := by simp [canB]
theorem meth_ok {S S2 : Type} {P : Program} {cs : CS} (hcs : CSOk P cs) (hm : P.follows .mixedOrders = true) {f : FuncId} {C : Cls S} {C2 : Cls S2} {src : List (Option Nat)} {t : Nat} {xs : List AVal} {val : List Nat → S → AVal} {next : S → S2} {ok : S → Bool}
    (hk : src.length = C2.k) (hk0 : 0 < C.k) (hnd : src.Nodup) (hj : ∀ j, some j ∈ src → j < C.k) (hx : ltL 0 xs = true)
    (h : ∀ s, ok s = true → C.Rel s ∧ C2.Rel (next s) ∧ NameV C2.k (fun ns => val ns s) ∧ MethRun P cs f C C2 src xs s (fun ns => val ns s) (next s)) : CallOk P f (.ptr t 0 :: xs) (methE C C2 src t val next ok) := by
  unfold methE
  refine callOk_deep hcs hm fun base η v us hK => ?_
  cases hf : C.find η t with
  | none => rw [hf] at hK; cases hK
  | some p =>
  obtain ⟨ns, s⟩ := p
  rw [hf] at hK
  simp only at hK
  cases hc : (nodupB (base :: ns) && ok s) <;> rw [hc] at hK <;> simp only [cond_true, cond_false] at hK
  · cases hK
  simp only [Option.some.injEq, Prod.mk.injEq] at hK
  obtain ⟨rfl, rfl⟩ := hK
  rw [Bool.and_eq_true] at hc
  obtain ⟨hn, hok⟩ := hc
  have hnb := nodupB_ok hn
  rw [List.nodup_cons] at hnb
  obtain ⟨hbn, hns⟩ := hnb
  obtain ⟨f1, f2, f3⟩ := C.find_ok hf
  obtain ⟨hR, hR2, hv, nn, F, H', fr', kk, hrun, hkk, hback⟩ := h s hok
  have hcell : ∀ i, i < C.k → ∃ n c, ns[i]? = some n ∧ (C.place ns s)[i]? = some c ∧ η n = some (.cells false c) := fun i hi => by
    have e1 : i < ns.length := by rw [f1]; exact hi
    have e2 : i < (C.place ns s).length := by rw [C.len]; exact hi
    exact ⟨_, _, List.getElem?_eq_getElem e1, List.getElem?_eq_getElem e2, f3 _ _ _ (List.getElem?_eq_getElem e1) (List.getElem?_eq_getElem e2)⟩
  have hρ0 : ∀ (i n n' : Nat), (canB P.globals.size C.k)[i]? = some n → ns[i]? = some n' → ρ0 P.globals.size ns n n' := fun i n n' h1 h2 => by
    obtain ⟨hi, rfl⟩ := canB_get h1
    exact .inr ⟨i, rfl, h2⟩
  have hname : ∀ (i m m' : Nat), (src.map (nmC P.globals.size kk))[i]? = some m → (src.map (nmU ns base))[i]? = some m' → ρ1 P.globals.size ns [kk] base m m' := fun i m m' h1 h2 => by
    rw [List.getElem?_map] at h1 h2
    cases hs : src[i]? with
    | none => rw [hs] at h1; simp at h1
    | some o =>
      rw [hs] at h1 h2
      simp only [Option.map_some, Option.some.injEq] at h1 h2
      cases o with
      | none =>
        subst h1 h2
        exact .inr ⟨0, rfl, rfl⟩
      | some j =>
        have hjk := hj j (List.mem_of_getElem? hs)
        subst h1 h2
        have e1 : j < ns.length := by rw [f1]; exact hjk
        refine .inl (.inr ⟨j, rfl, ?_⟩)
        show ns[j]? = some (ns.getD j 0)
        rw [List.getD_eq_getElem?_getD, List.getElem?_eq_getElem e1]; rfl
  have hl1 : (src.map (nmU ns base)).length = (C2.place (src.map (nmU ns base)) (next s)).length := by rw [List.length_map, C2.len, hk]
  have hnmU : ∀ o, o ∈ src → (o = none ∧ nmU ns base o = base) ∨ ∃ j, o = some j ∧ j < ns.length ∧ ns[j]? = some (nmU ns base o) := fun o ho => by
    cases o with
    | none => exact .inl ⟨rfl, rfl⟩
    | some j =>
      have e1 : j < ns.length := by rw [f1]; exact hj j ho
      exact .inr ⟨j, rfl, e1, by show ns[j]? = some (ns.getD j 0); rw [List.getD_eq_getElem?_getD, List.getElem?_eq_getElem e1]; rfl⟩
  have hinjU : ∀ o o', o ∈ src → o' ∈ src → nmU ns base o = nmU ns base o' → o = o' := fun o o' h1 h2 e => by
    rcases hnmU o h1 with ⟨rfl, e1⟩ | ⟨j, rfl, e1, e2⟩ <;> rcases hnmU o' h2 with ⟨rfl, e3⟩ | ⟨j', rfl, e3, e4⟩
    · rfl
    · rw [← e, e1] at e4
      exact absurd (List.mem_of_getElem? e4) hbn
    · rw [e, e3] at e2
      exact absurd (List.mem_of_getElem? e2) hbn
    · rw [e] at e2
      rw [inj_of_nodup hns e2 e4]
  have hnd1 : (src.map (nmU ns base)).Nodup := by
    have : List.Pairwise (fun a b => nmU ns base a ≠ nmU ns base b) src := by
      have := List.Pairwise.and_mem.1 hnd
      exact this.imp fun ⟨h1, h2, h3⟩ e => h3 (hinjU _ _ h1 h2 e)
    exact List.pairwise_map.2 this
  have hgone : ∀ j, j ∈ goneJ ns.length src → j < ns.length ∧ some j ∉ src := fun j hjm => by
    unfold goneJ at hjm
    rw [List.mem_filter] at hjm
    refine ⟨List.mem_range.1 hjm.1, fun hm => ?_⟩
    have := hjm.2
    simp [hm] at this
  have hgoneN : ∀ j, j < ns.length → ns[j]? = some (ns.getD j 0) := fun j e1 => by
    rw [List.getD_eq_getElem?_getD, List.getElem?_eq_getElem e1]; rfl
  refine ⟨⟨nn, F, ns, [kk], .ptr P.globals.size 0 :: xs, _, P.globals.size + C.k, val (src.map (nmC P.globals.size kk)) s, H', fr', hns, ?_, ?_, ?_, ?_, hrun, ?_, ?_, ?_, hv _ _ _ (by rw [List.length_map, hk]) (by rw [List.length_map, hk]) hname, ?_, ?_, ?_⟩⟩
  · intro n hn
    obtain ⟨i, hi, rfl⟩ := List.getElem_of_mem hn
    obtain ⟨n, c, e1, e2, e3⟩ := hcell i (by rw [← f1]; exact hi)
    rw [List.getElem?_eq_getElem hi] at e1
    cases e1
    exact .inl ⟨_, e3⟩
  · exact .cons (.ptr (.inr ⟨0, rfl, f2⟩)) (.same hx)
  · intro k o ho
    obtain ⟨i, c, h1, h2, rfl⟩ := heapOf_get ho
    obtain ⟨hi, rfl⟩ := canB_get h1
    obtain ⟨n, c', e1, e2, e3⟩ := hcell i hi
    exact ⟨i, n, _, rfl, e1, e3, false, c, c', rfl, rfl, hR _ _ _ (canB_len _ _) f1 hρ0 i c c' h2 e2⟩
  · rw [f1]; exact Nat.le_refl _
  · simp
  · simp
  · intro k hk
    simp at hk
    subst hk
    exact hkk
  · unfold updE
    rw [List.map_append, putC_names hl1, List.map_map]
    refine List.nodup_append.2 ⟨hnd1, ?_, ?_⟩
    · have hg : (goneJ ns.length src).Nodup := by unfold goneJ; exact List.Pairwise.filter _ List.nodup_range
      have : List.Pairwise (fun a b => ns.getD a 0 ≠ ns.getD b 0) (goneJ ns.length src) := by
        have := List.Pairwise.and_mem.1 hg
        refine this.imp fun ⟨h1, h2, h3⟩ e => h3 ?_
        have e1 := hgoneN _ (hgone _ h1).1
        have e2 := hgoneN _ (hgone _ h2).1
        rw [e] at e1
        exact inj_of_nodup hns e1 e2
      exact List.pairwise_map.2 this
    · intro a ha b hb e
      subst e
      rw [List.mem_map] at ha hb
      obtain ⟨o, ho, rfl⟩ := ha
      obtain ⟨j, hjm, hje⟩ := hb
      obtain ⟨g1, g2⟩ := hgone j hjm
      have e1 := hgoneN j g1
      simp only [Function.comp] at hje
      rw [hje] at e1
      rcases hnmU o ho with ⟨rfl, e2⟩ | ⟨j', rfl, e2, e3⟩
      · rw [e2] at e1
        exact hbn (List.mem_of_getElem? e1)
      · rw [inj_of_nodup hns e1 e3] at g2
        exact g2 ho
  · intro m x hmx
    unfold updE at hmx
    rcases List.mem_append.1 hmx with hmx | hmx
    · obtain ⟨i, c, h1, h2, rfl⟩ := putC_mem hmx
      have hi : i < C2.k := by
        have := (List.getElem?_eq_some_iff.1 h2).1
        rwa [C2.len] at this
      have e1 : i < (src.map (nmC P.globals.size kk)).length := by rw [List.length_map, hk]; exact hi
      have e2 : i < (C2.place (src.map (nmC P.globals.size kk)) (next s)).length := by rw [C2.len]; exact hi
      have hb := hback i _ _ (List.getElem?_eq_getElem e1) (List.getElem?_eq_getElem e2)
      have hRO : RO (ρ1 P.globals.size ns [kk] base) (.cells false (C2.place (src.map (nmC P.globals.size kk)) (next s))[i]) (.cells false c) :=
        ⟨false, _, _, rfl, rfl, hR2 _ _ _ (by rw [List.length_map, hk]) (by rw [List.length_map, hk]) hname i _ _ (List.getElem?_eq_getElem e2) h2⟩
      have e3 : i < src.length := by rw [hk]; exact hi
      rw [List.getElem?_map, List.getElem?_eq_getElem e3] at h1
      simp only [Option.map_some, Option.some.injEq] at h1
      rw [List.getElem_map] at hb
      have hmem : src[i] ∈ src := List.getElem_mem e3
      rcases hnmU _ hmem with ⟨g1, g2⟩ | ⟨j, g1, g2, g3⟩
      · rw [g2] at h1
        rw [g1] at hb
        exact .inr ⟨0, kk, _, _, h1.symm, rfl, rfl, hb, rfl, hRO⟩
      · rw [h1] at g3
        rw [g1] at hb
        exact .inl ⟨j, g3, .inr ⟨_, _, rfl, hb, rfl, hRO⟩⟩
    · rw [List.mem_map] at hmx
      obtain ⟨j, hjm, he⟩ := hmx
      simp only [Prod.mk.injEq] at he
      obtain ⟨rfl, rfl⟩ := he
      exact .inl ⟨j, hgoneN j (hgone j hjm).1, .inl rfl⟩
  · intro i n o hi ho hro
    have hik : i < ns.length := (List.getElem?_eq_some_iff.1 hi).1
    unfold updE
    by_cases hin : some i ∈ src
    · obtain ⟨q, hq, hqe⟩ := List.getElem_of_mem hin
      have e2 : q < (C2.place (src.map (nmU ns base)) (next s)).length := by rw [C2.len, ← hk]; exact hq
      refine ⟨_, List.mem_append.2 (.inl (putC_of (i := q) ?_ (List.getElem?_eq_getElem e2)))⟩
      rw [List.getElem?_map, List.getElem?_eq_getElem hq, hqe]
      show some (ns.getD i 0) = some n
      rw [← hgoneN i hik, hi]
    · refine ⟨none, List.mem_append.2 (.inr (List.mem_map.2 ⟨i, ?_, ?_⟩))⟩
      · unfold goneJ
        rw [List.mem_filter]
        exact ⟨List.mem_range.2 hik, by simp [hin]⟩
      · have := hgoneN i hik
        rw [hi] at this
        simp only [Option.some.injEq] at this
        rw [← this]
/-- What a method's call does where the object lies. -/
theorem methE_app {S S2 : Type} {C : Cls S} {C2 : Cls S2} {src : List (Option Nat)} {t : Nat} {val : List Nat → S → AVal} {next : S → S2} {ok : S → Bool} {H : HL} {base : Nat} {ns : List Nat} {s : S}
    (hf : C.find (aget H) t = some (ns, s)) (hn : nodupB (base :: ns) = true) (ho : ok s = true) :
    (methE C C2 src t val next ok).app base H = some (val (src.map (nmU ns base)) s, appU H (updE ns base src (C2.place (src.map (nmU ns base)) (next s)))) := by
  unfold methE
  simp only [EffA.app, hf, hn, ho, Bool.and_self, cond_true]
/-- A method's answer: its value, the cells of some blocks, the obligations. -/
def ansM (ns : List Nat) (x : Option ((AVal × HL × Nat) × List Bool)) : Option (AVal × List (Option AObj) × List Bool) :=
  match x with
  | some ((v, H, _), ob) => some (v, ns.map (aget H), ob)
  | none => none
theorem methRun_of {S S2 : Type} {P : Program} {ps : PS} {cs : CS} (hps : PSOk ps cs) {G : Nat} (hG : P.globals.size = G) {f : FuncId} {C : Cls S} {C2 : Cls S2} {src : List (Option Nat)} {xs : List AVal} {s : S} {v : List Nat → AVal} {s2 : S2}
    {sy : List Nat} {os : List Bool} {vs : List AVal} {nn F : Nat} {ob : List Bool} (kk : Nat)
    (h : ansM (src.map (nmC G kk)) (run1O P ps cs sy os vs nn F f (.ptr G 0 :: xs) (heapOf (canB G C.k) (C.place (canB G C.k) s)) (G + C.k)) = some (v (src.map (nmC G kk)), (C2.place (src.map (nmC G kk)) s2).map fun c => some (.cells false c), ob))
    (ha : allT ob = true) (hkk : Nat.ble (G + C.k) kk = true) : MethRun P cs f C C2 src xs s v s2 := by
  subst hG
  unfold ansM at h
  split at h
  · rename_i v' H' fr' ob' hr
    simp only [Option.some.injEq, Prod.mk.injEq] at h
    obtain ⟨rfl, h2, rfl⟩ := h
    refine ⟨nn, F, H', fr', kk, run1O_ok hps hr ha, Nat.le_of_ble_eq_true hkk, fun i m c h1 h3 => ?_⟩
    have e := congrArg (fun l => l[i]?) h2
    simp only [List.getElem?_map] at e
    rw [List.getElem?_map] at h1
    cases hs : src[i]? with
    | none => rw [hs] at h1; simp at h1
    | some o =>
      rw [hs] at h1
      simp only [Option.map_some, Option.some.injEq] at h1
      rw [hs, h3] at e
      simp only [Option.map_some, Option.some.injEq] at e
      rw [← h1]
      exact e
  · cases h
/-- Words out of a row of cells. -/
def unU : List AVal → Option (List UInt64)
  | [] => some []
  | .u64 x :: l => match unU l with
    | some r => some (x :: r)
    | none => none
  | _ :: _ => none
theorem unU_map : ∀ L : List UInt64, unU (L.map .u64) = some L
  | [] => rfl
  | x :: L => by rw [List.map_cons, unU, unU_map L]
theorem unU_some : ∀ {l : List AVal} {L : List UInt64}, unU l = some L → l = L.map .u64
  | [], L, h => by cases h; rfl
  | .u64 x :: l, L, h => by
    have e : unU (.u64 x :: l) = (match unU l with
      | some r => some (x :: r)
      | none => none) := rfl
    rw [e] at h
    cases hu : unU l with
    | none => rw [hu] at h; cases h
    | some r =>
      rw [hu] at h
      cases h
      rw [unU_some hu]; rfl
  | .u8 _ :: _, _, h | .u32 _ :: _, _, h | .bool _ :: _, _, h | .b64 _ :: _, _, h | .int _ _ :: _, _, h | .str _ :: _, _, h | .nilPtr :: _, _, h | .ptr _ _ :: _, _, h | .nilSlice :: _, _, h | .slice _ _ _ _ :: _, _, h
  | .nilMap :: _, _, h | .map _ :: _, _, h | .nilFunc :: _, _, h | .fn _ _ :: _, _, h | .nilIface :: _, _, h | .iface _ _ :: _, _, h | .agg _ :: _, _, h | .tup _ :: _, _, h | .tp _ _ _ :: _, _, h => by cases h
end Go.Eng

/- Engine, part 44: a round that holds loops of its own: its end is brought to the head apart. -/
namespace Go.Eng
set_option linter.unusedVariables false
set_option linter.unusedSimpArgs false
open Go
def headX (dl : List Nat) (P : Program) (bs : Nat) (s0 s : SA) : Option (SA × List Bool) :=
  match renAllx dl P bs (pairsT s0.fr 0 s0.T s.T) s [] with
  | some (r, ob) => some (⟨reshape s0.T r.T, reshapeH s0.H r.H ++ extraH s0.H s0.fr r.H, s0.fr⟩, ob)
  | none => none
theorem headX_ok {dl : List Nat} {P : Program} {bs : Nat} {s0 s s1 : SA} {ob : List Bool} (h : headX dl P bs s0 s = some (s1, ob)) (ha : allT ob = true) (ho : okS P s1 = true) : headA P bs s0 s = s1 := by
  unfold headX at h
  split at h
  · rename_i r ob' hr
    simp only [Option.some.injEq, Prod.mk.injEq] at h
    obtain ⟨h1, rfl⟩ := h
    obtain ⟨e1, _⟩ := renAllx_ok hr ha
    refine headS_eq ?_ ho
    unfold headS
    simp only
    rw [e1]
    exact h1
  · cases h
/-- A round out of its pieces. -/
theorem round_of44 {P : Program} {cs : CS} {nt nn F bs : Nat} {b : Code} {s0 s s1 s2 : SA} {dl : List Nat} {ob : List Bool} (he : evS P cs nt nn F bs (pieces b) s = some (.normal, s1)) (hh : headX dl P bs s0 s1 = some (s2, ob)) (ha : allT ob = true) (ho : okS P s2 = true) :
    roundA (evC P cs nt nn F bs b) (headA P bs s0) s = some s2 := by
  simp only [roundA, evC_pieces, he, headX_ok hh ha ho]
end Go.Eng
