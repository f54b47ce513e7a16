/- Texts Eng24, Eng39, Eng27, Eng28, Eng40, Eng41, Eng44, Eng45, Pv1, Pv2, Pl0, Pl1, Pl2, Pl3: what they show stands ahead of each. -/
import Derived.Test.YticajoggdghdkaaT5
import Derived.Test.YticajoggdghdkaaChecked
/- Engine, part 24: calls that hand back a new block. -/
namespace Go.Eng
set_option linter.unusedVariables false
set_option linter.unusedSimpArgs false
open Go
/-- The first name in a value. -/
def newN : AVal → Option Nat
  | .ptr n _ => some n
  | .slice n _ _ _ => some n
  | .tup vs => newL vs
  | _ => none
where newL : List AVal → Option Nat
  | [] => none
  | .ptr n _ :: _ => some n
  | .slice n _ _ _ :: _ => some n
  | _ :: l => newL l
/-- As 'viewE', of a function that hands back a new block of plain data. -/
def viewN (P : Program) (cs : CS) (nn F : Nat) (f : FuncId) (ns : List Nat) (cargs : List AVal) : EffA :=
  .eff fun base η => match objsA η ns P.globals.size with
    | none => none
    | some Ho => match run1 P cs nn F f cargs (globA η P.globals.size 0 ++ Ho) (P.globals.size + ns.length) with
      | none => none
      | some (v, H', _) => match backA η H' ns P.globals.size with
        | none => none
        | some us => match newN v with
          | none => none
          | some k => match aget H' k with
            | some (.cells false c) => match renV k 0 v with
              | none => none
              | some v1 => match renV 0 base v1 with
                | none => none
                | some v2 => cond (ltV 1 v1 && ltL 0 c && nodupB ns && Nat.ble (P.globals.size + ns.length) k) (some (v2, us ++ [(base, some (.cells false c))])) none
            | _ => none
theorem appU_append : ∀ {us : List (Nat × Option AObj)} {vs : List (Nat × Option AObj)} {H : HL}, (∀ m x, (m, x) ∈ us → x.isSome = true) → appU H (us ++ vs) = appU (appU H us) vs
  | [], vs, H, _ => rfl
  | (n, none) :: us, vs, H, h => by have := h n none (List.mem_cons_self ..); cases this
  | (n, some o) :: us, vs, H, h => by
    simp only [List.cons_append, appU]
    exact appU_append fun m x hx => h m x (List.mem_cons_of_mem _ hx)
theorem callOk_viewN {P : Program} {cs : CS} (hcs : CSOk P cs) (hm : P.follows .mixedOrders = true) {nn F : Nat} {f : FuncId} {args cargs : List AVal} {ns : List Nat} (hcan : canL P.globals.size [] args = some (cargs, ns)) : CallOk P f args (viewN P cs nn F f ns cargs) := by
  intro σ args' H w base v0 H0 hl hg hH happ hfree
  simp only [viewN, EffA.app] at happ
  cases hobj : objsA (aget H) ns P.globals.size with
  | none => rw [hobj] at happ; cases happ
  | some Ho =>
  rw [hobj] at happ
  simp only at happ
  cases hrun : run1 P cs nn F f cargs (globA (aget H) P.globals.size 0 ++ Ho) (P.globals.size + ns.length) with
  | none => rw [hrun] at happ; cases happ
  | some r =>
  obtain ⟨v, H', fr'⟩ := r
  rw [hrun] at happ
  simp only at happ
  cases hback : backA (aget H) H' ns P.globals.size with
  | none => rw [hback] at happ; cases happ
  | some us =>
  rw [hback] at happ
  simp only at happ
  cases hnew : newN v with
  | none => rw [hnew] at happ; cases happ
  | some k =>
  rw [hnew] at happ
  simp only at happ
  cases hblk : aget H' k with
  | none => rw [hblk] at happ; cases happ
  | some obk =>
  obtain ⟨rok, ck⟩ := obk
  cases rok with
  | true => rw [hblk] at happ; cases happ
  | false =>
  rw [hblk] at happ
  simp only at happ
  cases hr0 : renV k 0 v with
  | none => rw [hr0] at happ; cases happ
  | some v1 =>
  rw [hr0] at happ
  simp only at happ
  cases hr1 : renV 0 base v1 with
  | none => rw [hr1] at happ; cases happ
  | some v2 =>
  rw [hr1] at happ
  simp only at happ
  cases hcond : (ltV 1 v1 && ltL 0 ck && nodupB ns && Nat.ble (P.globals.size + ns.length) k) with
  | false => rw [hcond] at happ; cases happ
  | true =>
  rw [hcond] at happ
  simp only [cond_true, Option.some.injEq, Prod.mk.injEq] at happ
  obtain ⟨rfl, rfl⟩ := happ
  simp only [Bool.and_eq_true] at hcond
  obtain ⟨⟨⟨hv1, hck⟩, hnd⟩, hkk⟩ := hcond
  have hkk := Nat.le_of_ble_eq_true hkk
  have hnd := nodupB_ok hnd
  obtain ⟨fn, body, hf, hb, hrunF⟩ := run1_some hrun
  obtain ⟨u1, u2⟩ := backA_mem hback
  have husome : ∀ m x, (m, x) ∈ us → x.isSome = true := fun m x hx => by
    obtain ⟨c, i, c0, e, _⟩ := u1 m x hx
    rw [e]; rfl
  -- what the callee sees
  have heap : ∀ m o, aget (globA (aget H) P.globals.size 0 ++ Ho) m = some o → ∃ n ro c, aget H n = some o ∧ o = .cells ro c ∧ ltL 0 c = true ∧ sigC P.globals.size ns σ m = σ n ∧ ((m < P.globals.size ∧ n = m ∧ ro = true) ∨ ∃ i, m = P.globals.size + i ∧ ns[i]? = some n) := fun m o hmo => by
    rcases aget_append hmo with h1 | h1
    · obtain ⟨_, a2, a3, c, a4, a5⟩ := globA_get m o h1
      refine ⟨m, true, c, a3, a4, a5, ?_, .inl ⟨by omega, rfl, rfl⟩⟩
      unfold sigC
      rw [if_pos (by omega)]
    · obtain ⟨a1, n, a2, a3, ro, c, a4, a5⟩ := objsA_get hobj m o h1
      have e : m = P.globals.size + (m - P.globals.size) := by omega
      refine ⟨n, ro, c, a3, a4, a5, ?_, .inr ⟨m - P.globals.size, e, a2⟩⟩
      rw [e]
      exact sigC_at a2
  have hgc : GRel P (sigC P.globals.size ns σ) := fun g hgl => by
    obtain ⟨sz, hs⟩ := hg g hgl
    exact ⟨sz, by unfold sigC; rw [if_pos hgl]; exact hs⟩
  have hfr : Fresh (sigC P.globals.size ns σ) (P.globals.size + ns.length) := fun m hm' => by
    unfold sigC
    rw [if_neg (by omega), List.getElem?_eq_none (by omega)]
  obtain ⟨_, hlen, hcv⟩ := canL_ok hcan
  have hlc : LR (sigC P.globals.size ns σ) cargs args' := by
    refine ⟨by rw [hlen]; exact hl.1, fun i u u' h1 h2 => ?_⟩
    have := hcv [] σ i u u' h1 fun x hx => hl.2 i x u' hx h2
    rwa [List.append_nil] at this
  have hHc : HRel (sigC P.globals.size ns σ) (aget (globA (aget H) P.globals.size 0 ++ Ho)) w := by
    refine ⟨fun m o hmo => ?_, fun m m' o o' q q' h1 h2 hq hq' he => ?_⟩
    · obtain ⟨n, ro, c, a1, rfl, a3, a4, _⟩ := heap m o hmo
      obtain ⟨p, hp, hor⟩ := hH.obj n _ a1
      exact ⟨p, by rw [a4]; exact hp, hor.plain a3⟩
    · obtain ⟨n, ro, c, a1, rfl, a3, a4, a5⟩ := heap m o h1
      obtain ⟨n', ro', c', b1, rfl, b3, b4, b5⟩ := heap m' o' h2
      rw [a4] at hq
      rw [b4] at hq'
      rcases hH.inj n n' _ _ q q' a1 b1 hq hq' he with e | e
      · subst e
        rw [a1] at b1
        cases b1
        rcases a5 with ⟨x1, x2, x3⟩ | ⟨i, x1, x2⟩ <;> rcases b5 with ⟨y1, y2, y3⟩ | ⟨j, y1, y2⟩
        · exact .inl (by omega)
        · subst x3; exact .inr ⟨rfl, rfl⟩
        · subst y3; exact .inr ⟨rfl, rfl⟩
        · left
          have h3 := (List.getElem?_eq_some_iff.1 x2)
          have h4 := (List.getElem?_eq_some_iff.1 y2)
          obtain ⟨hi, ei⟩ := h3
          obtain ⟨hj, ej⟩ := h4
          have : i = j := (List.getElem_inj hnd).1 (ei.trans ej.symm)
          omega
      · exact .inr e
  refine (runF_ok hcs hm hf hb hrunF hlc hHc hgc hfr).mono fun r w' hrw => ?_
  obtain ⟨σ', v', rfl, g1, g2, g3, g4⟩ := hrw
  -- what the callee may write, the caller may
  have hown : ∀ b, Own (sigC P.globals.size ns σ) (aget (globA (aget H) P.globals.size 0 ++ Ho)) b → ∃ n c p, n ∈ ns ∧ aget H n = some (.cells false c) ∧ σ n = some p ∧ p.blk = b := fun b ⟨m, o, p, a1, a2, a3, a4⟩ => by
    obtain ⟨n, ro, c, b1, rfl, b3, b4, b5⟩ := heap m o a1
    have hro : ro = false := a2
    subst hro
    rw [b4] at a3
    rcases b5 with ⟨_, _, x⟩ | ⟨i, _, x⟩
    · cases x
    · exact ⟨n, c, p, List.mem_of_getElem? x, b1, a3, a4⟩
  have hold : ∀ b, b < w.heap.size → (∀ n c p, n ∈ ns → aget H n = some (.cells false c) → σ n = some p → p.blk ≠ b) → w'.heap[b]? = w.heap[b]? := fun b hb hne =>
    (g3.old b hb fun ho => by
      obtain ⟨n, c, p, a1, a2, a3, a4⟩ := hown b ho
      exact hne n c p a1 a2 a3 a4).1
  have orig : ∀ m ob, aget (appU H us) m = some ob → ∃ ob0, aget H m = some ob0 ∧ ob0.ro = ob.ro := fun m ob hmo => by
    rcases appU_get husome (H := H) m with ⟨o, a1, a2⟩ | ⟨_, a2⟩
    · obtain ⟨c, i, c0, e1, _, _, _, e5⟩ := u1 m _ a1
      rw [hmo] at a2
      cases a2
      cases e1
      exact ⟨_, e5, rfl⟩
    · exact ⟨ob, by rw [← a2]; exact hmo, rfl⟩
  have hbn : σ base = none := hfree 0 (by omega)
  obtain ⟨pk, hpk, hork⟩ := g2.obj k _ hblk
  have ownk : Own σ' (aget H') pk.blk := ⟨k, _, pk, hblk, rfl, hpk, rfl⟩
  -- the new block is none of the caller's
  have fresh : ∀ m ob q, aget H m = some ob → σ m = some q → q.blk ≠ pk.blk := fun m ob q hmo hq he => by
    obtain ⟨q', hq', hor⟩ := hH.obj m ob hmo
    rw [hq] at hq'; cases hq'
    by_cases hin : ∃ c, m ∈ ns ∧ ob = .cells false c
    · obtain ⟨c, h1, rfl⟩ := hin
      obtain ⟨x, hx⟩ := u2 m c h1 hmo
      obtain ⟨c1, i, c0, e1, e2, e3, e4, e5⟩ := u1 m x hx
      have hq2 : σ' (P.globals.size + i) = some q := g3.ext _ _ (by rw [sigC_at e3]; exact hq)
      rcases g2.inj _ _ _ _ _ _ e4 hblk hq2 hpk he with e | ⟨e, _⟩
      · have := (List.getElem?_eq_some_iff.1 e3).1
        omega
      · cases e
    · refine (g3.old q.blk hor.lt fun ho => ?_).2 (he ▸ ownk)
      obtain ⟨n, c, p, a1, a2, a3, a4⟩ := hown _ ho
      rcases hH.inj n m _ ob p q a2 hmo a3 hq a4 with e | ⟨e, _⟩
      · subst e
        rw [a2] at hmo
        cases hmo
        exact hin ⟨c, a1, rfl⟩
      · cases e
  have hbase : aget (appU H us) base = none := by
    cases hb : aget (appU H us) base with
    | none => rfl
    | some ob =>
      obtain ⟨ob0, h1, _⟩ := orig base ob hb
      obtain ⟨p, hp, _⟩ := hH.obj base ob0 h1
      rw [hbn] at hp; cases hp
  have app : ∀ m, aget (appU H (us ++ [(base, some (.cells false ck))])) m = if base = m then some (.cells false ck) else aget (appU H us) m := fun m => by
    rw [appU_append husome]
    simp only [appU]
    rw [aget_aset]
  have vr : VR (σ.set base pk) v2 v' := by
    have h1 := ltV_ok hv1 (renV_ok hr0 g1)
    refine (renV_ok hr1 h1).mono fun n p hp => ?_
    unfold Sig.ren at hp
    split at hp
    · rename_i e
      subst e
      have hp1 := cut_le 1 (Sig.ren k 0 σ') 0 p hp
      have hp2 : σ' k = some p := by simpa [Sig.ren] using hp1
      rw [hpk] at hp2; cases hp2
      exact Sig.set_same σ n _
    · split at hp
      · cases hp
      · rename_i e1 e2
        simp only [Go.Eng.cut] at hp
        rw [if_neg (by omega)] at hp
        cases hp
  have base0 : HRel σ (aget (appU H us)) w' := by
    refine ⟨fun m ob hmo => ?_, fun m1 m2 o1 o2 q1 q2 h1 h2 hq1 hq2 he => ?_⟩
    · rcases appU_get husome (H := H) m with ⟨o, a1, a2⟩ | ⟨a1, a2⟩
      · obtain ⟨c, i, c0, e1, e2, e3, e4, e5⟩ := u1 m _ a1
        rw [hmo] at a2
        cases a2
        cases e1
        obtain ⟨p, hp, _⟩ := hH.obj m _ e5
        refine ⟨p, hp, ?_⟩
        obtain ⟨q, hq, hor⟩ := g2.obj _ _ e4
        have : q = p := Option.some.inj (hq.symm.trans (g3.ext _ _ (by rw [sigC_at e3]; exact hp)))
        subst this
        exact hor.plain e2
      · rw [a2] at hmo
        obtain ⟨p, hp, hor⟩ := hH.obj m ob hmo
        refine ⟨p, hp, hor.mono (Sig.le_refl σ) (hold _ hor.lt fun n c q k1 k2 k3 k4 => ?_)⟩
        rcases hH.inj n m _ ob q p k2 hmo k3 hp k4 with e | ⟨e, _⟩
        · subst e
          obtain ⟨x, hx⟩ := u2 n c k1 k2
          exact a1 x hx
        · cases e
    · obtain ⟨x1, y1, z1⟩ := orig m1 o1 h1
      obtain ⟨x2, y2, z2⟩ := orig m2 o2 h2
      rcases hH.inj m1 m2 x1 x2 q1 q2 y1 y2 hq1 hq2 he with e | ⟨e1, e2⟩
      · exact .inl e
      · exact .inr ⟨z1 ▸ e1, z2 ▸ e2⟩
  refine ⟨σ.set base pk, v', rfl, vr, ⟨fun m ob hmo => ?_, fun m1 m2 o1 o2 q1 q2 h1 h2 hq1 hq2 he => ?_⟩, ⟨Sig.le_set hbn pk, g3.size, g3.os, g3.output, g3.tape, fun b hb hno => ⟨hold b hb fun n c p k1 k2 k3 k4 => hno ⟨n, _, p, k2, rfl, k3, k4⟩, ?_⟩⟩, fun n hn => Sig.set_other σ _ (by omega)⟩
  · rw [app] at hmo
    split at hmo
    · rename_i e
      subst e
      cases hmo
      exact ⟨pk, Sig.set_same σ base pk, hork.plain hck⟩
    · rename_i e
      obtain ⟨p, hp, hor⟩ := base0.obj m ob hmo
      exact ⟨p, by rw [Sig.set_other σ _ (Ne.symm e)]; exact hp, hor.mono (Sig.le_set hbn pk) rfl⟩
  · rw [app] at h1 h2
    split at h1 <;> split at h2
    · rename_i e1 e2; exact .inl (e1.symm.trans e2)
    · rename_i e1 e2
      subst e1
      rw [Sig.set_same] at hq1; cases hq1
      rw [Sig.set_other σ _ (Ne.symm e2)] at hq2
      obtain ⟨x2, y2, _⟩ := orig m2 o2 h2
      exact absurd he.symm (fresh m2 x2 q2 y2 hq2)
    · rename_i e1 e2
      subst e2
      rw [Sig.set_same] at hq2; cases hq2
      rw [Sig.set_other σ _ (Ne.symm e1)] at hq1
      obtain ⟨x1, y1, _⟩ := orig m1 o1 h1
      exact absurd he (fresh m1 x1 q1 y1 hq1)
    · rename_i e1 e2
      rw [Sig.set_other σ _ (Ne.symm e1)] at hq1
      rw [Sig.set_other σ _ (Ne.symm e2)] at hq2
      exact base0.inj m1 m2 o1 o2 q1 q2 h1 h2 hq1 hq2 he
  · rintro ⟨m, o, q, k1, k2, k3, k4⟩
    rw [app] at k1
    split at k1
    · rename_i e
      subst e
      rw [Sig.set_same] at k3; cases k3
      refine (g3.old b hb fun ho => ?_).2 (k4 ▸ ownk)
      obtain ⟨n, c, p, a1, a2, a3, a4⟩ := hown b ho
      exact hno ⟨n, _, p, a2, rfl, a3, a4⟩
    · rename_i e
      rw [Sig.set_other σ _ (Ne.symm e)] at k3
      obtain ⟨x1, y1, z1⟩ := orig m o k1
      exact hno ⟨m, x1, q, y1, by rw [z1]; exact k2, k3, k4⟩
/-- The one effect, or where it does not serve the other one. -/
def orE (a b : EffA) : EffA :=
  match a, b with
  | .eff f, .eff g => .eff fun base η => match f base η with
    | some r => some r
    | none => g base η
  | a, _ => a
theorem orE_ok {P : Program} {f : FuncId} {args : List AVal} {a b : EffA} (ha : CallOk P f args a) (hb : CallOk P f args b) : CallOk P f args (orE a b) := by
  cases a with
  | eff fa => cases b with
    | eff fb =>
      intro σ args' H w base v H' hl hg hH happ hf
      simp only [orE, EffA.app] at happ
      cases h : fa base (aget H) with
      | some r =>
        rw [h] at happ
        exact ha σ args' H w base v H' hl hg hH (by simp only [EffA.app, h]; exact happ) hf
      | none =>
        rw [h] at happ
        exact hb σ args' H w base v H' hl hg hH (by simp only [EffA.app]; exact happ) hf
    | pure _ => exact ha
    | read _ _ => exact ha
    | alloc _ _ => exact ha
  | pure _ => exact ha
  | read _ _ => exact ha
  | alloc _ _ => exact ha
/-- Calls carried out in place: of plain data, on blocks, with a new block. -/
def inlW (P : Program) (nn : FuncId → Nat) (F : Nat) (cs : CS) : Nat → CS
  | 0 => cs
  | n + 1 => fun f args => match cs f args with
    | some e => some e
    | none => match canL P.globals.size [] args with
      | none => none
      | some (cargs, ns) => match ns with
        | [] => match run1 P (inlW P nn F cs n) (nn f) F f args [] P.globals.size with
          | some (v, _, _) => cond (allV args && ltV 0 v) (some (.pure v)) (some (orE (viewE P (inlW P nn F cs n) (nn f) F f [] cargs) (viewN P (inlW P nn F cs n) (nn f) F f [] cargs)))
          | none => some (orE (viewE P (inlW P nn F cs n) (nn f) F f [] cargs) (viewN P (inlW P nn F cs n) (nn f) F f [] cargs))
        | k :: ks => some (orE (viewE P (inlW P nn F cs n) (nn f) F f (k :: ks) cargs) (viewN P (inlW P nn F cs n) (nn f) F f (k :: ks) cargs))
theorem inlW_ok {P : Program} (hm : P.follows .mixedOrders = true) {nn : FuncId → Nat} {F : Nat} {cs : CS} (hcs : CSOk P cs) : ∀ n, CSOk P (inlW P nn F cs n)
  | 0 => hcs
  | n + 1 => fun f args e h => by
    have ih := inlW_ok hm (nn := nn) (F := F) hcs n
    simp only [inlW] at h
    split at h
    · rename_i e' he
      cases h
      exact hcs f args e he
    · split at h
      · cases h
      · rename_i cargs ns hcan
        split at h
        · split at h
          · rename_i v H' fr' hr
            cases hb : (allV args && ltV 0 v) <;> rw [hb] at h <;> simp only [cond_true, cond_false] at h
            · cases h
              exact orE_ok (callOk_view ih hm hcan) (callOk_viewN ih hm hcan)
            · cases h
              simp only [Bool.and_eq_true] at hb
              exact callOk_run ih hm hr hb.1 hb.2
          · cases h
            exact orE_ok (callOk_view ih hm hcan) (callOk_viewN ih hm hcan)
        · cases h
          exact orE_ok (callOk_view ih hm hcan) (callOk_viewN ih hm hcan)
end Go.Eng

/- Engine, part 39: calls on one block, whose form is looked at; words and bytes of a block. -/
namespace Go.Eng
set_option linter.unusedVariables false
set_option linter.unusedSimpArgs false
open Go
/-- What a call does with the one block that it is handed. -/
def oneE (n : Nat) (k : (Nat → Option AObj) → List AVal → Option (AVal × List AVal)) : EffA :=
  .eff fun _ η => match η n with
    | some (.cells false c) => match k η c with
      | some (v, c') => some (v, [(n, some (.cells false c'))])
      | none => none
    | _ => none
theorem callOk_one {P : Program} {cs : CS} (hcs : CSOk P cs) (hm : P.follows .mixedOrders = true) {f : FuncId} {args cargs : List AVal} {n : Nat} (hcan : canL P.globals.size [] args = some (cargs, [n])) {k : (Nat → Option AObj) → List AVal → Option (AVal × List AVal)}
    (h : ∀ η c v c', k η c = some (v, c') → ltL 0 c = true ∧ ltL 0 c' = true ∧ ltV 0 v = true ∧ ∃ F nn H' fr', run1 P cs nn F f cargs (globA η P.globals.size 0 ++ [(P.globals.size, .cells false c)]) (P.globals.size + 1) = some (v, H', fr') ∧ aget H' P.globals.size = some (.cells false c')) : CallOk P f args (oneE n k) := by
  intro σ args' H w base v0 H0 hl hg hH happ hfree
  unfold oneE EffA.app at happ
  simp only at happ
  cases hn : aget H n with
  | none => rw [hn] at happ; cases happ
  | some ob =>
    obtain ⟨ro, c⟩ := ob
    rw [hn] at happ
    cases ro with
    | true => cases happ
    | false =>
      simp only at happ
      cases hk : k (aget H) c with
      | none => rw [hk] at happ; cases happ
      | some r =>
        obtain ⟨v, c'⟩ := r
        rw [hk] at happ
        simp only [Option.some.injEq, Prod.mk.injEq] at happ
        obtain ⟨rfl, rfl⟩ := happ
        obtain ⟨h1, h2, h3, F, nn, H', fr', h4, h5⟩ := h (aget H) c v c' hk
        refine callOk_view hcs hm (nn := nn) (F := F) hcan σ args' H w base v _ hl hg hH ?_ hfree
        unfold viewE EffA.app
        simp only [objsA, hn, h1, cond_true]
        have h4' : run1 P cs nn F f cargs (globA (aget H) P.globals.size 0 ++ [(P.globals.size, .cells false c)]) (P.globals.size + [n].length) = some (v, H', fr') := h4
        rw [h4']
        simp only [backA, hn, h5, h2, cond_true, h3, nodupB, List.all_nil, Bool.and_self]
/-- What a function with one result hands back. -/
theorem run1_fin1 {P : Program} {cs : CS} {nn F : Nat} {f : FuncId} {fn : Func} {c : Code} {args : List AVal} {H : HL} {fr : Nat} (hf : P.funcs[f]? = some fn) (hb : fn.body = some c) (hn : Nat.ble args.length fn.ntmps = true)
    {x : XA} {s : SA} (he : evS P cs fn.ntmps nn F fr (pieces c) ⟨startT args 0, H, fr⟩ = some (x, s)) (hx : x = .normal ∨ x = .ret) {v : AVal} (hr : resA P s.T s.H fn.results.toList = some [v]) : run1 P cs nn F f args H fr = some (v, s.H, s.fr) := by
  unfold run1
  simp only [hf, hb]
  unfold runF
  rw [hn, evC_pieces, he]
  rcases hx with rfl | rfl
  all_goals simp only [cond_true, hr]
theorem psOne_ok {P : Program} {f : FuncId} {g : List AVal → Option (EffA × Bool)} (h : ∀ args e, g args = some (e, true) → CallOk P f args e) : CSOk P (csP (psOne f g)) := by
  intro f' args e he
  unfold csP psOne at he
  cases hf : Nat.beq f' f with
  | false => rw [hf] at he; cases he
  | true =>
    rw [hf] at he
    have hf := Nat.eq_of_beq_eq_true hf
    subst hf
    simp only at he
    cases hg : g args with
    | none => rw [hg] at he; cases he
    | some r =>
      obtain ⟨e', c⟩ := r
      rw [hg] at he
      cases c with
      | false => cases he
      | true => cases he; exact h args _ hg
/-! ### words and bytes of a block -/
def gU (c : List AVal) (j : Nat) : UInt64 := match c[j]? with
  | some (.u64 x) => x
  | _ => 0
def gB (c : List AVal) (j : Nat) : UInt8 := match c[j]? with
  | some (.u8 x) => x
  | _ => 0
def shU : Nat → List AVal → Option (List AVal)
  | 0, c => some c
  | n + 1, .u64 _ :: c => shU n c
  | _ + 1, _ => none
def shB : Nat → List AVal → Option (List AVal)
  | 0, c => some c
  | n + 1, .u8 _ :: c => shB n c
  | _ + 1, _ => none
theorem cellsU_succ (n : Nat) (f : Nat → UInt64) : cellsU (n + 1) f = .u64 (f 0) :: cellsU n fun j => f (j + 1) := by
  unfold cellsU
  rw [List.range_succ_eq_map, List.map_cons, List.map_map]; rfl
theorem cellsB_succ (n : Nat) (f : Nat → UInt8) : cellsB (n + 1) f = .u8 (f 0) :: cellsB n fun j => f (j + 1) := by
  unfold cellsB
  rw [List.range_succ_eq_map, List.map_cons, List.map_map]; rfl
theorem shU_ok : ∀ {n : Nat} {c r : List AVal}, shU n c = some r → c = cellsU n (gU c) ++ r
  | 0, c, r, h => by cases h; rfl
  | n + 1, [], r, h => by cases h
  | n + 1, .u64 x :: c, r, h => by
    have := shU_ok (n := n) (c := c) h
    rw [cellsU_succ]
    have e : cellsU n (fun j => gU (.u64 x :: c) (j + 1)) = cellsU n (gU c) := cellsU_congr fun i _ => by unfold gU; simp
    rw [e]
    show AVal.u64 x :: c = AVal.u64 x :: (cellsU n (gU c) ++ r)
    rw [← this]
  | n + 1, .bool _ :: c, r, h | n + 1, .u8 _ :: c, r, h | n + 1, .u32 _ :: c, r, h | n + 1, .b64 _ :: c, r, h | n + 1, .int _ _ :: c, r, h | n + 1, .str _ :: c, r, h | n + 1, .nilPtr :: c, r, h | n + 1, .ptr _ _ :: c, r, h | n + 1, .nilSlice :: c, r, h
  | n + 1, .slice _ _ _ _ :: c, r, h | n + 1, .nilMap :: c, r, h | n + 1, .map _ :: c, r, h | n + 1, .nilFunc :: c, r, h | n + 1, .fn _ _ :: c, r, h | n + 1, .nilIface :: c, r, h | n + 1, .iface _ _ :: c, r, h | n + 1, .agg _ :: c, r, h | n + 1, .tup _ :: c, r, h => by cases h
theorem shB_ok : ∀ {n : Nat} {c r : List AVal}, shB n c = some r → c = cellsB n (gB c) ++ r
  | 0, c, r, h => by cases h; rfl
  | n + 1, [], r, h => by cases h
  | n + 1, .u8 x :: c, r, h => by
    have := shB_ok (n := n) (c := c) h
    rw [cellsB_succ]
    have e : cellsB n (fun j => gB (.u8 x :: c) (j + 1)) = cellsB n (gB c) := cellsB_congr fun i _ => by unfold gB; simp
    rw [e]
    show AVal.u8 x :: c = AVal.u8 x :: (cellsB n (gB c) ++ r)
    rw [← this]
  | n + 1, .bool _ :: c, r, h | n + 1, .u64 _ :: c, r, h | n + 1, .u32 _ :: c, r, h | n + 1, .b64 _ :: c, r, h | n + 1, .int _ _ :: c, r, h | n + 1, .str _ :: c, r, h | n + 1, .nilPtr :: c, r, h | n + 1, .ptr _ _ :: c, r, h | n + 1, .nilSlice :: c, r, h
  | n + 1, .slice _ _ _ _ :: c, r, h | n + 1, .nilMap :: c, r, h | n + 1, .map _ :: c, r, h | n + 1, .nilFunc :: c, r, h | n + 1, .fn _ _ :: c, r, h | n + 1, .nilIface :: c, r, h | n + 1, .iface _ _ :: c, r, h | n + 1, .agg _ :: c, r, h | n + 1, .tup _ :: c, r, h => by cases h
/-- A function, of the first places alone. -/
def nU (k : Nat) (f : Nat → UInt64) : Nat → UInt64 := fun j => if j < k then f j else 0
def nB (k : Nat) (f : Nat → UInt8) : Nat → UInt8 := fun j => if j < k then f j else 0
theorem gU_cellsU (k : Nat) (f : Nat → UInt64) : gU (cellsU k f) = nU k f := by
  funext j
  unfold gU nU
  by_cases h : j < k
  · rw [cellsU_at f h, if_pos h]
  · rw [List.getElem?_eq_none (by rw [cellsU_len]; omega), if_neg h]
theorem gB_cellsB (k : Nat) (f : Nat → UInt8) : gB (cellsB k f) = nB k f := by
  funext j
  unfold gB nB
  by_cases h : j < k
  · rw [cellsB_at f h, if_pos h]
  · rw [List.getElem?_eq_none (by rw [cellsB_len]; omega), if_neg h]
theorem nU_nU (k : Nat) (f : Nat → UInt64) : nU k (nU k f) = nU k f := by
  funext j
  unfold nU
  by_cases h : j < k <;> simp [h]
theorem nB_nB (k : Nat) (f : Nat → UInt8) : nB k (nB k f) = nB k f := by
  funext j
  unfold nB
  by_cases h : j < k <;> simp [h]
theorem cellsU_nU (k : Nat) (f : Nat → UInt64) : cellsU k (nU k f) = cellsU k f := cellsU_congr fun i h => by unfold nU; rw [if_pos h]
theorem cellsB_nB (k : Nat) (f : Nat → UInt8) : cellsB k (nB k f) = cellsB k f := cellsB_congr fun i h => by unfold nB; rw [if_pos h]
end Go.Eng

/- Engine, part 27: calls on blocks of plain data that look at no globals. -/
namespace Go.Eng
set_option linter.unusedVariables false
set_option linter.unusedSimpArgs false
open Go
/-- A call on blocks of plain data that the arguments point to. -/
def viewE0 (P : Program) (cs : CS) (nn F : Nat) (f : FuncId) (ns : List Nat) (cargs : List AVal) : EffA :=
  .eff fun _ η => match objsA η ns P.globals.size with
    | none => none
    | some Ho => match run1 P cs nn F f cargs Ho (P.globals.size + ns.length) with
      | none => none
      | some (v, H', _) => match backA η H' ns P.globals.size with
        | none => none
        | some us => cond (ltV 0 v && nodupB ns) (some (v, us)) none
theorem callOk_view0 {P : Program} {cs : CS} (hcs : CSOk P cs) (hm : P.follows .mixedOrders = true) {nn F : Nat} {f : FuncId} {args cargs : List AVal} {ns : List Nat} (hcan : canL P.globals.size [] args = some (cargs, ns)) : CallOk P f args (viewE0 P cs nn F f ns cargs) := by
  intro σ args' H w base v0 H0 hl hg hH happ hfree
  simp only [viewE0, EffA.app] at happ
  cases hobj : objsA (aget H) ns P.globals.size with
  | none => rw [hobj] at happ; cases happ
  | some Ho =>
  rw [hobj] at happ
  simp only at happ
  cases hrun : run1 P cs nn F f cargs (Ho) (P.globals.size + ns.length) with
  | none => rw [hrun] at happ; cases happ
  | some r =>
  obtain ⟨v, H', fr'⟩ := r
  rw [hrun] at happ
  simp only at happ
  cases hback : backA (aget H) H' ns P.globals.size with
  | none => rw [hback] at happ; cases happ
  | some us =>
  rw [hback] at happ
  simp only at happ
  cases hcond : (ltV 0 v && nodupB ns) with
  | false => rw [hcond] at happ; cases happ
  | true =>
  rw [hcond] at happ
  simp only [cond_true, Option.some.injEq, Prod.mk.injEq] at happ
  obtain ⟨rfl, rfl⟩ := happ
  simp only [Bool.and_eq_true] at hcond
  obtain ⟨hv, hnd⟩ := hcond
  have hnd := nodupB_ok hnd
  obtain ⟨fn, body, hf, hb, hrunF⟩ := run1_some hrun
  obtain ⟨u1, u2⟩ := backA_mem hback
  have husome : ∀ m x, (m, x) ∈ us → x.isSome = true := fun m x hx => by
    obtain ⟨c, i, c0, e, _⟩ := u1 m x hx
    rw [e]; rfl
  -- what the callee sees
  have heap : ∀ m o, aget (Ho) m = some o → ∃ n ro c, aget H n = some o ∧ o = .cells ro c ∧ ltL 0 c = true ∧ sigC P.globals.size ns σ m = σ n ∧ ((m < P.globals.size ∧ n = m ∧ ro = true) ∨ ∃ i, m = P.globals.size + i ∧ ns[i]? = some n) := fun m o hmo => by
    obtain ⟨a1, n, a2, a3, ro, c, a4, a5⟩ := objsA_get hobj m o hmo
    have e : m = P.globals.size + (m - P.globals.size) := by omega
    refine ⟨n, ro, c, a3, a4, a5, ?_, .inr ⟨m - P.globals.size, e, a2⟩⟩
    rw [e]
    exact sigC_at a2
  have hgc : GRel P (sigC P.globals.size ns σ) := fun g hgl => by
    obtain ⟨sz, hs⟩ := hg g hgl
    exact ⟨sz, by unfold sigC; rw [if_pos hgl]; exact hs⟩
  have hfr : Fresh (sigC P.globals.size ns σ) (P.globals.size + ns.length) := fun m hm' => by
    unfold sigC
    rw [if_neg (by omega), List.getElem?_eq_none (by omega)]
  obtain ⟨_, hlen, hcv⟩ := canL_ok hcan
  have hlc : LR (sigC P.globals.size ns σ) cargs args' := by
    refine ⟨by rw [hlen]; exact hl.1, fun i u u' h1 h2 => ?_⟩
    have := hcv [] σ i u u' h1 fun x hx => hl.2 i x u' hx h2
    rwa [List.append_nil] at this
  have hHc : HRel (sigC P.globals.size ns σ) (aget (Ho)) w := by
    refine ⟨fun m o hmo => ?_, fun m m' o o' q q' h1 h2 hq hq' he => ?_⟩
    · obtain ⟨n, ro, c, a1, rfl, a3, a4, _⟩ := heap m o hmo
      obtain ⟨p, hp, hor⟩ := hH.obj n _ a1
      exact ⟨p, by rw [a4]; exact hp, hor.plain a3⟩
    · obtain ⟨n, ro, c, a1, rfl, a3, a4, a5⟩ := heap m o h1
      obtain ⟨n', ro', c', b1, rfl, b3, b4, b5⟩ := heap m' o' h2
      rw [a4] at hq
      rw [b4] at hq'
      rcases hH.inj n n' _ _ q q' a1 b1 hq hq' he with e | e
      · subst e
        rw [a1] at b1
        cases b1
        rcases a5 with ⟨x1, x2, x3⟩ | ⟨i, x1, x2⟩ <;> rcases b5 with ⟨y1, y2, y3⟩ | ⟨j, y1, y2⟩
        · exact .inl (by omega)
        · subst x3; exact .inr ⟨rfl, rfl⟩
        · subst y3; exact .inr ⟨rfl, rfl⟩
        · left
          have h3 := (List.getElem?_eq_some_iff.1 x2)
          have h4 := (List.getElem?_eq_some_iff.1 y2)
          obtain ⟨hi, ei⟩ := h3
          obtain ⟨hj, ej⟩ := h4
          have : i = j := (List.getElem_inj hnd).1 (ei.trans ej.symm)
          omega
      · exact .inr e
  refine (runF_ok hcs hm hf hb hrunF hlc hHc hgc hfr).mono fun r w' hrw => ?_
  obtain ⟨σ', v', rfl, g1, g2, g3, g4⟩ := hrw
  -- what the callee may write, the caller may
  have hown : ∀ b, Own (sigC P.globals.size ns σ) (aget (Ho)) b → ∃ n c p, n ∈ ns ∧ aget H n = some (.cells false c) ∧ σ n = some p ∧ p.blk = b := fun b ⟨m, o, p, a1, a2, a3, a4⟩ => by
    obtain ⟨n, ro, c, b1, rfl, b3, b4, b5⟩ := heap m o a1
    have hro : ro = false := a2
    subst hro
    rw [b4] at a3
    rcases b5 with ⟨_, _, x⟩ | ⟨i, _, x⟩
    · cases x
    · exact ⟨n, c, p, List.mem_of_getElem? x, b1, a3, a4⟩
  have hold : ∀ b, b < w.heap.size → (∀ n c p, n ∈ ns → aget H n = some (.cells false c) → σ n = some p → p.blk ≠ b) → w'.heap[b]? = w.heap[b]? := fun b hb hne =>
    (g3.old b hb fun ho => by
      obtain ⟨n, c, p, a1, a2, a3, a4⟩ := hown b ho
      exact hne n c p a1 a2 a3 a4).1
  have orig : ∀ m ob, aget (appU H us) m = some ob → ∃ ob0, aget H m = some ob0 ∧ ob0.ro = ob.ro := fun m ob hmo => by
    rcases appU_get husome (H := H) m with ⟨o, a1, a2⟩ | ⟨_, a2⟩
    · obtain ⟨c, i, c0, e1, _, _, _, e5⟩ := u1 m _ a1
      rw [hmo] at a2
      cases a2
      cases e1
      exact ⟨_, e5, rfl⟩
    · exact ⟨ob, by rw [← a2]; exact hmo, rfl⟩
  refine ⟨σ, v', rfl, g1.cut0 hv σ, ⟨fun m ob hmo => ?_, fun m1 m2 o1 o2 q1 q2 h1 h2 hq1 hq2 he => ?_⟩, ⟨Sig.le_refl σ, g3.size, g3.os, g3.output, g3.tape, fun b hb hno => ⟨hold b hb fun n c p k1 k2 k3 k4 => hno ⟨n, _, p, k2, rfl, k3, k4⟩, ?_⟩⟩, Only.refl σ base⟩
  · rcases appU_get husome (H := H) m with ⟨o, a1, a2⟩ | ⟨a1, a2⟩
    · obtain ⟨c, i, c0, e1, e2, e3, e4, e5⟩ := u1 m _ a1
      rw [hmo] at a2
      cases a2
      cases e1
      obtain ⟨p, hp, _⟩ := hH.obj m _ e5
      refine ⟨p, hp, ?_⟩
      obtain ⟨q, hq, hor⟩ := g2.obj _ _ e4
      have : q = p := Option.some.inj (hq.symm.trans (g3.ext _ _ (by rw [sigC_at e3]; exact hp)))
      subst this
      exact hor.plain e2
    · rw [a2] at hmo
      obtain ⟨p, hp, hor⟩ := hH.obj m ob hmo
      refine ⟨p, hp, hor.mono (Sig.le_refl σ) (hold _ hor.lt fun n c q k1 k2 k3 k4 => ?_)⟩
      rcases hH.inj n m _ ob q p k2 hmo k3 hp k4 with e | ⟨e, _⟩
      · subst e
        obtain ⟨x, hx⟩ := u2 n c k1 k2
        exact a1 x hx
      · cases e
  · obtain ⟨x1, y1, z1⟩ := orig m1 o1 h1
    obtain ⟨x2, y2, z2⟩ := orig m2 o2 h2
    rcases hH.inj m1 m2 x1 x2 q1 q2 y1 y2 hq1 hq2 he with e | ⟨e1, e2⟩
    · exact .inl e
    · exact .inr ⟨z1 ▸ e1, z2 ▸ e2⟩
  · rintro ⟨m, o, q, k1, k2, k3, k4⟩
    obtain ⟨x1, y1, z1⟩ := orig m o k1
    exact hno ⟨m, x1, q, y1, by rw [z1]; exact k2, k3, k4⟩
/-- Calls carried out in place, of plain data, or on blocks. -/
theorem asetH_same {α : Type} : ∀ {T : List (Nat × α)} {d : Nat} {v : α}, aget T d = some v → aset T d v = T
  | [], d, v, h => by simp [aget] at h
  | (k, u) :: l, d, v, h => by
    simp only [aget] at h
    rcases beq_cases k d with ⟨he, hb⟩ | ⟨he, hb⟩ <;> rw [hb] at h <;> simp only [cond_true, cond_false] at h
    · subst he; cases h
      simp [aset, hb]
    · simp only [aset, hb, cond_false, asetH_same h]
/-- A call on one slice, from its block's first cell on, that only reads it. -/
theorem callOk_slice {P : Program} {cs : CS} (hcs : CSOk P cs) (hm : P.follows .mixedOrders = true) {nn F : Nat} {f : FuncId} {a : AVal} {n off len esz : Nat} {g : List AVal → Option AVal}
    (ha : ltV 0 a = true) (hc : ∀ s, canV P.globals.size s a = some (a, s))
    (hrun : ∀ ro c v, g c = some v → ltV 0 v = true → ltL 0 c = true → ∃ r, run1 P cs nn F f [a, .slice P.globals.size off len esz] [(P.globals.size, .cells ro c)] (P.globals.size + 1) = some r ∧ r.1 = v ∧ aget r.2.1 P.globals.size = some (.cells ro c)) :
    CallOk P f [a, .slice n off len esz] (.read n fun ob => match ob with | .cells _ c => cond (ltL 0 c) (match g c with | some v => cond (ltV 0 v) (some v) none | none => none) none) := by
  have hcan : canL P.globals.size [] [a, .slice n off len esz] = some ([a, .slice P.globals.size off len esz], [n]) := by
    simp only [canL, hc]
    simp only [canV, canN, posN, List.length_nil, Nat.add_zero, List.nil_append]
  refine (callOk_view0 hcs hm (nn := nn) (F := F) (f := f) hcan).less fun base H r hr => ?_
  simp only [EffA.app] at hr
  cases hn : aget H n with
  | none => rw [hn] at hr; cases hr
  | some ob =>
    rw [hn] at hr
    cases ob with
    | cells ro c =>
      simp only at hr
      cases hl : ltL 0 c with
      | false => rw [hl] at hr; cases hr
      | true =>
        rw [hl] at hr
        simp only [cond_true] at hr
        cases hg : g c with
        | none => rw [hg] at hr; cases hr
        | some v =>
          rw [hg] at hr
          simp only at hr
          cases hv : ltV 0 v with
          | false => rw [hv] at hr; cases hr
          | true =>
            rw [hv] at hr
            simp only [cond_true, Option.some.injEq] at hr
            subst hr
            obtain ⟨⟨v', H', fr'⟩, h1, h2, h3⟩ := hrun ro c v hg hv hl
            simp only at h2 h3
            subst h2
            cases ro with
            | true =>
              simp only [viewE0, EffA.app, objsA, hn, hl, cond_true, List.length_cons, List.length_nil, Nat.zero_add, h1, backA, hv, nodupB, List.all_nil, Bool.and_self, appU]
            | false =>
              have e : aset H n (.cells false c) = H := asetH_same hn
              simp only [viewE0, EffA.app, objsA, hn, hl, cond_true, List.length_cons, List.length_nil, Nat.zero_add, h1, backA, h3, hv, nodupB, List.all_nil, Bool.and_self, appU, e]
end Go.Eng

/- Engine, part 28: calls that hand back a new block and look at no globals. -/
namespace Go.Eng
set_option linter.unusedVariables false
set_option linter.unusedSimpArgs false
open Go
def viewN0 (P : Program) (cs : CS) (nn F : Nat) (f : FuncId) (ns : List Nat) (cargs : List AVal) : EffA :=
  .eff fun base η => match objsA η ns P.globals.size with
    | none => none
    | some Ho => match run1 P cs nn F f cargs (Ho) (P.globals.size + ns.length) with
      | none => none
      | some (v, H', _) => match backA η H' ns P.globals.size with
        | none => none
        | some us => match newN v with
          | none => none
          | some k => match aget H' k with
            | some (.cells false c) => match renV k 0 v with
              | none => none
              | some v1 => match renV 0 base v1 with
                | none => none
                | some v2 => cond (ltV 1 v1 && ltL 0 c && nodupB ns && Nat.ble (P.globals.size + ns.length) k) (some (v2, us ++ [(base, some (.cells false c))])) none
            | _ => none
theorem callOk_viewN0 {P : Program} {cs : CS} (hcs : CSOk P cs) (hm : P.follows .mixedOrders = true) {nn F : Nat} {f : FuncId} {args cargs : List AVal} {ns : List Nat} (hcan : canL P.globals.size [] args = some (cargs, ns)) : CallOk P f args (viewN0 P cs nn F f ns cargs) := by
  intro σ args' H w base v0 H0 hl hg hH happ hfree
  simp only [viewN0, EffA.app] at happ
  cases hobj : objsA (aget H) ns P.globals.size with
  | none => rw [hobj] at happ; cases happ
  | some Ho =>
  rw [hobj] at happ
  simp only at happ
  cases hrun : run1 P cs nn F f cargs (Ho) (P.globals.size + ns.length) with
  | none => rw [hrun] at happ; cases happ
  | some r =>
  obtain ⟨v, H', fr'⟩ := r
  rw [hrun] at happ
  simp only at happ
  cases hback : backA (aget H) H' ns P.globals.size with
  | none => rw [hback] at happ; cases happ
  | some us =>
  rw [hback] at happ
  simp only at happ
  cases hnew : newN v with
  | none => rw [hnew] at happ; cases happ
  | some k =>
  rw [hnew] at happ
  simp only at happ
  cases hblk : aget H' k with
  | none => rw [hblk] at happ; cases happ
  | some obk =>
  obtain ⟨rok, ck⟩ := obk
  cases rok with
  | true => rw [hblk] at happ; cases happ
  | false =>
  rw [hblk] at happ
  simp only at happ
  cases hr0 : renV k 0 v with
  | none => rw [hr0] at happ; cases happ
  | some v1 =>
  rw [hr0] at happ
  simp only at happ
  cases hr1 : renV 0 base v1 with
  | none => rw [hr1] at happ; cases happ
  | some v2 =>
  rw [hr1] at happ
  simp only at happ
  cases hcond : (ltV 1 v1 && ltL 0 ck && nodupB ns && Nat.ble (P.globals.size + ns.length) k) with
  | false => rw [hcond] at happ; cases happ
  | true =>
  rw [hcond] at happ
  simp only [cond_true, Option.some.injEq, Prod.mk.injEq] at happ
  obtain ⟨rfl, rfl⟩ := happ
  simp only [Bool.and_eq_true] at hcond
  obtain ⟨⟨⟨hv1, hck⟩, hnd⟩, hkk⟩ := hcond
  have hkk := Nat.le_of_ble_eq_true hkk
  have hnd := nodupB_ok hnd
  obtain ⟨fn, body, hf, hb, hrunF⟩ := run1_some hrun
  obtain ⟨u1, u2⟩ := backA_mem hback
  have husome : ∀ m x, (m, x) ∈ us → x.isSome = true := fun m x hx => by
    obtain ⟨c, i, c0, e, _⟩ := u1 m x hx
    rw [e]; rfl
  -- what the callee sees
  have heap : ∀ m o, aget (Ho) m = some o → ∃ n ro c, aget H n = some o ∧ o = .cells ro c ∧ ltL 0 c = true ∧ sigC P.globals.size ns σ m = σ n ∧ ((m < P.globals.size ∧ n = m ∧ ro = true) ∨ ∃ i, m = P.globals.size + i ∧ ns[i]? = some n) := fun m o hmo => by
    obtain ⟨a1, n, a2, a3, ro, c, a4, a5⟩ := objsA_get hobj m o hmo
    have e : m = P.globals.size + (m - P.globals.size) := by omega
    refine ⟨n, ro, c, a3, a4, a5, ?_, .inr ⟨m - P.globals.size, e, a2⟩⟩
    rw [e]
    exact sigC_at a2
  have hgc : GRel P (sigC P.globals.size ns σ) := fun g hgl => by
    obtain ⟨sz, hs⟩ := hg g hgl
    exact ⟨sz, by unfold sigC; rw [if_pos hgl]; exact hs⟩
  have hfr : Fresh (sigC P.globals.size ns σ) (P.globals.size + ns.length) := fun m hm' => by
    unfold sigC
    rw [if_neg (by omega), List.getElem?_eq_none (by omega)]
  obtain ⟨_, hlen, hcv⟩ := canL_ok hcan
  have hlc : LR (sigC P.globals.size ns σ) cargs args' := by
    refine ⟨by rw [hlen]; exact hl.1, fun i u u' h1 h2 => ?_⟩
    have := hcv [] σ i u u' h1 fun x hx => hl.2 i x u' hx h2
    rwa [List.append_nil] at this
  have hHc : HRel (sigC P.globals.size ns σ) (aget (Ho)) w := by
    refine ⟨fun m o hmo => ?_, fun m m' o o' q q' h1 h2 hq hq' he => ?_⟩
    · obtain ⟨n, ro, c, a1, rfl, a3, a4, _⟩ := heap m o hmo
      obtain ⟨p, hp, hor⟩ := hH.obj n _ a1
      exact ⟨p, by rw [a4]; exact hp, hor.plain a3⟩
    · obtain ⟨n, ro, c, a1, rfl, a3, a4, a5⟩ := heap m o h1
      obtain ⟨n', ro', c', b1, rfl, b3, b4, b5⟩ := heap m' o' h2
      rw [a4] at hq
      rw [b4] at hq'
      rcases hH.inj n n' _ _ q q' a1 b1 hq hq' he with e | e
      · subst e
        rw [a1] at b1
        cases b1
        rcases a5 with ⟨x1, x2, x3⟩ | ⟨i, x1, x2⟩ <;> rcases b5 with ⟨y1, y2, y3⟩ | ⟨j, y1, y2⟩
        · exact .inl (by omega)
        · subst x3; exact .inr ⟨rfl, rfl⟩
        · subst y3; exact .inr ⟨rfl, rfl⟩
        · left
          have h3 := (List.getElem?_eq_some_iff.1 x2)
          have h4 := (List.getElem?_eq_some_iff.1 y2)
          obtain ⟨hi, ei⟩ := h3
          obtain ⟨hj, ej⟩ := h4
          have : i = j := (List.getElem_inj hnd).1 (ei.trans ej.symm)
          omega
      · exact .inr e
  refine (runF_ok hcs hm hf hb hrunF hlc hHc hgc hfr).mono fun r w' hrw => ?_
  obtain ⟨σ', v', rfl, g1, g2, g3, g4⟩ := hrw
  -- what the callee may write, the caller may
  have hown : ∀ b, Own (sigC P.globals.size ns σ) (aget (Ho)) b → ∃ n c p, n ∈ ns ∧ aget H n = some (.cells false c) ∧ σ n = some p ∧ p.blk = b := fun b ⟨m, o, p, a1, a2, a3, a4⟩ => by
    obtain ⟨n, ro, c, b1, rfl, b3, b4, b5⟩ := heap m o a1
    have hro : ro = false := a2
    subst hro
    rw [b4] at a3
    rcases b5 with ⟨_, _, x⟩ | ⟨i, _, x⟩
    · cases x
    · exact ⟨n, c, p, List.mem_of_getElem? x, b1, a3, a4⟩
  have hold : ∀ b, b < w.heap.size → (∀ n c p, n ∈ ns → aget H n = some (.cells false c) → σ n = some p → p.blk ≠ b) → w'.heap[b]? = w.heap[b]? := fun b hb hne =>
    (g3.old b hb fun ho => by
      obtain ⟨n, c, p, a1, a2, a3, a4⟩ := hown b ho
      exact hne n c p a1 a2 a3 a4).1
  have orig : ∀ m ob, aget (appU H us) m = some ob → ∃ ob0, aget H m = some ob0 ∧ ob0.ro = ob.ro := fun m ob hmo => by
    rcases appU_get husome (H := H) m with ⟨o, a1, a2⟩ | ⟨_, a2⟩
    · obtain ⟨c, i, c0, e1, _, _, _, e5⟩ := u1 m _ a1
      rw [hmo] at a2
      cases a2
      cases e1
      exact ⟨_, e5, rfl⟩
    · exact ⟨ob, by rw [← a2]; exact hmo, rfl⟩
  have hbn : σ base = none := hfree 0 (by omega)
  obtain ⟨pk, hpk, hork⟩ := g2.obj k _ hblk
  have ownk : Own σ' (aget H') pk.blk := ⟨k, _, pk, hblk, rfl, hpk, rfl⟩
  -- the new block is none of the caller's
  have fresh : ∀ m ob q, aget H m = some ob → σ m = some q → q.blk ≠ pk.blk := fun m ob q hmo hq he => by
    obtain ⟨q', hq', hor⟩ := hH.obj m ob hmo
    rw [hq] at hq'; cases hq'
    by_cases hin : ∃ c, m ∈ ns ∧ ob = .cells false c
    · obtain ⟨c, h1, rfl⟩ := hin
      obtain ⟨x, hx⟩ := u2 m c h1 hmo
      obtain ⟨c1, i, c0, e1, e2, e3, e4, e5⟩ := u1 m x hx
      have hq2 : σ' (P.globals.size + i) = some q := g3.ext _ _ (by rw [sigC_at e3]; exact hq)
      rcases g2.inj _ _ _ _ _ _ e4 hblk hq2 hpk he with e | ⟨e, _⟩
      · have := (List.getElem?_eq_some_iff.1 e3).1
        omega
      · cases e
    · refine (g3.old q.blk hor.lt fun ho => ?_).2 (he ▸ ownk)
      obtain ⟨n, c, p, a1, a2, a3, a4⟩ := hown _ ho
      rcases hH.inj n m _ ob p q a2 hmo a3 hq a4 with e | ⟨e, _⟩
      · subst e
        rw [a2] at hmo
        cases hmo
        exact hin ⟨c, a1, rfl⟩
      · cases e
  have hbase : aget (appU H us) base = none := by
    cases hb : aget (appU H us) base with
    | none => rfl
    | some ob =>
      obtain ⟨ob0, h1, _⟩ := orig base ob hb
      obtain ⟨p, hp, _⟩ := hH.obj base ob0 h1
      rw [hbn] at hp; cases hp
  have app : ∀ m, aget (appU H (us ++ [(base, some (.cells false ck))])) m = if base = m then some (.cells false ck) else aget (appU H us) m := fun m => by
    rw [appU_append husome]
    simp only [appU]
    rw [aget_aset]
  have vr : VR (σ.set base pk) v2 v' := by
    have h1 := ltV_ok hv1 (renV_ok hr0 g1)
    refine (renV_ok hr1 h1).mono fun n p hp => ?_
    unfold Sig.ren at hp
    split at hp
    · rename_i e
      subst e
      have hp1 := cut_le 1 (Sig.ren k 0 σ') 0 p hp
      have hp2 : σ' k = some p := by simpa [Sig.ren] using hp1
      rw [hpk] at hp2; cases hp2
      exact Sig.set_same σ n _
    · split at hp
      · cases hp
      · rename_i e1 e2
        simp only [Go.Eng.cut] at hp
        rw [if_neg (by omega)] at hp
        cases hp
  have base0 : HRel σ (aget (appU H us)) w' := by
    refine ⟨fun m ob hmo => ?_, fun m1 m2 o1 o2 q1 q2 h1 h2 hq1 hq2 he => ?_⟩
    · rcases appU_get husome (H := H) m with ⟨o, a1, a2⟩ | ⟨a1, a2⟩
      · obtain ⟨c, i, c0, e1, e2, e3, e4, e5⟩ := u1 m _ a1
        rw [hmo] at a2
        cases a2
        cases e1
        obtain ⟨p, hp, _⟩ := hH.obj m _ e5
        refine ⟨p, hp, ?_⟩
        obtain ⟨q, hq, hor⟩ := g2.obj _ _ e4
        have : q = p := Option.some.inj (hq.symm.trans (g3.ext _ _ (by rw [sigC_at e3]; exact hp)))
        subst this
        exact hor.plain e2
      · rw [a2] at hmo
        obtain ⟨p, hp, hor⟩ := hH.obj m ob hmo
        refine ⟨p, hp, hor.mono (Sig.le_refl σ) (hold _ hor.lt fun n c q k1 k2 k3 k4 => ?_)⟩
        rcases hH.inj n m _ ob q p k2 hmo k3 hp k4 with e | ⟨e, _⟩
        · subst e
          obtain ⟨x, hx⟩ := u2 n c k1 k2
          exact a1 x hx
        · cases e
    · obtain ⟨x1, y1, z1⟩ := orig m1 o1 h1
      obtain ⟨x2, y2, z2⟩ := orig m2 o2 h2
      rcases hH.inj m1 m2 x1 x2 q1 q2 y1 y2 hq1 hq2 he with e | ⟨e1, e2⟩
      · exact .inl e
      · exact .inr ⟨z1 ▸ e1, z2 ▸ e2⟩
  refine ⟨σ.set base pk, v', rfl, vr, ⟨fun m ob hmo => ?_, fun m1 m2 o1 o2 q1 q2 h1 h2 hq1 hq2 he => ?_⟩, ⟨Sig.le_set hbn pk, g3.size, g3.os, g3.output, g3.tape, fun b hb hno => ⟨hold b hb fun n c p k1 k2 k3 k4 => hno ⟨n, _, p, k2, rfl, k3, k4⟩, ?_⟩⟩, fun n hn => Sig.set_other σ _ (by omega)⟩
  · rw [app] at hmo
    split at hmo
    · rename_i e
      subst e
      cases hmo
      exact ⟨pk, Sig.set_same σ base pk, hork.plain hck⟩
    · rename_i e
      obtain ⟨p, hp, hor⟩ := base0.obj m ob hmo
      exact ⟨p, by rw [Sig.set_other σ _ (Ne.symm e)]; exact hp, hor.mono (Sig.le_set hbn pk) rfl⟩
  · rw [app] at h1 h2
    split at h1 <;> split at h2
    · rename_i e1 e2; exact .inl (e1.symm.trans e2)
    · rename_i e1 e2
      subst e1
      rw [Sig.set_same] at hq1; cases hq1
      rw [Sig.set_other σ _ (Ne.symm e2)] at hq2
      obtain ⟨x2, y2, _⟩ := orig m2 o2 h2
      exact absurd he.symm (fresh m2 x2 q2 y2 hq2)
    · rename_i e1 e2
      subst e2
      rw [Sig.set_same] at hq2; cases hq2
      rw [Sig.set_other σ _ (Ne.symm e1)] at hq1
      obtain ⟨x1, y1, _⟩ := orig m1 o1 h1
      exact absurd he (fresh m1 x1 q1 y1 hq1)
    · rename_i e1 e2
      rw [Sig.set_other σ _ (Ne.symm e1)] at hq1
      rw [Sig.set_other σ _ (Ne.symm e2)] at hq2
      exact base0.inj m1 m2 o1 o2 q1 q2 h1 h2 hq1 hq2 he
  · rintro ⟨m, o, q, k1, k2, k3, k4⟩
    rw [app] at k1
    split at k1
    · rename_i e
      subst e
      rw [Sig.set_same] at k3; cases k3
      refine (g3.old b hb fun ho => ?_).2 (k4 ▸ ownk)
      obtain ⟨n, c, p, a1, a2, a3, a4⟩ := hown b ho
      exact hno ⟨n, _, p, a2, rfl, a3, a4⟩
    · rename_i e
      rw [Sig.set_other σ _ (Ne.symm e)] at k3
      obtain ⟨x1, y1, z1⟩ := orig m o k1
      exact hno ⟨m, x1, q, y1, by rw [z1]; exact k2, k3, k4⟩

/-- A call of plain data that hands back a slice of a new block. -/
theorem callOk_new {P : Program} {cs : CS} (hcs : CSOk P cs) (hm : P.follows .mixedOrders = true) {nn F : Nat} {f : FuncId} {args : List AVal} {k len esz fr : Nat} {H' : HL} {c : List AVal} (hcan : canL P.globals.size [] args = some (args, []))
    (hrun : run1 P cs nn F f args [] P.globals.size = some (.slice k 0 len esz, H', fr)) (hk : aget H' k = some (.cells false c)) (hc : ltL 0 c = true) (hg : Nat.ble P.globals.size k = true) : CallOk P f args (.alloc (.cells false c) fun b => .slice b 0 len esz) := by
  refine (callOk_viewN0 hcs hm (nn := nn) (F := F) (f := f) hcan).less fun base H r hr => ?_
  simp only [EffA.app, Option.some.injEq] at hr
  subst hr
  have e1 : renV k 0 (.slice k 0 len esz) = some (.slice 0 0 len esz) := by
    simp only [renV, renS, renN, Nat.beq_refl, cond_true]
  have e2 : renV 0 base (.slice 0 0 len esz) = some (.slice base 0 len esz) := by
    simp only [renV, renS, renN, Nat.beq_refl, cond_true]
  have e3 : ltV 1 (.slice 0 0 len esz) = true := rfl
  simp only [viewN0, EffA.app, objsA, List.length_nil, Nat.add_zero, hrun, backA, newN, hk, e1, e2, e3, hc, nodupB, hg, Bool.and_self, cond_true, List.nil_append, appU]
end Go.Eng
namespace Go.Eng
set_option linter.unusedVariables false
set_option linter.unusedSimpArgs false
open Go
/-- The new block that a call hands back. -/
def newR (x : Option (AVal × HL × Nat)) : Option (Nat × Nat × Nat × List AVal) :=
  match x with
  | some (.slice k 0 len esz, H', _) => match aget H' k with
    | some (.cells false c) => some (k, len, esz, c)
    | _ => none
  | _ => none
theorem callOk_new2 {P : Program} {cs : CS} (hcs : CSOk P cs) (hm : P.follows .mixedOrders = true) {nn F : Nat} {f : FuncId} {args : List AVal} {k len esz : Nat} {c : List AVal} (hcan : canL P.globals.size [] args = some (args, []))
    (hrun : newR (run1 P cs nn F f args [] P.globals.size) = some (k, len, esz, c)) (hc : ltL 0 c = true) (hg : Nat.ble P.globals.size k = true) : CallOk P f args (.alloc (.cells false c) fun b => .slice b 0 len esz) := by
  unfold newR at hrun
  split at hrun
  · rename_i k' len' esz' H' fr hr
    split at hrun
    · rename_i c' hk
      simp only [Option.some.injEq, Prod.mk.injEq] at hrun
      obtain ⟨rfl, rfl, rfl, rfl⟩ := hrun
      exact callOk_new hcs hm hcan hr hk hc hg
    · cases hrun
  · cases hrun
end Go.Eng

/- Engine, part 40: calls that hand back a new block by a pointer; calls that look at the tables alone. -/
namespace Go.Eng
set_option linter.unusedVariables false
set_option linter.unusedSimpArgs false
open Go
/-- The new block that a call hands back. -/
def newP (x : Option (AVal × HL × Nat)) : Option (Nat × List AVal) :=
  match x with
  | some (.ptr k 0, H', _) => match aget H' k with
    | some (.cells false c) => some (k, c)
    | _ => none
  | _ => none
theorem callOk_newP {P : Program} {cs : CS} (hcs : CSOk P cs) (hm : P.follows .mixedOrders = true) {nn F : Nat} {f : FuncId} {args : List AVal} {k : Nat} {c : List AVal} (hcan : canL P.globals.size [] args = some (args, []))
    (hrun : newP (run1 P cs nn F f args [] P.globals.size) = some (k, c)) (hc : ltL 0 c = true) (hg : Nat.ble P.globals.size k = true) : CallOk P f args (.alloc (.cells false c) fun b => .ptr b 0) := by
  unfold newP at hrun
  split at hrun
  · rename_i k' H' fr hr
    split at hrun
    · rename_i c' hk
      simp only [Option.some.injEq, Prod.mk.injEq] at hrun
      obtain ⟨rfl, rfl⟩ := hrun
      refine (callOk_viewN0 hcs hm (nn := nn) (F := F) (f := f) hcan).less fun base H r hr2 => ?_
      simp only [EffA.app, Option.some.injEq] at hr2
      subst hr2
      have e1 : renV k' 0 (.ptr k' 0) = some (.ptr 0 0) := by
        simp only [renV, renS, renN, Nat.beq_refl, cond_true]
      have e2 : renV 0 base (.ptr 0 0) = some (.ptr base 0) := by
        simp only [renV, renS, renN, Nat.beq_refl, cond_true]
      have e3 : ltV 1 (.ptr 0 0) = true := rfl
      simp only [viewN0, EffA.app, objsA, List.length_nil, Nat.add_zero, hr, backA, newN, hk, e1, e2, e3, hc, nodupB, hg, Bool.and_self, cond_true, List.nil_append, appU]
    · cases hrun
  · cases hrun
/-- What a call makes of the tables alone. -/
def tabE (k : (Nat → Option AObj) → Option AVal) : EffA :=
  .eff fun _ η => match k η with
    | some v => some (v, [])
    | none => none
theorem callOk_tab {P : Program} {cs : CS} (hcs : CSOk P cs) (hm : P.follows .mixedOrders = true) {f : FuncId} {args : List AVal} (hcan : canL P.globals.size [] args = some (args, [])) {k : (Nat → Option AObj) → Option AVal}
    (h : ∀ η v, k η = some v → ltV 0 v = true ∧ ∃ F nn H' fr', run1 P cs nn F f args (globA η P.globals.size 0) P.globals.size = some (v, H', fr')) : CallOk P f args (tabE k) := by
  intro σ args' H w base v0 H0 hl hg hH happ hfree
  unfold tabE EffA.app at happ
  simp only at happ
  cases hk : k (aget H) with
  | none => rw [hk] at happ; cases happ
  | some v =>
    rw [hk] at happ
    simp only [Option.some.injEq, Prod.mk.injEq] at happ
    obtain ⟨rfl, rfl⟩ := happ
    obtain ⟨h3, F, nn, H', fr', h4⟩ := h (aget H) v hk
    refine callOk_view hcs hm (nn := nn) (F := F) hcan σ args' H w base v _ hl hg hH ?_ hfree
    unfold viewE EffA.app
    simp only [objsA, List.append_nil]
    have h4' : run1 P cs nn F f args (globA (aget H) P.globals.size 0) (P.globals.size + ([] : List Nat).length) = some (v, H', fr') := h4
    rw [h4']
    simp only [backA, h3, nodupB, cond_true, Bool.and_self]
end Go.Eng
namespace Go.Eng
set_option linter.unusedVariables false
set_option linter.unusedSimpArgs false
open Go
/-- A call on one block, without the tables. -/
theorem callOk_one0 {P : Program} {cs : CS} (hcs : CSOk P cs) (hm : P.follows .mixedOrders = true) {f : FuncId} {args cargs : List AVal} {n : Nat} (hcan : canL P.globals.size [] args = some (cargs, [n])) {k : List AVal → Option (AVal × List AVal)}
    (h : ∀ c v c', k c = some (v, c') → ltL 0 c = true ∧ ltL 0 c' = true ∧ ltV 0 v = true ∧ ∃ F nn H' fr', run1 P cs nn F f cargs [(P.globals.size, .cells false c)] (P.globals.size + 1) = some (v, H', fr') ∧ aget H' P.globals.size = some (.cells false c')) : CallOk P f args (oneE n fun _ => k) := by
  intro σ args' H w base v0 H0 hl hg hH happ hfree
  unfold oneE EffA.app at happ
  simp only at happ
  cases hn : aget H n with
  | none => rw [hn] at happ; cases happ
  | some ob =>
    obtain ⟨ro, c⟩ := ob
    rw [hn] at happ
    cases ro with
    | true => cases happ
    | false =>
      simp only at happ
      cases hk : k c with
      | none => rw [hk] at happ; cases happ
      | some r =>
        obtain ⟨v, c'⟩ := r
        rw [hk] at happ
        simp only [Option.some.injEq, Prod.mk.injEq] at happ
        obtain ⟨rfl, rfl⟩ := happ
        obtain ⟨h1, h2, h3, F, nn, H', fr', h4, h5⟩ := h c v c' hk
        refine callOk_view0 hcs hm (nn := nn) (F := F) hcan σ args' H w base v _ hl hg hH ?_ hfree
        unfold viewE0 EffA.app
        simp only [objsA, hn, h1, cond_true]
        have h4' : run1 P cs nn F f cargs [(P.globals.size, .cells false c)] (P.globals.size + [n].length) = some (v, H', fr') := h4
        rw [h4']
        simp only [backA, hn, h5, h2, cond_true, h3, nodupB, List.all_nil, Bool.and_self]
end Go.Eng

/- Engine, part 41: rounds at whose end blocks of plain data of unknown length bear new names. -/
namespace Go.Eng
set_option linter.unusedVariables false
set_option linter.unusedSimpArgs false
open Go
theorem renS_plain {m n : Nat} {v : AVal} (h : ltS 0 v = true) : renS m n v = some v := by
  have h0 : ∀ n : Nat, Nat.ble (n + 1) 0 = false := fun n => rfl
  cases v <;> first | rfl | (simp only [ltS, h0] at h; done) | skip
  all_goals simp only [ltS, h0] at h
  all_goals first | cases h | skip
  all_goals (rename_i cs; cases cs <;> first | rfl | cases h)
theorem renL_plain {m n : Nat} : ∀ {c : List AVal}, ltL 0 c = true → renL m n c = some c
  | [], _ => rfl
  | v :: c, h => by
    simp only [ltL] at h
    cases hv : ltS 0 v <;> rw [hv] at h <;> simp only [cond_true, cond_false] at h
    · cases h
    · simp only [renL, renS_plain hv, renL_plain h]
def memD (k : Nat) : List Nat → Bool
  | [] => false
  | m :: l => cond (Nat.beq k m) true (memD k l)
/-- As 'renH'; that the blocks named in 'dl' are plain data is asked. -/
def renHx (dl : List Nat) (m n : Nat) : HL → Option (HL × List Bool)
  | [] => some ([], [])
  | (k, .cells ro c) :: l => match renN m n k, renHx dl m n l with
    | some k', some (l', ob) => cond (memD k dl) (some ((k', .cells ro c) :: l', ltL 0 c :: ob)) (match renL m n c with
      | some c' => some ((k', .cells ro c') :: l', ob)
      | none => none)
    | _, _ => none
theorem renHx_ok {dl : List Nat} {m n : Nat} : ∀ {H H' : HL} {ob : List Bool}, renHx dl m n H = some (H', ob) → allT ob = true → renH m n H = some H'
  | [], H', ob, h, _ => by cases h; rfl
  | (k, .cells ro c) :: l, H', ob, h, ha => by
    simp only [renHx] at h
    split at h
    · rename_i k' l' ob' h1 h2
      cases hm : memD k dl <;> rw [hm] at h <;> simp only [cond_true, cond_false] at h
      · split at h
        · rename_i c' hc
          cases h
          simp only [renH, h1, hc, renHx_ok h2 ha]
        · cases h
      · cases h
        have := allT_cons ha
        simp only [renH, h1, renL_plain this.1, renHx_ok h2 this.2]
    · cases h
def ren1x (dl : List Nat) (P : Program) (bs m n : Nat) (s : SA) : Option (SA × List Bool) :=
  cond (Nat.ble bs m && Nat.ble bs n && Nat.ble P.globals.size bs && Nat.ble (n + 1) s.fr && !(Nat.beq m n)) (match renT m n s.T, renHx dl m n (adel s.H n) with
    | some T, some (H, ob) => some (⟨T, H, s.fr⟩, ob)
    | _, _ => none) none
theorem ren1x_ok {dl : List Nat} {P : Program} {bs m n : Nat} {s s' : SA} {ob : List Bool} (h : ren1x dl P bs m n s = some (s', ob)) (ha : allT ob = true) : ren1 P bs m n s = some s' := by
  unfold ren1x at h
  unfold ren1 ren0
  simp only at h ⊢
  cases hc : (Nat.ble bs m && Nat.ble bs n && Nat.ble P.globals.size bs && Nat.ble (n + 1) s.fr && !(Nat.beq m n)) <;> rw [hc] at h <;> simp only [cond_true, cond_false] at h ⊢
  · cases h
  · split at h
    · rename_i T H ob' h1 h2
      cases h
      simp only [h1, renHx_ok h2 ha]
    · cases h
def renAllx (dl : List Nat) (P : Program) (bs : Nat) : List (Nat × Nat) → SA → List Bool → Option (SA × List Bool)
  | [], s, ob => some (s, ob)
  | (m, n) :: l, s, ob => match ren1x dl P bs m n s with
    | some (s', ob') => renAllx dl P bs l s' (ob' ++ ob)
    | none => none
theorem allT_append : ∀ {a b : List Bool}, allT (a ++ b) = true → allT a = true ∧ allT b = true
  | [], b, h => ⟨rfl, h⟩
  | x :: a, b, h => by
    have h1 := allT_cons (b := x) (l := a ++ b) h
    have h2 := allT_append h1.2
    refine ⟨?_, h2.2⟩
    simp only [allT, h1.1, h2.1, cond_true]
theorem renAllx_ok {dl : List Nat} {P : Program} {bs : Nat} : ∀ {l : List (Nat × Nat)} {s s' : SA} {ob ob' : List Bool}, renAllx dl P bs l s ob = some (s', ob') → allT ob' = true → renAll P bs l s = s' ∧ allT ob = true
  | [], s, s', ob, ob', h, ha => by cases h; exact ⟨rfl, ha⟩
  | (m, n) :: l, s, s', ob, ob', h, ha => by
    simp only [renAllx] at h
    split at h
    · rename_i s1 ob1 h1
      obtain ⟨e1, e2⟩ := renAllx_ok h ha
      have e3 := allT_append e2
      refine ⟨?_, e3.2⟩
      simp only [renAll, ren1x_ok h1 e3.1]
      exact e1
    · cases h
noncomputable def roundO3 (dl : List Nat) (P : Program) (ps : PS) (cs : CS) (sy : List Nat) (os : List Bool) (vs : List AVal) (nt nn F bs : Nat) (b : Code) (s0 s : SA) : Option (SA × List Bool) :=
  match evT P ps cs sy nt nn F bs b s ⟨os, vs, []⟩ with
  | some (.normal, s', q) => match renAllx dl P bs (pairsT s0.fr 0 s0.T s'.T) s' q.ob with
    | some (r, ob) => some (⟨reshape s0.T r.T, reshapeH s0.H r.H ++ extraH s0.H s0.fr r.H, s0.fr⟩, ob)
    | none => none
  | _ => none
theorem roundO3_ok {dl : List Nat} {P : Program} {ps : PS} {cs : CS} (hps : PSOk ps cs) {sy : List Nat} {os : List Bool} {vs : List AVal} {nt nn F bs : Nat} {b : Code} {s0 s s1 : SA} {ob : List Bool} (h : roundO3 dl P ps cs sy os vs nt nn F bs b s0 s = some (s1, ob)) (ha : allT ob = true) (ho : okS P s1 = true) :
    roundA (evC P cs nt nn F bs b) (headA P bs s0) s = some s1 := by
  unfold roundO3 at h
  split at h
  · rename_i s' q hev
    split at h
    · rename_i r ob' hr
      simp only [Option.some.injEq, Prod.mk.injEq] at h
      obtain ⟨h1, rfl⟩ := h
      obtain ⟨e1, e2⟩ := renAllx_ok hr ha
      have hh : headS P bs s0 s' = s1 := by
        unfold headS
        simp only
        rw [e1]
        exact h1
      simp only [roundA, (evT_ok hps b _ _ _ _ _ hev e2).1, headS_eq hh ho]
    · cases h
  · cases h
end Go.Eng

/- Engine, part 44: a round that holds loops of its own: its end is brought to the head apart. -/
namespace Go.Eng
set_option linter.unusedVariables false
set_option linter.unusedSimpArgs false
open Go
def headX (dl : List Nat) (P : Program) (bs : Nat) (s0 s : SA) : Option (SA × List Bool) :=
  match renAllx dl P bs (pairsT s0.fr 0 s0.T s.T) s [] with
  | some (r, ob) => some (⟨reshape s0.T r.T, reshapeH s0.H r.H ++ extraH s0.H s0.fr r.H, s0.fr⟩, ob)
  | none => none
theorem headX_ok {dl : List Nat} {P : Program} {bs : Nat} {s0 s s1 : SA} {ob : List Bool} (h : headX dl P bs s0 s = some (s1, ob)) (ha : allT ob = true) (ho : okS P s1 = true) : headA P bs s0 s = s1 := by
  unfold headX at h
  split at h
  · rename_i r ob' hr
    simp only [Option.some.injEq, Prod.mk.injEq] at h
    obtain ⟨h1, rfl⟩ := h
    obtain ⟨e1, _⟩ := renAllx_ok hr ha
    refine headS_eq ?_ ho
    unfold headS
    simp only
    rw [e1]
    exact h1
  · cases h
/-- A round out of its pieces. -/
theorem round_of44 {P : Program} {cs : CS} {nt nn F bs : Nat} {b : Code} {s0 s s1 s2 : SA} {dl : List Nat} {ob : List Bool} (he : evS P cs nt nn F bs (pieces b) s = some (.normal, s1)) (hh : headX dl P bs s0 s1 = some (s2, ob)) (ha : allT ob = true) (ho : okS P s2 = true) :
    roundA (evC P cs nt nn F bs b) (headA P bs s0) s = some s2 := by
  simp only [roundA, evC_pieces, he, headX_ok hh ha ho]
end Go.Eng

/- Engine, part 45: small facts that walks over arrays, bytes and words use. -/
namespace Go.Eng
set_option linter.unusedVariables false
set_option linter.unusedSimpArgs false
open Go
set_option linter.unusedSimpArgs false
set_option linter.unusedVariables false
theorem in_rng {i n : Nat} {k : Int} (h : i < n) (e : (n : Int) = k := by rfl) : (decide (0 ≤ (i : Int)) && decide ((i : Int) < k)) = true := by subst e; simp; omega
theorem plus1 {i : Nat} (h : i < 1000) : eqS (.int .i64 (IntKind.wrap .i64 ((i : Int) + 1))) (.int .i64 ((i + 1 : Nat) : Int)) = true := eqS_i64 (by rw [wrapI _ (by omega) (by omega)]; omega)
theorem minus {i k d : Nat} (h : i = k + d) (hi : i < 1000) : eqS (.int .i64 (IntKind.wrap .i64 ((i : Int) - (d : Int)))) (.int .i64 (k : Int)) = true := eqS_i64 (by rw [wrapI _ (by omega) (by omega)]; omega)
theorem quo8 {i : Nat} (h : i < 1000) : eqS (.int .i64 (IntKind.wrap .i64 (Int.tdiv (i : Int) 8))) (.int .i64 ((i / 8 : Nat) : Int)) = true := eqS_i64 (by
  have : Int.tdiv (i : Int) 8 = ((i / 8 : Nat) : Int) := rfl
  rw [this, wrapI _ (by omega) (by omega)])
theorem like_b {n i : Nat} {b : Nat → UInt8} (h : i < n) : likeA ((cellsB n b).getD 0 (.bool false)) ((cellsB n b).getD ((i : Int).toNat * 1) (.bool false)) = .u8 (b i) := by
  have e : (i : Int).toNat * 1 = i := by simp
  rw [e, getD_cellsB b h, getD_cellsB b (by omega : 0 < n)]; rfl
theorem like_u {n i : Nat} {x : Nat → UInt64} (h : i < n) : likeA ((cellsU n x).getD 0 (.bool false)) ((cellsU n x).getD ((i : Int).toNat * 1) (.bool false)) = .u64 (x i) := by
  have e : (i : Int).toNat * 1 = i := by simp
  rw [e, getD_cellsU x h, getD_cellsU x (by omega : 0 < n)]; rfl
theorem blt_i {i k : Nat} (h : i < k) : Nat.blt ((i : Int).toNat * 1) k = true := by simp [h]
theorem ble_i {i k : Nat} (h : i < k) : Nat.ble (0 + (i : Int).toNat * 1 + 1) k = true := by simp; omega
theorem lt_i {i n : Nat} {k : Int} (h : i < n) (e : (n : Int) = k := by rfl) : decide ((i : Int) < k) = true := by subst e; simp; omega
theorem ltL_U (n k : Nat) (f : Nat → UInt64) : ltL k (cellsU n f) = true := by
  have : cellsU n f = ((List.range n).map f).map .u64 := by simp [cellsU]
  rw [this]; exact ltL_u64 ..
theorem ltL_B (n k : Nat) (f : Nat → UInt8) : ltL k (cellsB n f) = true := by
  have : cellsB n f = ((List.range n).map f).map .u8 := by simp [cellsB]
  rw [this]; exact ltL_u8 ..
theorem plusL {i : Nat} (h : i < 1000000000) : eqS (.int .i64 (IntKind.wrap .i64 ((i : Int) + 1))) (.int .i64 ((i + 1 : Nat) : Int)) = true := eqS_i64 (by rw [wrapI _ (by omega) (by omega)]; omega)
theorem d_false {i n : Nat} {k : Int} (h : n ≤ i) (e : (n : Int) = k := by rfl) : decide ((i : Int) < k) = false := by subst e; simp; omega
theorem bne_of {a b : UInt64} : (a != b) = decide (a.toNat ≠ b.toNat) := by
  by_cases h : a = b
  · subst h; simp
  · have : a.toNat ≠ b.toNat := fun e => h (UInt64.toNat_inj.1 e)
    simp [h, this]
theorem nat0 (i : Nat) : decide (0 ≤ (i : Int)) = true := by simp
theorem d_true {i n : Nat} {k : Int} (h : i < n) (e : (n : Int) = k := by rfl) : decide ((i : Int) < k) = true := lt_i h e
/-- The bytes of a block that is all bytes. -/
def shAllB (c : List AVal) : Bool := match shB c.length c with
  | some [] => true
  | _ => false
theorem shAllB_ok {c : List AVal} (h : shAllB c = true) : c = cellsB c.length (gB c) := by
  unfold shAllB at h
  split at h
  · rename_i hs
    have := shB_ok hs
    rwa [List.append_nil] at this
  · cases h
theorem shAllB_B (L : Nat) (b : Nat → UInt8) : shAllB (cellsB L b) = true := by
  have : ∀ (l : List UInt8), shB (l.map AVal.u8).length (l.map AVal.u8) = some [] := by
    intro l
    induction l with
    | nil => rfl
    | cons x l ih => simp only [List.map_cons, List.length_cons, shB]; exact ih
  unfold shAllB
  have e : cellsB L b = ((List.range L).map b).map .u8 := by simp [cellsB]
  rw [e, this]
def apC (c : List UInt8) (x : UInt8) : List AVal := List.take (c.length * 1) (List.drop 0 (c.map .u8)) ++ [.u8 x]
def apOb (c : List UInt8) : Bool := true && (((Nat.ble ((c.length + 1) * 1) 140737488355328 && Nat.ble (c.length + 1) 140737488355328) && true) && Nat.ble (0 + c.length * 1) (c.map AVal.u8).length)
theorem apC_eq (c : List UInt8) (x : UInt8) : apC c x = (c ++ [x]).map .u8 := by
  unfold apC
  rw [List.drop_zero, Nat.mul_one, List.map_append, List.take_of_length_le (by simp)]; rfl
theorem apOb_ok {c : List UInt8} (h : c.length < 1000000000) : apOb c = true := by
  unfold apOb
  have h1 : Nat.ble ((c.length + 1) * 1) 140737488355328 = true := Nat.ble_eq_true_of_le (by omega)
  have h2 : Nat.ble (c.length + 1) 140737488355328 = true := Nat.ble_eq_true_of_le (by omega)
  have h3 : Nat.ble (0 + c.length * 1) (c.map AVal.u8).length = true := Nat.ble_eq_true_of_le (by rw [List.length_map]; omega)
  rw [h1, h2, h3]; rfl
theorem ltLm (k : Nat) (c : List UInt8) : ltL k (c.map AVal.u8) = true := ltL_u8 ..
/-- A text with more behind it. -/
def exL (c : List UInt8) (f : Nat → UInt8) (i : Nat) : List UInt8 := c ++ (List.range i).map f
theorem exL_succ (c : List UInt8) (f : Nat → UInt8) (i : Nat) : exL c f (i + 1) = exL c f i ++ [f i] := by
  unfold exL
  rw [List.range_succ, List.map_append, List.append_assoc]; rfl
theorem exL_len (c : List UInt8) (f : Nat → UInt8) (i : Nat) : (exL c f i).length = c.length + i := by simp [exL]
theorem exL_zero (c : List UInt8) (f : Nat → UInt8) : exL c f 0 = c := by simp [exL]
theorem gB_map (c : List UInt8) (i : Nat) : gB (c.map .u8) i = c.getD i 0 := by
  unfold gB
  rw [List.getElem?_map, List.getD_eq_getElem?_getD]
  cases c[i]? <;> rfl
theorem shAllB_map (c : List UInt8) : shAllB (c.map AVal.u8) = true := by
  have : ∀ (l : List UInt8), shB (l.map AVal.u8).length (l.map AVal.u8) = some [] := by
    intro l
    induction l with
    | nil => rfl
    | cons x l ih => simp only [List.map_cons, List.length_cons, shB]; exact ih
  unfold shAllB
  rw [this]
theorem run_of {x : Option (AVal × HL × Nat)} {v : AVal} (h : x.map (·.1) = some v) : ∃ H' fr', x = some (v, H', fr') := by
  cases x with
  | none => cases h
  | some r =>
    obtain ⟨a, b, c⟩ := r
    simp only [Option.map_some, Option.some.injEq] at h
    subst h
    exact ⟨b, c, rfl⟩
theorem first_bad {p : Nat → Prop} (dec : ∀ i, p i ∨ ¬ p i) : ∀ N, ¬ p N → ∃ m, m ≤ N ∧ (∀ i, i < m → p i) ∧ ¬ p m
  | 0, h => ⟨0, Nat.le_refl _, fun i hi => by omega, h⟩
  | N + 1, h => by
    by_cases hb : ∀ i, i < N + 1 → p i
    · exact ⟨N + 1, Nat.le_refl _, hb, h⟩
    · have : ∃ k, k < N + 1 ∧ ¬ p k := by
        apply Classical.byContradiction
        intro hn
        apply hb
        intro i hi
        rcases dec i with h1 | h1
        · exact h1
        · exact absurd ⟨i, hi, h1⟩ hn
      obtain ⟨k, hk, hnk⟩ := this
      -- the least one below k or k itself
      have : ∀ M, M ≤ N → ¬ p M → ∃ m, m ≤ M ∧ (∀ i, i < m → p i) ∧ ¬ p m := fun M hM hnp => by
        induction M using Nat.strongRecOn with
        | _ M ih =>
          by_cases hb2 : ∃ j, j < M ∧ ¬ p j
          · obtain ⟨j, hj, hnj⟩ := hb2
            obtain ⟨m, h1, h2, h3⟩ := ih j hj (by omega) hnj
            exact ⟨m, by omega, h2, h3⟩
          · refine ⟨M, Nat.le_refl _, fun i hi => ?_, hnp⟩
            rcases dec i with h1 | h1
            · exact h1
            · exact absurd ⟨i, hi, h1⟩ hb2
      obtain ⟨m, h1, h2, h3⟩ := this k (by omega) hnk
      exact ⟨m, by omega, h2, h3⟩
/-- An array of words. -/
def aggU (k : Nat) : AVal → Option (Nat → UInt64)
  | .agg a => match shU k a with
    | some [] => some (gU a)
    | _ => none
  | _ => none
theorem aggU_ok {k : Nat} {v : AVal} {a : Nat → UInt64} (h : aggU k v = some a) : v = .agg (cellsU k a) := by
  unfold aggU at h
  split at h
  · split at h
    · rename_i hs
      cases h
      have := shU_ok hs
      rw [List.append_nil] at this
      exact congrArg AVal.agg this
    · cases h
  · cases h
theorem eqL_U {n : Nat} (f : Nat → UInt64) : isAtL (cellsU n f) 0 (cellsU n f) = true := by
  have key : ∀ l : List UInt64, eqL (l.map AVal.u64) (l.map AVal.u64) = true := fun l => by
    induction l with
    | nil => rfl
    | cons x l ih => simp only [List.map_cons, eqL, eqS_u64, ih, Bool.and_self]
  unfold isAtL
  have e : cellsU n f = ((List.range n).map f).map .u64 := by simp [cellsU]
  rw [List.drop_zero, List.take_length, Nat.zero_add]
  rw [e, key]
  simp
theorem shl_nat (x : UInt64) (k : Nat) (hk : k < 64) (h : x.toNat * 2 ^ k < 2 ^ 64) : (shl_u64 x k).toNat = x.toNat * 2 ^ k := by
  unfold shl_u64
  rw [Nat.ble_eq_true_of_le (show k ≤ 63 by omega), cond_true, UInt64.toNat_shiftLeft, UInt64.toNat_ofNat', Nat.mod_eq_of_lt (show k < 2 ^ 64 by omega), Nat.mod_eq_of_lt hk, Nat.shiftLeft_eq, Nat.mod_eq_of_lt h]
theorem dec_blt (a b : Nat) : decide (a < b) = Nat.blt a b := by
  cases h : Nat.blt a b with
  | true => exact decide_eq_true (Nat.le_of_ble_eq_true h)
  | false =>
    apply decide_eq_false
    intro hn
    have : Nat.blt a b = true := Nat.ble_eq_true_of_le hn
    rw [h] at this
    cases this
theorem isAt_cellsB {L k i o : Nat} (b : Nat → UInt8) (hk : o + i < L) : isAt (cellsB L b) (o + (i : Int).toNat * 1) (.u8 (b (o + i))) = true := by
  have e : o + (i : Int).toNat * 1 = o + i := by simp
  rw [e]
  unfold isAt
  rw [cellsB_at b hk]
  exact eqS_u8 _

theorem shr_nat (x : UInt64) (k : Nat) (hk : k < 64) : (shr_u64 x k).toNat = x.toNat / 2 ^ k := by
  unfold shr_u64
  rw [Nat.ble_eq_true_of_le (show k ≤ 63 by omega), cond_true, UInt64.toNat_shiftRight, UInt64.toNat_ofNat', Nat.mod_eq_of_lt (show k < 2 ^ 64 by omega), Nat.mod_eq_of_lt hk, Nat.shiftRight_eq_div_pow]
end Go.Eng
namespace Go.Eng
set_option linter.unusedVariables false
set_option linter.unusedSimpArgs false
open Go
/-- A run's value, a block behind it, and what is asked. -/
def ansB (n : Nat) (x : Option ((AVal × HL × Nat) × List Bool)) : Option (AVal × AObj × List Bool) :=
  match x with
  | some ((v, H', _), ob) => match aget H' n with
    | some o => some (v, o, ob)
    | none => none
  | none => none
theorem ansB_run {P : Program} {ps : PS} {cs : CS} (hps : PSOk ps cs) {sy : List Nat} {os : List Bool} {vs : List AVal} {nn F : Nat} {f : FuncId} {args : List AVal} {H : HL} {fr n : Nat} {v : AVal} {o : AObj} {ob : List Bool} (h : ansB n (run1O P ps cs sy os vs nn F f args H fr) = some (v, o, ob)) (ha : allT ob = true) :
    ∃ H' fr', run1 P cs nn F f args H fr = some (v, H', fr') ∧ aget H' n = some o := by
  unfold ansB at h
  split at h
  · rename_i v' H' fr' ob' hr
    split at h
    · rename_i o' ho
      simp only [Option.some.injEq, Prod.mk.injEq] at h
      obtain ⟨rfl, rfl, rfl⟩ := h
      exact ⟨H', fr', run1O_ok hps hr ha, ho⟩
    · cases h
  · cases h
end Go.Eng

/- Numbers in parts, over Nat: carrying, products, what is modulo 2^130 - 5. -/
namespace Go.Poly
set_option linter.unusedVariables false
set_option linter.unusedSimpArgs false
set_option maxRecDepth 100000
set_option linter.unusedSimpArgs false
set_option linter.unusedVariables false
/-- The value of the first n parts, in base b. -/
def vN (b : Nat) (x : Nat → Nat) : Nat → Nat
  | 0 => 0
  | n + 1 => vN b x n + x n * b ^ n
/-- Sums with what is carried. -/
def chN (b : Nat) (x : Nat → Nat) : Nat → Nat
  | 0 => x 0
  | j + 1 => x (j + 1) + chN b x j / b
theorem vN_congr {b : Nat} {x y : Nat → Nat} : ∀ {n : Nat}, (∀ i, i < n → x i = y i) → vN b x n = vN b y n
  | 0, _ => rfl
  | n + 1, h => by
    show vN b x n + _ = vN b y n + _
    rw [vN_congr (n := n) fun i hi => h i (by omega), h n (by omega)]
theorem carry_val (b : Nat) (x : Nat → Nat) : ∀ n, vN b x (n + 1) = vN b (fun i => chN b x i % b) (n + 1) + chN b x n / b * b ^ (n + 1)
  | 0 => by
    show 0 + x 0 * b ^ 0 = 0 + x 0 % b * b ^ 0 + x 0 / b * b ^ 1
    have := Nat.mod_add_div (x 0) b
    rw [Nat.pow_zero, Nat.pow_one, Nat.mul_comm (x 0 / b) b]
    omega
  | n + 1 => by
    show vN b x (n + 1) + x (n + 1) * b ^ (n + 1) = (vN b (fun i => chN b x i % b) (n + 1) + chN b x (n + 1) % b * b ^ (n + 1)) + chN b x (n + 1) / b * b ^ (n + 2)
    rw [carry_val b x n]
    have e : chN b x (n + 1) = x (n + 1) + chN b x n / b := rfl
    have h := Nat.mod_add_div (chN b x (n + 1)) b
    have e2 : b ^ (n + 2) = b * b ^ (n + 1) := by rw [Nat.pow_succ, Nat.mul_comm]
    have h2 : chN b x (n + 1) * b ^ (n + 1) = chN b x (n + 1) % b * b ^ (n + 1) + chN b x (n + 1) / b * (b * b ^ (n + 1)) := by
      conv => lhs; rw [← h]
      rw [Nat.add_mul, Nat.mul_assoc, Nat.mul_left_comm]
    have h3 : chN b x (n + 1) * b ^ (n + 1) = x (n + 1) * b ^ (n + 1) + chN b x n / b * b ^ (n + 1) := by rw [e, Nat.add_mul]
    rw [e2]
    omega
theorem vN_lt {b : Nat} (hb : 0 < b) {x : Nat → Nat} : ∀ {n : Nat}, (∀ i, i < n → x i < b) → vN b x n < b ^ n
  | 0, _ => by simp [vN]
  | n + 1, h => by
    have h1 := vN_lt hb (n := n) fun i hi => h i (by omega)
    have h2 : x n * b ^ n ≤ (b - 1) * b ^ n := Nat.mul_le_mul_right _ (by have := h n (by omega); omega)
    show vN b x n + x n * b ^ n < b ^ (n + 1)
    have h3 : b ^ (n + 1) = (b - 1) * b ^ n + b ^ n := by
      have : (b - 1) * b ^ n + b ^ n = (b - 1 + 1) * b ^ n := by rw [Nat.add_mul, Nat.one_mul]
      rw [this, Nat.sub_add_cancel hb, Nat.pow_succ, Nat.mul_comm]
    omega
theorem vN_digit {b : Nat} (hb : 0 < b) {x : Nat → Nat} {n : Nat} (h : ∀ i, i < n → x i < b) {i : Nat} (hi : i < n) : vN b x n / b ^ i % b = x i := by
  induction n with
  | zero => omega
  | succ n ih =>
    show (vN b x n + x n * b ^ n) / b ^ i % b = x i
    by_cases e : i = n
    · subst e
      have h1 := vN_lt hb (n := i) (x := x) fun j hj => h j (by omega)
      rw [Nat.add_mul_div_right _ _ (Nat.pow_pos hb), Nat.div_eq_of_lt h1, Nat.zero_add, Nat.mod_eq_of_lt (h i (by omega))]
    · have e2 : x n * b ^ n = (x n * b ^ (n - i - 1) * b) * b ^ i := by
        have : b ^ n = b ^ (n - i - 1) * b * b ^ i := by
          rw [← Nat.pow_succ, ← Nat.pow_add]
          congr 1
          omega
        rw [this]
        simp only [Nat.mul_assoc]
      rw [e2, Nat.add_mul_div_right _ _ (Nat.pow_pos hb), Nat.add_mul_mod_self_right]
      exact ih (fun j hj => h j (by omega)) (by omega)
/-- A part that is 0 where the value is small. -/
theorem vN_high {b : Nat} (hb : 0 < b) {x : Nat → Nat} {n k : Nat} (h : vN b x n < b ^ k) {i : Nat} (hk : k ≤ i) (hi : i < n) : x i = 0 := by
  induction n with
  | zero => omega
  | succ n ih =>
    have e : vN b x (n + 1) = vN b x n + x n * b ^ n := rfl
    by_cases hin : i = n
    · subst hin
      have h1 : b ^ k ≤ b ^ i := Nat.pow_le_pow_right hb hk
      by_cases hz : x i = 0
      · exact hz
      · have : 1 * b ^ i ≤ x i * b ^ i := Nat.mul_le_mul_right _ (by omega)
        omega
    · exact ih (by omega) (by omega)
theorem vN_zero (b : Nat) {x : Nat → Nat} : ∀ {n : Nat}, (∀ i, i < n → x i = 0) → vN b x n = 0
  | 0, _ => rfl
  | n + 1, h => by
    show vN b x n + x n * b ^ n = 0
    rw [vN_zero b (n := n) fun i hi => h i (by omega), h n (by omega), Nat.zero_mul]
theorem vN_add (b : Nat) (x y : Nat → Nat) : ∀ n, vN b (fun i => x i + y i) n = vN b x n + vN b y n
  | 0 => rfl
  | n + 1 => by
    show vN b (fun i => x i + y i) n + (x n + y n) * b ^ n = (vN b x n + x n * b ^ n) + (vN b y n + y n * b ^ n)
    rw [vN_add b x y n, Nat.add_mul]
    omega
theorem vN_mul (b c : Nat) (x : Nat → Nat) : ∀ n, vN b (fun i => c * x i) n = c * vN b x n
  | 0 => rfl
  | n + 1 => by
    show vN b (fun i => c * x i) n + c * x n * b ^ n = c * (vN b x n + x n * b ^ n)
    rw [vN_mul b c x n, Nat.mul_add, Nat.mul_assoc]
/-- One part more. -/
theorem vN_upd (b : Nat) (x : Nat → Nat) (k v : Nat) : ∀ n, k < n → vN b (fun i => if i = k then x k + v else x i) n = vN b x n + v * b ^ k
  | 0, h => by omega
  | n + 1, h => by
    show vN b (fun i => if i = k then x k + v else x i) n + (if n = k then x k + v else x n) * b ^ n = (vN b x n + x n * b ^ n) + v * b ^ k
    by_cases e : n = k
    · subst e
      rw [if_pos rfl, Nat.add_mul, vN_congr (y := x) fun i hi => by rw [if_neg (by omega)]]
      omega
    · rw [if_neg e, vN_upd b x k v n (by omega)]
      omega
theorem ch_bound {b : Nat} (hb : 2 ≤ b) {x : Nat → Nat} {M : Nat} : ∀ {j : Nat}, (∀ i, i ≤ j → x i ≤ M) → chN b x j ≤ 2 * M
  | 0, h => by have := h 0 (by omega); show x 0 ≤ 2 * M; omega
  | j + 1, h => by
    have h1 := ch_bound hb (j := j) fun i hi => h i (by omega)
    have h2 : chN b x j / b ≤ M := by
      rw [Nat.div_le_iff_le_mul_add_pred (by omega)]
      have : 2 * M ≤ b * M := Nat.mul_le_mul_right _ hb
      omega
    have := h (j + 1) (by omega)
    show x (j + 1) + chN b x j / b ≤ 2 * M
    omega
/-! ### products -/
/-- What row k adds. -/
def rowN (y : Nat → Nat) (c k w : Nat) (m : Nat) : Nat := if k ≤ m ∧ m < k + w then c * y (m - k) else 0
theorem row_val (b : Nat) (y : Nat → Nat) (c k w : Nat) : ∀ n, vN b (rowN y c k w) (k + n) = c * b ^ k * vN b y (min n w)
  | 0 => by
    rw [Nat.add_zero, Nat.zero_min]
    show _ = c * b ^ k * 0
    rw [Nat.mul_zero]
    exact vN_zero b fun i hi => by unfold rowN; rw [if_neg (by omega)]
  | n + 1 => by
    show vN b (rowN y c k w) (k + n) + rowN y c k w (k + n) * b ^ (k + n) = _
    rw [row_val b y c k w n]
    unfold rowN
    by_cases h : n < w
    · rw [if_pos (by omega), Nat.add_sub_cancel_left, Nat.min_eq_left (by omega), Nat.min_eq_left (by omega)]
      show _ = c * b ^ k * (vN b y n + y n * b ^ n)
      rw [Nat.mul_add, Nat.pow_add]
      congr 1
      simp only [Nat.mul_assoc, Nat.mul_left_comm, Nat.mul_comm]
    · rw [if_neg (by omega), Nat.min_eq_right (by omega), Nat.min_eq_right (by omega), Nat.zero_mul, Nat.add_zero]
/-- The product's parts, of the first rows. -/
def prN (x y : Nat → Nat) (w : Nat) (m : Nat) : Nat → Nat
  | 0 => 0
  | i + 1 => prN x y w m i + rowN y (x i) i w m
theorem pr_val (b : Nat) (x y : Nat → Nat) (w N : Nat) : ∀ r, r + w ≤ N → vN b (fun m => prN x y w m r) N = vN b x r * vN b y w
  | 0, _ => by
    show vN b (fun m => 0) N = 0 * _
    rw [Nat.zero_mul]
    exact vN_zero b fun _ _ => rfl
  | r + 1, h => by
    show vN b (fun m => prN x y w m r + rowN y (x r) r w m) N = (vN b x r + x r * b ^ r) * vN b y w
    rw [vN_add, pr_val b x y w N r (by omega), Nat.add_mul]
    congr 1
    obtain ⟨n, rfl⟩ : ∃ n, N = r + n := ⟨N - r, by omega⟩
    have := row_val b y (x r) r w n
    rw [Nat.min_eq_right (by omega)] at this
    exact this
/-! ### 2^130 and 5 -/
def Pp : Nat := 2 ^ 130 - 5
theorem Pp_eq : 2 ^ 130 = Pp + 5 := by unfold Pp; omega
theorem Pp_pos : 0 < Pp := by unfold Pp; omega
theorem fold_top (a b : Nat) : (a + b * 2 ^ 130) % Pp = (a + 5 * b) % Pp := by
  rw [Pp_eq, Nat.mul_add, Nat.mul_comm b 5, show a + (b * Pp + 5 * b) = a + 5 * b + b * Pp by omega, Nat.add_mul_mod_self_right]
theorem mod_mul {a a' b b' : Nat} (h : a % Pp = a' % Pp) (h' : b % Pp = b' % Pp) : a * b % Pp = a' * b' % Pp := by rw [Nat.mul_mod, h, h', ← Nat.mul_mod]
theorem mod_add {a a' b b' : Nat} (h : a % Pp = a' % Pp) (h' : b % Pp = b' % Pp) : (a + b) % Pp = (a' + b') % Pp := by rw [Nat.add_mod, h, h', ← Nat.add_mod]
end Go.Poly

/- Numbers in five parts of 26 bits and in 18 parts of 8 bits, over Nat. -/
namespace Go.Poly
set_option linter.unusedVariables false
set_option linter.unusedSimpArgs false
set_option maxRecDepth 100000
set_option linter.unusedSimpArgs false
set_option linter.unusedVariables false
abbrev B26 : Nat := 67108864
/-! ### five parts -/
def pass5 (X : Nat → Nat) (j : Nat) : Nat := if j = 0 then chN B26 X 0 % B26 + 5 * (chN B26 X 4 / B26) else chN B26 X j % B26
theorem pass5_val (X : Nat → Nat) : vN B26 (pass5 X) 5 = vN B26 (fun i => chN B26 X i % B26) 5 + 5 * (chN B26 X 4 / B26) := by
  have h := vN_upd B26 (fun i => chN B26 X i % B26) 0 (5 * (chN B26 X 4 / B26)) 5 (by omega)
  rw [Nat.pow_zero, Nat.mul_one] at h
  rw [← h]
  exact vN_congr fun i hi => by
    show (if i = 0 then _ else _) = if i = 0 then _ else _
    by_cases e : i = 0
    · subst e; rfl
    · rw [if_neg e]
theorem pass5_mod (X : Nat → Nat) : vN B26 (pass5 X) 5 % Pp = vN B26 X 5 % Pp := by
  rw [pass5_val, carry_val B26 X 4, show B26 ^ (4 + 1) = 2 ^ 130 by rfl, fold_top]
def N5 (X : Nat → Nat) : Prop := X 0 < 67108869 ∧ ∀ i, 0 < i → i < 5 → X i < B26
def T5 (X : Nat → Nat) : Prop := ∀ i, i < 5 → X i < B26
theorem ch5 (X : Nat → Nat) : chN B26 X 0 = X 0 ∧ chN B26 X 1 = X 1 + chN B26 X 0 / B26 ∧ chN B26 X 2 = X 2 + chN B26 X 1 / B26 ∧ chN B26 X 3 = X 3 + chN B26 X 2 / B26 ∧ chN B26 X 4 = X 4 + chN B26 X 3 / B26 := ⟨rfl, rfl, rfl, rfl, rfl⟩
theorem i5 {P : Nat → Prop} (h0 : P 0) (h1 : P 1) (h2 : P 2) (h3 : P 3) (h4 : P 4) : ∀ i, i < 5 → P i := fun i hi => by
  match i, hi with
  | 0, _ => exact h0
  | 1, _ => exact h1
  | 2, _ => exact h2
  | 3, _ => exact h3
  | 4, _ => exact h4
theorem p5 (X : Nat → Nat) : pass5 X 0 = chN B26 X 0 % B26 + 5 * (chN B26 X 4 / B26) ∧ pass5 X 1 = chN B26 X 1 % B26 ∧ pass5 X 2 = chN B26 X 2 % B26 ∧ pass5 X 3 = chN B26 X 3 % B26 ∧ pass5 X 4 = chN B26 X 4 % B26 := ⟨rfl, rfl, rfl, rfl, rfl⟩
theorem pass5_1 {X : Nat → Nat} (h : ∀ i, i < 5 → X i < 4611686018427387904) : pass5 X 0 < 1099511627776 ∧ ∀ i, 0 < i → i < 5 → pass5 X i < B26 := by
  obtain ⟨c0, c1, c2, c3, c4⟩ := ch5 X
  obtain ⟨q0, q1, q2, q3, q4⟩ := p5 X
  have h0 := h 0 (by omega)
  have h1 := h 1 (by omega)
  have h2 := h 2 (by omega)
  have h3 := h 3 (by omega)
  have h4 := h 4 (by omega)
  unfold B26 at *
  refine ⟨by omega, fun i hi h5 => ?_⟩
  have : i = 1 ∨ i = 2 ∨ i = 3 ∨ i = 4 := by omega
  rcases this with rfl | rfl | rfl | rfl <;> omega
theorem pass5_2 {X : Nat → Nat} (h0 : X 0 < 1099511627776) (h : ∀ i, 0 < i → i < 5 → X i < B26) : N5 (pass5 X) := by
  obtain ⟨c0, c1, c2, c3, c4⟩ := ch5 X
  obtain ⟨q0, q1, q2, q3, q4⟩ := p5 X
  have h1 := h 1 (by omega) (by omega)
  have h2 := h 2 (by omega) (by omega)
  have h3 := h 3 (by omega) (by omega)
  have h4 := h 4 (by omega) (by omega)
  unfold N5
  unfold B26 at *
  refine ⟨by omega, fun i hi h5 => ?_⟩
  have : i = 1 ∨ i = 2 ∨ i = 3 ∨ i = 4 := by omega
  rcases this with rfl | rfl | rfl | rfl <;> omega
theorem pass5_3 {X : Nat → Nat} (h : N5 X) : T5 (pass5 X) := by
  obtain ⟨h0, h⟩ := h
  obtain ⟨c0, c1, c2, c3, c4⟩ := ch5 X
  obtain ⟨q0, q1, q2, q3, q4⟩ := p5 X
  have h1 := h 1 (by omega) (by omega)
  have h2 := h 2 (by omega) (by omega)
  have h3 := h 3 (by omega) (by omega)
  have h4 := h 4 (by omega) (by omega)
  unfold T5
  unfold B26 at *
  exact i5 (by omega) (by omega) (by omega) (by omega) (by omega)
theorem N5_of {X : Nat → Nat} (h : T5 X) : N5 X := ⟨by have := h 0 (by omega); unfold B26 at this; omega, fun i _ hi => h i hi⟩
theorem N5_lt {X : Nat → Nat} (h : N5 X) : ∀ i, i < 5 → X i < 67108869 := fun i hi => by
  by_cases e : i = 0
  · subst e; exact h.1
  · have := h.2 i (by omega) hi
    unfold B26 at this
    omega
def carN5 (X : Nat → Nat) : Nat → Nat := pass5 (pass5 X)
theorem carN5_ok {X : Nat → Nat} (h : ∀ i, i < 5 → X i < 4611686018427387904) : N5 (carN5 X) := by
  obtain ⟨a, b⟩ := pass5_1 h
  exact pass5_2 a b
theorem carN5_tight {X : Nat → Nat} (h : N5 X) : T5 (carN5 X) := pass5_3 (N5_of (pass5_3 h))
theorem carN5_mod (X : Nat → Nat) : vN B26 (carN5 X) 5 % Pp = vN B26 X 5 % Pp := by
  unfold carN5
  rw [pass5_mod, pass5_mod]
/-! products of five parts -/
def zN (x y : Nat → Nat) (j : Nat) : Nat → Nat
  | 0 => 0
  | i + 1 => zN x y j i + x i * (if i ≤ j then y (j - i) else y (j + 5 - i) * 5)
theorem zN_poly (b p x0 x1 x2 x3 x4 y0 y1 y2 y3 y4 : Int) (hb : b ^ 5 = p + 5) :
    (x0 * y0 + x1 * (y4 * 5) + x2 * (y3 * 5) + x3 * (y2 * 5) + x4 * (y1 * 5)) + (x0 * y1 + x1 * y0 + x2 * (y4 * 5) + x3 * (y3 * 5) + x4 * (y2 * 5)) * b + (x0 * y2 + x1 * y1 + x2 * y0 + x3 * (y4 * 5) + x4 * (y3 * 5)) * b ^ 2 + (x0 * y3 + x1 * y2 + x2 * y1 + x3 * y0 + x4 * (y4 * 5)) * b ^ 3 + (x0 * y4 + x1 * y3 + x2 * y2 + x3 * y1 + x4 * y0) * b ^ 4
      + p * ((x1 * y4 + x2 * y3 + x3 * y2 + x4 * y1) + (x2 * y4 + x3 * y3 + x4 * y2) * b + (x3 * y4 + x4 * y3) * b ^ 2 + x4 * y4 * b ^ 3)
    = (x0 + x1 * b + x2 * b ^ 2 + x3 * b ^ 3 + x4 * b ^ 4) * (y0 + y1 * b + y2 * b ^ 2 + y3 * b ^ 3 + y4 * b ^ 4) := by
  have hp : p = b ^ 5 - 5 := by omega
  subst hp
  grind -lia -linarith
/-- The product of five parts. -/
theorem zN_mod (x y : Nat → Nat) : vN B26 (fun j => zN x y j 5) 5 % Pp = vN B26 x 5 * vN B26 y 5 % Pp := by
  have h := zN_poly 67108864 (Pp : Int) (x 0) (x 1) (x 2) (x 3) (x 4) (y 0) (y 1) (y 2) (y 3) (y 4) (by unfold Pp; decide)
  have e1 : vN B26 (fun j => zN x y j 5) 5 = 0 + (x 0 * y 0 + x 1 * (y 4 * 5) + x 2 * (y 3 * 5) + x 3 * (y 2 * 5) + x 4 * (y 1 * 5)) * 67108864 ^ 0 + (x 0 * y 1 + x 1 * y 0 + x 2 * (y 4 * 5) + x 3 * (y 3 * 5) + x 4 * (y 2 * 5)) * 67108864 ^ 1 + (x 0 * y 2 + x 1 * y 1 + x 2 * y 0 + x 3 * (y 4 * 5) + x 4 * (y 3 * 5)) * 67108864 ^ 2 + (x 0 * y 3 + x 1 * y 2 + x 2 * y 1 + x 3 * y 0 + x 4 * (y 4 * 5)) * 67108864 ^ 3 + (x 0 * y 4 + x 1 * y 3 + x 2 * y 2 + x 3 * y 1 + x 4 * y 0) * 67108864 ^ 4 := by
    simp [vN, zN, B26]
  have e2 : ∀ z : Nat → Nat, vN B26 z 5 = 0 + z 0 * 67108864 ^ 0 + z 1 * 67108864 ^ 1 + z 2 * 67108864 ^ 2 + z 3 * 67108864 ^ 3 + z 4 * 67108864 ^ 4 := fun z => rfl
  obtain ⟨q, hq⟩ : ∃ q, q = (x 1 * y 4 + x 2 * y 3 + x 3 * y 2 + x 4 * y 1) + (x 2 * y 4 + x 3 * y 3 + x 4 * y 2) * 67108864 + (x 3 * y 4 + x 4 * y 3) * 67108864 ^ 2 + x 4 * y 4 * 67108864 ^ 3 := ⟨_, rfl⟩
  have h3 : vN B26 (fun j => zN x y j 5) 5 + Pp * q = vN B26 x 5 * vN B26 y 5 := by
    rw [e1, e2 x, e2 y, hq]
    apply Int.ofNat_inj.1
    simp only [Int.natCast_add, Int.natCast_mul, Int.natCast_pow, Nat.pow_zero, Nat.pow_one, Nat.mul_one, Nat.zero_add, Int.pow_zero, Int.pow_one, Int.mul_one, Int.zero_add] at h ⊢
    exact h
  rw [← h3, Nat.add_mul_mod_self_left]
/-! ### 18 parts -/
def topN (X : Nat → Nat) : Nat := chN 256 X 16 % 256 / 4 + 64 * (chN 256 X 17 % 256) + 16384 * (chN 256 X 17 / 256)
def lowN (X : Nat → Nat) (j : Nat) : Nat := if j = 16 then chN 256 X 16 % 256 % 4 else if j = 17 then 0 else chN 256 X j % 256
def rpassN (X : Nat → Nat) (j : Nat) : Nat := if j = 0 then lowN X 0 + 5 * topN X else lowN X j
theorem low_top (X : Nat → Nat) : vN 256 X 18 = vN 256 (lowN X) 18 + topN X * 2 ^ 130 := by
  have h := carry_val 256 X 17
  have e1 : vN 256 (fun i => chN 256 X i % 256) (17 + 1) = vN 256 (fun i => chN 256 X i % 256) 16 + chN 256 X 16 % 256 * 256 ^ 16 + chN 256 X 17 % 256 * 256 ^ 17 := rfl
  have e2 : vN 256 (lowN X) 18 = vN 256 (lowN X) 16 + chN 256 X 16 % 256 % 4 * 256 ^ 16 + 0 * 256 ^ 17 := rfl
  have e3 : vN 256 (lowN X) 16 = vN 256 (fun i => chN 256 X i % 256) 16 := vN_congr fun i hi => by unfold lowN; rw [if_neg (by omega), if_neg (by omega)]
  rw [h, e1, e2, e3]
  unfold topN
  generalize vN 256 (fun i => chN 256 X i % 256) 16 = v
  generalize chN 256 X 16 % 256 = u
  generalize chN 256 X 17 = w
  omega
theorem low_lt (X : Nat → Nat) : vN 256 (lowN X) 18 < 2 ^ 130 := by
  have e2 : vN 256 (lowN X) 18 = vN 256 (lowN X) 16 + chN 256 X 16 % 256 % 4 * 256 ^ 16 + 0 * 256 ^ 17 := rfl
  have h := vN_lt (b := 256) (by omega) (x := lowN X) (n := 16) fun i hi => by unfold lowN; rw [if_neg (by omega), if_neg (by omega)]; omega
  rw [e2]
  generalize chN 256 X 16 % 256 = u
  omega
theorem rpass_val (X : Nat → Nat) : vN 256 (rpassN X) 18 = vN 256 X 18 % 2 ^ 130 + 5 * (vN 256 X 18 / 2 ^ 130) := by
  have h := vN_upd 256 (lowN X) 0 (5 * topN X) 18 (by omega)
  rw [Nat.pow_zero, Nat.mul_one] at h
  have h1 := low_top X
  have h2 := low_lt X
  have h3 : vN 256 X 18 % 2 ^ 130 = vN 256 (lowN X) 18 := by rw [h1, Nat.add_mul_mod_self_right, Nat.mod_eq_of_lt h2]
  have h4 : vN 256 X 18 / 2 ^ 130 = topN X := by rw [h1, Nat.add_mul_div_right _ _ (by decide), Nat.div_eq_of_lt h2, Nat.zero_add]
  rw [h3, h4, ← h]
  rfl
theorem mod_top (v : Nat) : (v % 2 ^ 130 + 5 * (v / 2 ^ 130)) % Pp = v % Pp := by
  rw [← fold_top]
  have := Nat.mod_add_div v (2 ^ 130)
  rw [Nat.mul_comm (v / 2 ^ 130), this]
theorem vN_le {b c : Nat} (hb : 0 < b) {x : Nat → Nat} : ∀ {n : Nat}, (∀ i, i < n → x i ≤ c * (b - 1)) → vN b x n + c ≤ c * b ^ n
  | 0, _ => by simp [vN]
  | n + 1, h => by
    have h1 := vN_le hb (n := n) fun i hi => h i (by omega)
    have h2 : x n * b ^ n ≤ c * (b - 1) * b ^ n := Nat.mul_le_mul_right _ (h n (by omega))
    show vN b x n + x n * b ^ n + c ≤ c * b ^ (n + 1)
    have h3 : c * b ^ (n + 1) = c * (b - 1) * b ^ n + c * b ^ n := by
      rw [← Nat.add_mul, ← Nat.mul_succ, Nat.succ_eq_add_one, Nat.sub_add_cancel hb, Nat.pow_succ, Nat.mul_comm (b ^ n) b, Nat.mul_assoc]
    omega
def C18 (X : Nat → Nat) : Prop := (∀ i, i < 18 → X i < 256) ∧ vN 256 X 18 < 2 ^ 130
def carN18 (X : Nat → Nat) (j : Nat) : Nat := chN 256 (rpassN (rpassN (rpassN X))) j % 256
theorem top_le (X : Nat → Nat) : topN X = vN 256 X 18 / 2 ^ 130 := by
  have h1 := low_top X
  have h2 := low_lt X
  rw [h1, Nat.add_mul_div_right _ _ (by decide), Nat.div_eq_of_lt h2, Nat.zero_add]
theorem rpass_le {X : Nat → Nat} {c : Nat} (h : vN 256 X 18 / 2 ^ 130 ≤ c) : ∀ i, i < 18 → rpassN X i ≤ 255 + 5 * c := fun i hi => by
  have ht := top_le X
  unfold rpassN lowN
  by_cases h0 : i = 0
  · rw [if_pos h0, if_neg (by omega), if_neg (by omega)]
    omega
  · rw [if_neg h0]
    by_cases h1 : i = 16
    · rw [if_pos h1]; omega
    · rw [if_neg h1]
      by_cases h2 : i = 17
      · rw [if_pos h2]; omega
      · rw [if_neg h2]; omega
theorem val_4096 {X : Nat → Nat} (h : ∀ i, i < 18 → X i ≤ 4096) : vN 256 X 18 / 2 ^ 130 ≤ 524288 := by
  have h1 := vN_le (b := 256) (c := 17) (by omega) (x := X) (n := 18) fun i hi => by have := h i hi; omega
  omega
theorem car18_vals {X : Nat → Nat} (h : vN 256 X 18 / 2 ^ 130 ≤ 524288) : vN 256 (rpassN X) 18 / 2 ^ 130 ≤ 1 ∧ vN 256 (rpassN (rpassN X)) 18 < 2 ^ 130 ∧ vN 256 (rpassN (rpassN (rpassN X))) 18 = vN 256 (rpassN (rpassN X)) 18 := by
  have h1 := rpass_val X
  have h2 := rpass_val (rpassN X)
  have h3 := rpass_val (rpassN (rpassN X))
  generalize vN 256 X 18 = a at *
  generalize vN 256 (rpassN X) 18 = b at *
  generalize vN 256 (rpassN (rpassN X)) 18 = c at *
  generalize vN 256 (rpassN (rpassN (rpassN X))) 18 = d at *
  omega
theorem car18_ok {X : Nat → Nat} (h : ∀ i, i < 18 → X i ≤ 4096) : C18 (carN18 X) ∧ vN 256 (carN18 X) 18 % Pp = vN 256 X 18 % Pp := by
  obtain ⟨h1, h2, h3⟩ := car18_vals (val_4096 h)
  have e := carry_val 256 (rpassN (rpassN (rpassN X))) 17
  have e2 : vN 256 (carN18 X) 18 = vN 256 (rpassN (rpassN X)) 18 := by
    show vN 256 (fun i => chN 256 (rpassN (rpassN (rpassN X))) i % 256) (17 + 1) = _
    rw [h3] at e
    have hz : chN 256 (rpassN (rpassN (rpassN X))) 17 / 256 = 0 := by
      generalize chN 256 (rpassN (rpassN (rpassN X))) 17 / 256 = k at *
      generalize vN 256 (fun i => chN 256 (rpassN (rpassN (rpassN X))) i % 256) (17 + 1) = m at *
      have e' : vN 256 (rpassN (rpassN X)) 18 = m + k * 256 ^ 18 := e
      omega
    rw [hz, Nat.zero_mul, Nat.add_zero] at e
    exact e.symm
  refine ⟨⟨fun i _ => Nat.mod_lt _ (by omega), by rw [e2]; exact h2⟩, ?_⟩
  rw [e2, rpass_val (rpassN X), mod_top, rpass_val X, mod_top]
/-! products of 18 parts -/
def tN18 (a b : Nat → Nat) (m : Nat) : Nat := prN a b 18 m 18
def tcN (a b : Nat → Nat) (j : Nat) : Nat := chN 256 (tN18 a b) j % 256
def loN (a b : Nat → Nat) (j : Nat) : Nat := if 17 ≤ j then 0 else if j = 16 then tcN a b 16 % 4 else tcN a b j
def hiN (a b : Nat → Nat) (j : Nat) : Nat := if 17 ≤ j then 0 else tcN a b (16 + j) / 4 + tcN a b (17 + j) % 4 * 64
def prR18 (a b : Nat → Nat) (j : Nat) : Nat := loN a b j + 5 * hiN a b j
theorem split_hi0 (p1 p2 q1 u w : Nat) : (p1 + 4 * p2) * (u * w) + q1 * (256 * u * w) = p1 * (u * w) + 4 * u * ((p2 + q1 * 64) * w) := by grind -lia -linarith
theorem split_hi1 (p q u w : Nat) : p * (u * w) + q % 4 * (256 * u * w) = p % 4 * (u * w) + 4 * u * ((p / 4 + q % 4 * 64) * w) := by
  have h := split_hi0 (p % 4) (p / 4) (q % 4) u w
  rw [Nat.mod_add_div] at h
  exact h
theorem split_hi (t : Nat → Nat) (u v : Nat) (hu : u = 256 ^ 16) (hv : v = 4 * u) (n : Nat) : vN 256 t (16 + n) + t (16 + n) % 4 * (u * 256 ^ n) = vN 256 t 16 + t 16 % 4 * u + v * vN 256 (fun j => t (16 + j) / 4 + t (17 + j) % 4 * 64) n := by
  induction n with
  | zero =>
    show vN 256 t 16 + t 16 % 4 * (u * 1) = vN 256 t 16 + t 16 % 4 * u + v * 0
    rw [Nat.mul_one, Nat.mul_zero, Nat.add_zero]
  | succ n h =>
    have e : vN 256 t (16 + (n + 1)) = vN 256 t (16 + n) + t (16 + n) * (u * 256 ^ n) := by
      show vN 256 t (16 + n) + t (16 + n) * 256 ^ (16 + n) = _
      rw [hu, Nat.pow_add]
    have e2 : vN 256 (fun j => t (16 + j) / 4 + t (17 + j) % 4 * 64) (n + 1) = vN 256 (fun j => t (16 + j) / 4 + t (17 + j) % 4 * 64) n + (t (16 + n) / 4 + t (17 + n) % 4 * 64) * 256 ^ n := rfl
    have e5 : 16 + (n + 1) = 17 + n := by omega
    have e6 : u * 256 ^ (n + 1) = 256 * u * 256 ^ n := by rw [Nat.pow_succ, Nat.mul_comm (256 ^ n) 256, ← Nat.mul_assoc, Nat.mul_comm u 256]
    rw [e, e2, e6, show t (16 + (n + 1)) = t (17 + n) by rw [e5], Nat.mul_add, ← Nat.add_assoc, ← h, Nat.add_assoc, Nat.add_assoc, hv]
    rw [split_hi1]
theorem vN_36 (t : Nat → Nat) : vN 256 t 36 = vN 256 t 33 + t 33 * 256 ^ 33 + t 34 * 256 ^ 34 + t 35 * 256 ^ 35 := rfl
theorem vN_18 (t : Nat → Nat) : vN 256 t 18 = vN 256 t 16 + t 16 * 256 ^ 16 + t 17 * 256 ^ 17 := rfl
theorem vN_18b (t : Nat → Nat) : vN 256 t 18 = vN 256 t 17 + t 17 * 256 ^ 17 := rfl
theorem carry_36 (x y : Nat → Nat) (h : ∀ i, y i = chN 256 x i % 256) : vN 256 x 36 = vN 256 y 36 + chN 256 x 35 / 256 * 256 ^ 36 := by
  have e : (fun i => chN 256 x i % 256) = y := funext fun i => (h i).symm
  have := carry_val 256 x 35
  rw [e] at this
  exact this
theorem t36 {t : Nat → Nat} {v w k : Nat} (hl : v < 2 ^ 130 * 2 ^ 130) (hc : v = w + k * 256 ^ 36) : w = v := by omega
theorem t33 {t : Nat → Nat} {v : Nat} (hl : v < 2 ^ 130 * 2 ^ 130) (hv : vN 256 t 36 = v) : vN 256 t 33 = v ∧ t 33 = 0 := by
  have hb : v < 256 ^ 33 := by omega
  have hh := fun i => vN_high (b := 256) (by omega) (x := t) (n := 36) (k := 33) (by rw [hv]; exact hb) (i := i)
  have h33 : t 33 = 0 := hh 33 (by omega) (by omega)
  have h34 : t 34 = 0 := hh 34 (by omega) (by omega)
  have h35 : t 35 = 0 := hh 35 (by omega) (by omega)
  rw [vN_36, h33, h34, h35] at hv
  refine ⟨?_, h33⟩
  rw [← hv]
  generalize vN 256 t 33 = x
  generalize 256 ^ 33 = p
  generalize 256 ^ 34 = q
  generalize 256 ^ 35 = r
  omega
theorem times18h {t lo hi pr : Nat → Nat} {v : Nat} (h33 : vN 256 t 33 = v) (hz : t 33 = 0) (hlo0 : ∀ i, i < 16 → lo i = t i) (hlo1 : lo 16 = t 16 % 4) (hlo2 : lo 17 = 0)
    (hhi0 : ∀ i, i < 17 → hi i = t (16 + i) / 4 + t (17 + i) % 4 * 64) (hhi1 : hi 17 = 0) (hpr : ∀ i, pr i = lo i + 5 * hi i) : vN 256 pr 18 % Pp = v % Pp := by
  have hlo : vN 256 lo 18 = vN 256 t 16 + t 16 % 4 * 256 ^ 16 := by
    rw [vN_18, hlo1, hlo2, Nat.zero_mul, Nat.add_zero, vN_congr (x := lo) (y := t) hlo0]
  have hhi : vN 256 hi 18 = vN 256 (fun j => t (16 + j) / 4 + t (17 + j) % 4 * 64) 17 := by
    rw [vN_18b, hhi1, Nat.zero_mul, Nat.add_zero]
    exact vN_congr hhi0
  have e : vN 256 pr 18 = vN 256 lo 18 + 5 * vN 256 hi 18 := by
    rw [← vN_mul, ← vN_add]
    exact vN_congr fun i _ => hpr i
  have hs : v = vN 256 t 16 + t 16 % 4 * 256 ^ 16 + 2 ^ 130 * vN 256 (fun j => t (16 + j) / 4 + t (17 + j) % 4 * 64) 17 := by
    obtain ⟨n, hn⟩ : ∃ n, n = 17 := ⟨_, rfl⟩
    have hs := split_hi t (256 ^ 16) (2 ^ 130) rfl (by decide) n
    have hn33 : 16 + n = 33 := by omega
    rw [hn33, hz, h33, Nat.zero_mod, Nat.zero_mul, Nat.add_zero] at hs
    subst hn
    exact hs
  rw [e, ← fold_top, hs, hlo, hhi, Nat.mul_comm (2 ^ 130)]
theorem times18g {x t lo hi pr : Nat → Nat} {v : Nat} (hl : v < 2 ^ 130 * 2 ^ 130) (hx : vN 256 x 36 = v) (ht : ∀ i, t i = chN 256 x i % 256) (hlo0 : ∀ i, i < 16 → lo i = t i) (hlo1 : lo 16 = t 16 % 4) (hlo2 : lo 17 = 0)
    (hhi0 : ∀ i, i < 17 → hi i = t (16 + i) / 4 + t (17 + i) % 4 * 64) (hhi1 : hi 17 = 0) (hpr : ∀ i, pr i = lo i + 5 * hi i) : vN 256 pr 18 % Pp = v % Pp := by
  have hc := carry_36 x t ht
  rw [hx] at hc
  obtain ⟨h1, h2⟩ := t33 hl (t36 (t := t) hl hc)
  exact times18h h1 h2 hlo0 hlo1 hlo2 hhi0 hhi1 hpr
theorem tN18_val (a b : Nat → Nat) : vN 256 (tN18 a b) 36 = vN 256 a 18 * vN 256 b 18 := pr_val 256 a b 18 36 18 (by omega)
theorem times18 {a b : Nat → Nat} (ha : vN 256 a 18 < 2 ^ 130) (hb : vN 256 b 18 < 2 ^ 130) : vN 256 (prR18 a b) 18 % Pp = vN 256 a 18 * vN 256 b 18 % Pp :=
  times18g (t := tcN a b) (lo := loN a b) (hi := hiN a b) (Nat.mul_lt_mul'' ha hb) (tN18_val a b) (fun i => rfl) (fun i hi => by unfold loN; rw [if_neg (by omega), if_neg (by omega)]) (by unfold loN; rw [if_neg (by omega), if_pos rfl]) (by unfold loN; rw [if_pos (by omega)])
    (fun i hi => by unfold hiN; rw [if_neg (by omega)]) (by unfold hiN; rw [if_pos (by omega)]) (fun i => rfl)
theorem prR18_le {a b : Nat → Nat} : ∀ i, i < 18 → prR18 a b i ≤ 4096 := fun i hi => by
  have ht : ∀ j, tcN a b j < 256 := fun j => Nat.mod_lt _ (by omega)
  have h1 := ht i
  have h2 := ht 16
  have h3 := ht (16 + i)
  unfold prR18 loN hiN
  by_cases h : 17 ≤ i
  · rw [if_pos h, if_pos h]; omega
  · rw [if_neg h, if_neg h]
    by_cases h' : i = 16
    · rw [if_pos h']; omega
    · rw [if_neg h']; omega
end Go.Poly

/- The seat's masks. -/
namespace Go.Proofs.Yticajoggdghdkaa
set_option linter.unusedVariables false
set_option linter.unusedSimpArgs false
open Go Go.Eng
set_option maxRecDepth 100000
def mask : FuncId → Nat := fun f => match f with | 2 => 0 | 3 => 526279 | 4 => 1090650055 | 5 => 20769212192940096221727483316273139 | 6 => 4287 | 7 => 309513344275821599845253107 | 8 => 39614081552298092776981266419 | 9 => 14451 | 10 => 281475043836915 | 11 => 95 | 12 => 511 | 13 => 4313087 | 14 => 34359787583 | 15 => 9671406628976826459979775 | 16 => 4503599627442175 | 17 => 2147516543 | 18 => 1073742391 | _ => 0
theorem hmix : Try.prog.follows .mixedOrders = true := by kernel_rfl
def bodyOf (f : Func) : Code := f.body.getD .skip
theorem gl : Try.prog.globals.size = 0 := by kernel_rfl
end Go.Proofs.Yticajoggdghdkaa

/- Numbers in parts: what the program's and the document's functions make of them. -/
namespace Go.Proofs.Yticajoggdghdkaa
set_option linter.unusedVariables false
set_option linter.unusedSimpArgs false
open Go Go.Eng
set_option maxRecDepth 1000000
set_option linter.unusedSimpArgs false
set_option linter.unusedVariables false
/-- Sums with what is carried. -/
def chS (s : Nat) (x : Nat → UInt64) : Nat → UInt64
  | 0 => x 0 + 0
  | j + 1 => x (j + 1) + shr_u64 (chS s x j) s
def cpass (x : Nat → UInt64) (j : Nat) : UInt64 := cond (Nat.beq j 0) ((chS 26 x 0 &&& 67108863) + 5 * shr_u64 (chS 26 x 4) 26) (chS 26 x j &&& 67108863)
def carF (x : Nat → UInt64) : Nat → UInt64 := cpass (cpass x)
theorem run12 (x : Nat → UInt64) : (run1 Try.prog noCS (mask 12) 100 12 [.agg (cellsU 5 x)] [] Try.prog.globals.size).map (·.1) = some (.agg (cellsU 5 (carF x))) := by kernel_rfl
def rpass (a : Nat → UInt64) (j : Nat) : UInt64 := match j with
  | 0 => (chS 8 a 0 &&& 255) + 5 * ((shr_u64 (chS 8 a 16 &&& 255) 2 ||| shl_u64 (chS 8 a 17 &&& 255) 6) ||| shl_u64 (shr_u64 (chS 8 a 17) 8) 14)
  | 16 => (chS 8 a 16 &&& 255) &&& 3
  | 17 => 0
  | j => chS 8 a j &&& 255
def carR (a : Nat → UInt64) (j : Nat) : UInt64 := chS 8 (rpass (rpass (rpass a))) j &&& 255
theorem run16 (x : Nat → UInt64) : (run1 Try.prog noCS (mask 16) 100 16 [.agg (cellsU 18 x)] [] Try.prog.globals.size).map (·.1) = some (.agg (cellsU 18 (carR x))) := by kernel_rfl
structure Fp where
  car : (Nat → UInt64) → Nat → UInt64
  carR : (Nat → UInt64) → Nat → UInt64
def l12 (τ : Fp) : List AVal → Option EffA
  | [u] => match aggU 5 u with
    | some a => some (.pure (.agg (cellsU 5 (τ.car a))))
    | _ => none
  | _ => none
def l16 (τ : Fp) : List AVal → Option EffA
  | [u] => match aggU 18 u with
    | some a => some (.pure (.agg (cellsU 18 (τ.carR a))))
    | _ => none
  | _ => none
def nc (τ : Fp) : CS := csAlt (csOne 12 (l12 τ)) (csOne 16 (l16 τ))
def zS (x y : Nat → UInt64) (j : Nat) : Nat → UInt64
  | 0 => 0
  | i + 1 => zS x y j i + x i * cond (Nat.ble i j) (y (j - i)) (y (j + 5 - i) * 5)
theorem run13 (τ : Fp) (x y : Nat → UInt64) : (run1 Try.prog (nc τ) (mask 13) 100 13 [.agg (cellsU 5 x), .agg (cellsU 5 y)] [] Try.prog.globals.size).map (·.1) = some (.agg (cellsU 5 (τ.car (gU (cellsU 5 fun j => zS x y j 5))))) := by kernel_rfl
end Go.Proofs.Yticajoggdghdkaa

/- Numbers in parts: what is below the prime; the document's products. -/
namespace Go.Proofs.Yticajoggdghdkaa
set_option linter.unusedVariables false
set_option linter.unusedSimpArgs false
open Go Go.Eng
set_option maxRecDepth 1000000
set_option linter.unusedSimpArgs false
set_option linter.unusedVariables false
def plus5 (x : Nat → UInt64) (j : Nat) : UInt64 := cond (Nat.beq j 0) (x 0 + 5) (x j)
def red5 (x : Nat → UInt64) (j : Nat) : UInt64 := chS 26 (plus5 x) j &&& 67108863
def redC (x : Nat → UInt64) : UInt64 := shr_u64 (chS 26 (plus5 x) 4) 26
def car2 (τ : Fp) (x : Nat → UInt64) : Nat → UInt64 := gU (cellsU 5 (τ.car (gU (cellsU 5 (τ.car (gU (cellsU 5 x)))))))
theorem run14t (τ : Fp) (x : Nat → UInt64) : ansO (run1O Try.prog noPS (nc τ) [35] [true] [] (mask 14) 100 14 [.agg (cellsU 5 x)] [] Try.prog.globals.size) = some (.agg (cellsU 5 (red5 (car2 τ x))), [decide (0 < redC (car2 τ x))]) := by kernel_rfl
theorem run14f (τ : Fp) (x : Nat → UInt64) : ansO (run1O Try.prog noPS (nc τ) [35] [false] [] (mask 14) 100 14 [.agg (cellsU 5 x)] [] Try.prog.globals.size) = some (.agg (cellsU 5 (car2 τ x)), [!(decide (0 < redC (car2 τ x)))]) := by kernel_rfl
def whG (τ : Fp) (x : Nat → UInt64) : Nat → UInt64 := gU (cellsU 18 (τ.carR (gU (cellsU 18 x))))
def wh5 (x : Nat → UInt64) (j : Nat) : UInt64 := chS 8 (plus5 x) j &&& 255
def wh3 (x : Nat → UInt64) (j : Nat) : UInt64 := cond (Nat.beq j 16) (wh5 x 16 &&& 3) (wh5 x j)
theorem run17t (τ : Fp) (x : Nat → UInt64) : ansO (run1O Try.prog noPS (nc τ) [31] [true] [] (mask 17) 100 17 [.agg (cellsU 18 x)] [] Try.prog.globals.size) = some (.agg (cellsU 18 (wh3 (whG τ x))), [decide (4 ≤ wh5 (whG τ x) 16)]) := by kernel_rfl
theorem run17f (τ : Fp) (x : Nat → UInt64) : ansO (run1O Try.prog noPS (nc τ) [31] [false] [] (mask 17) 100 17 [.agg (cellsU 18 x)] [] Try.prog.globals.size) = some (.agg (cellsU 18 (whG τ x)), [!(decide (4 ≤ wh5 (whG τ x) 16))]) := by kernel_rfl
end Go.Proofs.Yticajoggdghdkaa

/- The document's product. -/
namespace Go.Proofs.Yticajoggdghdkaa
set_option linter.unusedVariables false
set_option linter.unusedSimpArgs false
open Go Go.Eng
set_option maxRecDepth 1000000
def tR (a b : Nat → UInt64) (m : Nat) : Nat → UInt64
  | 0 => 0
  | i + 1 => cond (Nat.ble i m && Nat.ble m (i + 17)) (tR a b m i + a i * b (m - i)) (tR a b m i)
def tC (a b : Nat → UInt64) (j : Nat) : UInt64 := chS 8 (fun m => tR a b m 18) j &&& 255
def loR (a b : Nat → UInt64) (j : Nat) : UInt64 := cond (Nat.ble 17 j) 0 (cond (Nat.beq j 16) (tC a b 16 &&& 3) (tC a b j))
def hiR (a b : Nat → UInt64) (j : Nat) : UInt64 := cond (Nat.ble 17 j) 0 (shr_u64 (tC a b (16 + j)) 2 ||| (shl_u64 (tC a b (17 + j)) 6 &&& 255))
def prR (a b : Nat → UInt64) (j : Nat) : UInt64 := loR a b j + 5 * hiR a b j
theorem run15 (τ : Fp) (a b : Nat → UInt64) : (run1 Try.prog (nc τ) (mask 15) 100 15 [.agg (cellsU 18 a), .agg (cellsU 18 b)] [] Try.prog.globals.size).map (·.1) = some (.agg (cellsU 18 (τ.carR (gU (cellsU 18 (prR a b)))))) := by kernel_rfl
end Go.Proofs.Yticajoggdghdkaa
