/- Texts Eng24, Eng39, Eng27, Eng28, Eng40, Eng41, Eng44, Eng45, APl0, Eng48, Bt1, Bt2: what they show stands ahead of each. -/
import Derived.Test.YtifohjjmbohhnaaT5
import Derived.Test.YtifohjjmbohhnaaChecked
import Derived.Lib.Builder
import Derived.Lib.UnsafeStr
import Derived.WalkSpells
import Derived.WalkKit
import Derived.ProofKit
import Derived.Lib.AppendStr
/- Engine, part 24: calls that hand back a new block. -/
namespace Go.Eng
set_option linter.unusedVariables false
set_option linter.unusedSimpArgs false
open Go
/-- The first name in a value. -/
def newN : AVal → Option Nat
  | .ptr n _ => some n
  | .slice n _ _ _ => some n
  | .tup vs => newL vs
  | _ => none
where newL : List AVal → Option Nat
  | [] => none
  | .ptr n _ :: _ => some n
  | .slice n _ _ _ :: _ => some n
  | _ :: l => newL l
/-- As 'viewE', of a function that hands back a new block of plain data. -/
def viewN (P : Program) (cs : CS) (nn F : Nat) (f : FuncId) (ns : List Nat) (cargs : List AVal) : EffA :=
  .eff fun base η => match objsA η ns P.globals.size with
    | none => none
    | some Ho => match run1 P cs nn F f cargs (globA η P.globals.size 0 ++ Ho) (P.globals.size + ns.length) with
      | none => none
      | some (v, H', _) => match backA η H' ns P.globals.size with
        | none => none
        | some us => match newN v with
          | none => none
          | some k => match aget H' k with
            | some (.cells false c) => match renV k 0 v with
              | none => none
              | some v1 => match renV 0 base v1 with
                | none => none
                | some v2 => cond (ltV 1 v1 && ltL 0 c && nodupB ns && Nat.ble (P.globals.size + ns.length) k) (some (v2, us ++ [(base, some (.cells false c))])) none
            | _ => none
theorem appU_append : ∀ {us : List (Nat × Option AObj)} {vs : List (Nat × Option AObj)} {H : HL}, (∀ m x, (m, x) ∈ us → x.isSome = true) → appU H (us ++ vs) = appU (appU H us) vs
  | [], vs, H, _ => rfl
  | (n, none) :: us, vs, H, h => by have := h n none (List.mem_cons_self ..); cases this
  | (n, some o) :: us, vs, H, h => by
    simp only [List.cons_append, appU]
    exact appU_append fun m x hx => h m x (List.mem_cons_of_mem _ hx)
theorem callOk_viewN {P : Program} {cs : CS} (hcs : CSOk P cs) (hm : P.follows .mixedOrders = true) {nn F : Nat} {f : FuncId} {args cargs : List AVal} {ns : List Nat} (hcan : canL P.globals.size [] args = some (cargs, ns)) : CallOk P f args (viewN P cs nn F f ns cargs) := by
  intro σ args' H w base v0 H0 hl hg hH happ hfree
  simp only [viewN, EffA.app] at happ
  cases hobj : objsA (aget H) ns P.globals.size with
  | none => rw [hobj] at happ; cases happ
  | some Ho =>
  rw [hobj] at happ
  simp only at happ
  cases hrun : run1 P cs nn F f cargs (globA (aget H) P.globals.size 0 ++ Ho) (P.globals.size + ns.length) with
  | none => rw [hrun] at happ; cases happ
  | some r =>
  obtain ⟨v, H', fr'⟩ := r
  rw [hrun] at happ
  simp only at happ
  cases hback : backA (aget H) H' ns P.globals.size with
  | none => rw [hback] at happ; cases happ
  | some us =>
  rw [hback] at happ
  simp only at happ
  cases hnew : newN v with
  | none => rw [hnew] at happ; cases happ
  | some k =>
  rw [hnew] at happ
  simp only at happ
  cases hblk : aget H' k with
  | none => rw [hblk] at happ; cases happ
  | some obk =>
  obtain ⟨rok, ck⟩ := obk
  cases rok with
  | true => rw [hblk] at happ; cases happ
  | false =>
  rw [hblk] at happ
  simp only at happ
  cases hr0 : renV k 0 v with
  | none => rw [hr0] at happ; cases happ
  | some v1 =>
  rw [hr0] at happ
  simp only at happ
  cases hr1 : renV 0 base v1 with
  | none => rw [hr1] at happ; cases happ
  | some v2 =>
  rw [hr1] at happ
  simp only at happ
  cases hcond : (ltV 1 v1 && ltL 0 ck && nodupB ns && Nat.ble (P.globals.size + ns.length) k) with
  | false => rw [hcond] at happ; cases happ
  | true =>
  rw [hcond] at happ
  simp only [cond_true, Option.some.injEq, Prod.mk.injEq] at happ
  obtain ⟨rfl, rfl⟩ := happ
  simp only [Bool.and_eq_true] at hcond
  obtain ⟨⟨⟨hv1, hck⟩, hnd⟩, hkk⟩ := hcond
  have hkk := Nat.le_of_ble_eq_true hkk
  have hnd := nodupB_ok hnd
  obtain ⟨fn, body, hf, hb, hrunF⟩ := run1_some hrun
  obtain ⟨u1, u2⟩ := backA_mem hback
  have husome : ∀ m x, (m, x) ∈ us → x.isSome = true := fun m x hx => by
    obtain ⟨c, i, c0, e, _⟩ := u1 m x hx
    rw [e]; rfl
  -- what the callee sees
  have heap : ∀ m o, aget (globA (aget H) P.globals.size 0 ++ Ho) m = some o → ∃ n ro c, aget H n = some o ∧ o = .cells ro c ∧ ltL 0 c = true ∧ sigC P.globals.size ns σ m = σ n ∧ ((m < P.globals.size ∧ n = m ∧ ro = true) ∨ ∃ i, m = P.globals.size + i ∧ ns[i]? = some n) := fun m o hmo => by
    rcases aget_append hmo with h1 | h1
    · obtain ⟨_, a2, a3, c, a4, a5⟩ := globA_get m o h1
      refine ⟨m, true, c, a3, a4, a5, ?_, .inl ⟨by omega, rfl, rfl⟩⟩
      unfold sigC
      rw [if_pos (by omega)]
    · obtain ⟨a1, n, a2, a3, ro, c, a4, a5⟩ := objsA_get hobj m o h1
      have e : m = P.globals.size + (m - P.globals.size) := by omega
      refine ⟨n, ro, c, a3, a4, a5, ?_, .inr ⟨m - P.globals.size, e, a2⟩⟩
      rw [e]
      exact sigC_at a2
  have hgc : GRel P (sigC P.globals.size ns σ) := fun g hgl => by
    obtain ⟨sz, hs⟩ := hg g hgl
    exact ⟨sz, by unfold sigC; rw [if_pos hgl]; exact hs⟩
  have hfr : Fresh (sigC P.globals.size ns σ) (P.globals.size + ns.length) := fun m hm' => by
    unfold sigC
    rw [if_neg (by omega), List.getElem?_eq_none (by omega)]
  obtain ⟨_, hlen, hcv⟩ := canL_ok hcan
  have hlc : LR (sigC P.globals.size ns σ) cargs args' := by
    refine ⟨by rw [hlen]; exact hl.1, fun i u u' h1 h2 => ?_⟩
    have := hcv [] σ i u u' h1 fun x hx => hl.2 i x u' hx h2
    rwa [List.append_nil] at this
  have hHc : HRel (sigC P.globals.size ns σ) (aget (globA (aget H) P.globals.size 0 ++ Ho)) w := by
    refine ⟨fun m o hmo => ?_, fun m m' o o' q q' h1 h2 hq hq' he => ?_⟩
    · obtain ⟨n, ro, c, a1, rfl, a3, a4, _⟩ := heap m o hmo
      obtain ⟨p, hp, hor⟩ := hH.obj n _ a1
      exact ⟨p, by rw [a4]; exact hp, hor.plain a3⟩
    · obtain ⟨n, ro, c, a1, rfl, a3, a4, a5⟩ := heap m o h1
      obtain ⟨n', ro', c', b1, rfl, b3, b4, b5⟩ := heap m' o' h2
      rw [a4] at hq
      rw [b4] at hq'
      rcases hH.inj n n' _ _ q q' a1 b1 hq hq' he with e | e
      · subst e
        rw [a1] at b1
        cases b1
        rcases a5 with ⟨x1, x2, x3⟩ | ⟨i, x1, x2⟩ <;> rcases b5 with ⟨y1, y2, y3⟩ | ⟨j, y1, y2⟩
        · exact .inl (by omega)
        · subst x3; exact .inr ⟨rfl, rfl⟩
        · subst y3; exact .inr ⟨rfl, rfl⟩
        · left
          have h3 := (List.getElem?_eq_some_iff.1 x2)
          have h4 := (List.getElem?_eq_some_iff.1 y2)
          obtain ⟨hi, ei⟩ := h3
          obtain ⟨hj, ej⟩ := h4
          have : i = j := (List.getElem_inj hnd).1 (ei.trans ej.symm)
          omega
      · exact .inr e
  refine (runF_ok hcs hm hf hb hrunF hlc hHc hgc hfr).mono fun r w' hrw => ?_
  obtain ⟨σ', v', rfl, g1, g2, g3, g4⟩ := hrw
  -- what the callee may write, the caller may
  have hown : ∀ b, Own (sigC P.globals.size ns σ) (aget (globA (aget H) P.globals.size 0 ++ Ho)) b → ∃ n c p, n ∈ ns ∧ aget H n = some (.cells false c) ∧ σ n = some p ∧ p.blk = b := fun b ⟨m, o, p, a1, a2, a3, a4⟩ => by
    obtain ⟨n, ro, c, b1, rfl, b3, b4, b5⟩ := heap m o a1
    have hro : ro = false := a2
    subst hro
    rw [b4] at a3
    rcases b5 with ⟨_, _, x⟩ | ⟨i, _, x⟩
    · cases x
    · exact ⟨n, c, p, List.mem_of_getElem? x, b1, a3, a4⟩
  have hold : ∀ b, b < w.heap.size → (∀ n c p, n ∈ ns → aget H n = some (.cells false c) → σ n = some p → p.blk ≠ b) → w'.heap[b]? = w.heap[b]? := fun b hb hne =>
    (g3.old b hb fun ho => by
      obtain ⟨n, c, p, a1, a2, a3, a4⟩ := hown b ho
      exact hne n c p a1 a2 a3 a4).1
  have orig : ∀ m ob, aget (appU H us) m = some ob → ∃ ob0, aget H m = some ob0 ∧ ob0.ro = ob.ro := fun m ob hmo => by
    rcases appU_get husome (H := H) m with ⟨o, a1, a2⟩ | ⟨_, a2⟩
    · obtain ⟨c, i, c0, e1, _, _, _, e5⟩ := u1 m _ a1
      rw [hmo] at a2
      cases a2
      cases e1
      exact ⟨_, e5, rfl⟩
    · exact ⟨ob, by rw [← a2]; exact hmo, rfl⟩
  have hbn : σ base = none := hfree 0 (by omega)
  obtain ⟨pk, hpk, hork⟩ := g2.obj k _ hblk
  have ownk : Own σ' (aget H') pk.blk := ⟨k, _, pk, hblk, rfl, hpk, rfl⟩
  -- the new block is none of the caller's
  have fresh : ∀ m ob q, aget H m = some ob → σ m = some q → q.blk ≠ pk.blk := fun m ob q hmo hq he => by
    obtain ⟨q', hq', hor⟩ := hH.obj m ob hmo
    rw [hq] at hq'; cases hq'
    by_cases hin : ∃ c, m ∈ ns ∧ ob = .cells false c
    · obtain ⟨c, h1, rfl⟩ := hin
      obtain ⟨x, hx⟩ := u2 m c h1 hmo
      obtain ⟨c1, i, c0, e1, e2, e3, e4, e5⟩ := u1 m x hx
      have hq2 : σ' (P.globals.size + i) = some q := g3.ext _ _ (by rw [sigC_at e3]; exact hq)
      rcases g2.inj _ _ _ _ _ _ e4 hblk hq2 hpk he with e | ⟨e, _⟩
      · have := (List.getElem?_eq_some_iff.1 e3).1
        omega
      · cases e
    · refine (g3.old q.blk hor.lt fun ho => ?_).2 (he ▸ ownk)
      obtain ⟨n, c, p, a1, a2, a3, a4⟩ := hown _ ho
      rcases hH.inj n m _ ob p q a2 hmo a3 hq a4 with e | ⟨e, _⟩
      · subst e
        rw [a2] at hmo
        cases hmo
        exact hin ⟨c, a1, rfl⟩
      · cases e
  have hbase : aget (appU H us) base = none := by
    cases hb : aget (appU H us) base with
    | none => rfl
    | some ob =>
      obtain ⟨ob0, h1, _⟩ := orig base ob hb
      obtain ⟨p, hp, _⟩ := hH.obj base ob0 h1
      rw [hbn] at hp; cases hp
  have app : ∀ m, aget (appU H (us ++ [(base, some (.cells false ck))])) m = if base = m then some (.cells false ck) else aget (appU H us) m := fun m => by
    rw [appU_append husome]
    simp only [appU]
    rw [aget_aset]
  have vr : VR (σ.set base pk) v2 v' := by
    have h1 := ltV_ok hv1 (renV_ok hr0 g1)
    refine (renV_ok hr1 h1).mono fun n p hp => ?_
    unfold Sig.ren at hp
    split at hp
    · rename_i e
      subst e
      have hp1 := cut_le 1 (Sig.ren k 0 σ') 0 p hp
      have hp2 : σ' k = some p := by simpa [Sig.ren] using hp1
      rw [hpk] at hp2; cases hp2
      exact Sig.set_same σ n _
    · split at hp
      · cases hp
      · rename_i e1 e2
        simp only [Go.Eng.cut] at hp
        rw [if_neg (by omega)] at hp
        cases hp
  have base0 : HRel σ (aget (appU H us)) w' := by
    refine ⟨fun m ob hmo => ?_, fun m1 m2 o1 o2 q1 q2 h1 h2 hq1 hq2 he => ?_⟩
    · rcases appU_get husome (H := H) m with ⟨o, a1, a2⟩ | ⟨a1, a2⟩
      · obtain ⟨c, i, c0, e1, e2, e3, e4, e5⟩ := u1 m _ a1
        rw [hmo] at a2
        cases a2
        cases e1
        obtain ⟨p, hp, _⟩ := hH.obj m _ e5
        refine ⟨p, hp, ?_⟩
        obtain ⟨q, hq, hor⟩ := g2.obj _ _ e4
        have : q = p := Option.some.inj (hq.symm.trans (g3.ext _ _ (by rw [sigC_at e3]; exact hp)))
        subst this
        exact hor.plain e2
      · rw [a2] at hmo
        obtain ⟨p, hp, hor⟩ := hH.obj m ob hmo
        refine ⟨p, hp, hor.mono (Sig.le_refl σ) (hold _ hor.lt fun n c q k1 k2 k3 k4 => ?_)⟩
        rcases hH.inj n m _ ob q p k2 hmo k3 hp k4 with e | ⟨e, _⟩
        · subst e
          obtain ⟨x, hx⟩ := u2 n c k1 k2
          exact a1 x hx
        · cases e
    · obtain ⟨x1, y1, z1⟩ := orig m1 o1 h1
      obtain ⟨x2, y2, z2⟩ := orig m2 o2 h2
      rcases hH.inj m1 m2 x1 x2 q1 q2 y1 y2 hq1 hq2 he with e | ⟨e1, e2⟩
      · exact .inl e
      · exact .inr ⟨z1 ▸ e1, z2 ▸ e2⟩
  refine ⟨σ.set base pk, v', rfl, vr, ⟨fun m ob hmo => ?_, fun m1 m2 o1 o2 q1 q2 h1 h2 hq1 hq2 he => ?_⟩, ⟨Sig.le_set hbn pk, g3.size, g3.os, g3.output, g3.tape, fun b hb hno => ⟨hold b hb fun n c p k1 k2 k3 k4 => hno ⟨n, _, p, k2, rfl, k3, k4⟩, ?_⟩⟩, fun n hn => Sig.set_other σ _ (by omega)⟩
  · rw [app] at hmo
    split at hmo
    · rename_i e
      subst e
      cases hmo
      exact ⟨pk, Sig.set_same σ base pk, hork.plain hck⟩
    · rename_i e
      obtain ⟨p, hp, hor⟩ := base0.obj m ob hmo
      exact ⟨p, by rw [Sig.set_other σ _ (Ne.symm e)]; exact hp, hor.mono (Sig.le_set hbn pk) rfl⟩
  · rw [app] at h1 h2
    split at h1 <;> split at h2
    · rename_i e1 e2; exact .inl (e1.symm.trans e2)
    · rename_i e1 e2
      subst e1
      rw [Sig.set_same] at hq1; cases hq1
      rw [Sig.set_other σ _ (Ne.symm e2)] at hq2
      obtain ⟨x2, y2, _⟩ := orig m2 o2 h2
      exact absurd he.symm (fresh m2 x2 q2 y2 hq2)
    · rename_i e1 e2
      subst e2
      rw [Sig.set_same] at hq2; cases hq2
      rw [Sig.set_other σ _ (Ne.symm e1)] at hq1
      obtain ⟨x1, y1, _⟩ := orig m1 o1 h1
      exact absurd he (fresh m1 x1 q1 y1 hq1)
    · rename_i e1 e2
      rw [Sig.set_other σ _ (Ne.symm e1)] at hq1
      rw [Sig.set_other σ _ (Ne.symm e2)] at hq2
      exact base0.inj m1 m2 o1 o2 q1 q2 h1 h2 hq1 hq2 he
  · rintro ⟨m, o, q, k1, k2, k3, k4⟩
    rw [app] at k1
    split at k1
    · rename_i e
      subst e
      rw [Sig.set_same] at k3; cases k3
      refine (g3.old b hb fun ho => ?_).2 (k4 ▸ ownk)
      obtain ⟨n, c, p, a1, a2, a3, a4⟩ := hown b ho
      exact hno ⟨n, _, p, a2, rfl, a3, a4⟩
    · rename_i e
      rw [Sig.set_other σ _ (Ne.symm e)] at k3
      obtain ⟨x1, y1, z1⟩ := orig m o k1
      exact hno ⟨m, x1, q, y1, by rw [z1]; exact k2, k3, k4⟩
/-- The one effect, or where it does not serve the other one. -/
def orE (a b : EffA) : EffA :=
  match a, b with
  | .eff f, .eff g => .eff fun base η => match f base η with
    | some r => some r
    | none => g base η
  | a, _ => a
theorem orE_ok {P : Program} {f : FuncId} {args : List AVal} {a b : EffA} (ha : CallOk P f args a) (hb : CallOk P f args b) : CallOk P f args (orE a b) := by
  cases a with
  | eff fa => cases b with
    | eff fb =>
      intro σ args' H w base v H' hl hg hH happ hf
      simp only [orE, EffA.app] at happ
      cases h : fa base (aget H) with
      | some r =>
        rw [h] at happ
        exact ha σ args' H w base v H' hl hg hH (by simp only [EffA.app, h]; exact happ) hf
      | none =>
        rw [h] at happ
        exact hb σ args' H w base v H' hl hg hH (by simp only [EffA.app]; exact happ) hf
    | pure _ => exact ha
    | read _ _ => exact ha
    | alloc _ _ => exact ha
  | pure _ => exact ha
  | read _ _ => exact ha
  | alloc _ _ => exact ha
/-- Calls carried out in place: of plain data, on blocks, with a new block. -/
def inlW (P : Program) (nn : FuncId → Nat) (F : Nat) (cs : CS) : Nat → CS
  | 0 => cs
  | n + 1 => fun f args => match cs f args with
    | some e => some e
    | none => match canL P.globals.size [] args with
      | none => none
      | some (cargs, ns) => match ns with
        | [] => match run1 P (inlW P nn F cs n) (nn f) F f args [] P.globals.size with
          | some (v, _, _) => cond (allV args && ltV 0 v) (some (.pure v)) (some (orE (viewE P (inlW P nn F cs n) (nn f) F f [] cargs) (viewN P (inlW P nn F cs n) (nn f) F f [] cargs)))
          | none => some (orE (viewE P (inlW P nn F cs n) (nn f) F f [] cargs) (viewN P (inlW P nn F cs n) (nn f) F f [] cargs))
        | k :: ks => some (orE (viewE P (inlW P nn F cs n) (nn f) F f (k :: ks) cargs) (viewN P (inlW P nn F cs n) (nn f) F f (k :: ks) cargs))
theorem inlW_ok {P : Program} (hm : P.follows .mixedOrders = true) {nn : FuncId → Nat} {F : Nat} {cs : CS} (hcs : CSOk P cs) : ∀ n, CSOk P (inlW P nn F cs n)
  | 0 => hcs
  | n + 1 => fun f args e h => by
    have ih := inlW_ok hm (nn := nn) (F := F) hcs n
    simp only [inlW] at h
    split at h
    · rename_i e' he
      cases h
      exact hcs f args e he
    · split at h
      · cases h
      · rename_i cargs ns hcan
        split at h
        · split at h
          · rename_i v H' fr' hr
            cases hb : (allV args && ltV 0 v) <;> rw [hb] at h <;> simp only [cond_true, cond_false] at h
            · cases h
              exact orE_ok (callOk_view ih hm hcan) (callOk_viewN ih hm hcan)
            · cases h
              simp only [Bool.and_eq_true] at hb
              exact callOk_run ih hm hr hb.1 hb.2
          · cases h
            exact orE_ok (callOk_view ih hm hcan) (callOk_viewN ih hm hcan)
        · cases h
          exact orE_ok (callOk_view ih hm hcan) (callOk_viewN ih hm hcan)
end Go.Eng

/- Engine, part 39: calls on one block, whose form is looked at; words and bytes of a block. -/
namespace Go.Eng
set_option linter.unusedVariables false
set_option linter.unusedSimpArgs false
open Go
/-- What a call does with the one block that it is handed. -/
def oneE (n : Nat) (k : (Nat → Option AObj) → List AVal → Option (AVal × List AVal)) : EffA :=
  .eff fun _ η => match η n with
    | some (.cells false c) => match k η c with
      | some (v, c') => some (v, [(n, some (.cells false c'))])
      | none => none
    | _ => none
theorem callOk_one {P : Program} {cs : CS} (hcs : CSOk P cs) (hm : P.follows .mixedOrders = true) {f : FuncId} {args cargs : List AVal} {n : Nat} (hcan : canL P.globals.size [] args = some (cargs, [n])) {k : (Nat → Option AObj) → List AVal → Option (AVal × List AVal)}
    (h : ∀ η c v c', k η c = some (v, c') → ltL 0 c = true ∧ ltL 0 c' = true ∧ ltV 0 v = true ∧ ∃ F nn H' fr', run1 P cs nn F f cargs (globA η P.globals.size 0 ++ [(P.globals.size, .cells false c)]) (P.globals.size + 1) = some (v, H', fr') ∧ aget H' P.globals.size = some (.cells false c')) : CallOk P f args (oneE n k) := by
  intro σ args' H w base v0 H0 hl hg hH happ hfree
  unfold oneE EffA.app at happ
  simp only at happ
  cases hn : aget H n with
  | none => rw [hn] at happ; cases happ
  | some ob =>
    obtain ⟨ro, c⟩ := ob
    rw [hn] at happ
    cases ro with
    | true => cases happ
    | false =>
      simp only at happ
      cases hk : k (aget H) c with
      | none => rw [hk] at happ; cases happ
      | some r =>
        obtain ⟨v, c'⟩ := r
        rw [hk] at happ
        simp only [Option.some.injEq, Prod.mk.injEq] at happ
        obtain ⟨rfl, rfl⟩ := happ
        obtain ⟨h1, h2, h3, F, nn, H', fr', h4, h5⟩ := h (aget H) c v c' hk
        refine callOk_view hcs hm (nn := nn) (F := F) hcan σ args' H w base v _ hl hg hH ?_ hfree
        unfold viewE EffA.app
        simp only [objsA, hn, h1, cond_true]
        have h4' : run1 P cs nn F f cargs (globA (aget H) P.globals.size 0 ++ [(P.globals.size, .cells false c)]) (P.globals.size + [n].length) = some (v, H', fr') := h4
        rw [h4']
        simp only [backA, hn, h5, h2, cond_true, h3, nodupB, List.all_nil, Bool.and_self]
/-- What a function with one result hands back. -/
theorem run1_fin1 {P : Program} {cs : CS} {nn F : Nat} {f : FuncId} {fn : Func} {c : Code} {args : List AVal} {H : HL} {fr : Nat} (hf : P.funcs[f]? = some fn) (hb : fn.body = some c) (hn : Nat.ble args.length fn.ntmps = true)
    {x : XA} {s : SA} (he : evS P cs fn.ntmps nn F fr (pieces c) ⟨startT args 0, H, fr⟩ = some (x, s)) (hx : x = .normal ∨ x = .ret) {v : AVal} (hr : resA P s.T s.H fn.results.toList = some [v]) : run1 P cs nn F f args H fr = some (v, s.H, s.fr) := by
  unfold run1
  simp only [hf, hb]
  unfold runF
  rw [hn, evC_pieces, he]
  rcases hx with rfl | rfl
  all_goals simp only [cond_true, hr]
theorem psOne_ok {P : Program} {f : FuncId} {g : List AVal → Option (EffA × Bool)} (h : ∀ args e, g args = some (e, true) → CallOk P f args e) : CSOk P (csP (psOne f g)) := by
  intro f' args e he
  unfold csP psOne at he
  cases hf : Nat.beq f' f with
  | false => rw [hf] at he; cases he
  | true =>
    rw [hf] at he
    have hf := Nat.eq_of_beq_eq_true hf
    subst hf
    simp only at he
    cases hg : g args with
    | none => rw [hg] at he; cases he
    | some r =>
      obtain ⟨e', c⟩ := r
      rw [hg] at he
      cases c with
      | false => cases he
      | true => cases he; exact h args _ hg
/-! ### words and bytes of a block -/
def gU (c : List AVal) (j : Nat) : UInt64 := match c[j]? with
  | some (.u64 x) => x
  | _ => 0
def gB (c : List AVal) (j : Nat) : UInt8 := match c[j]? with
  | some (.u8 x) => x
  | _ => 0
def shU : Nat → List AVal → Option (List AVal)
  | 0, c => some c
  | n + 1, .u64 _ :: c => shU n c
  | _ + 1, _ => none
def shB : Nat → List AVal → Option (List AVal)
  | 0, c => some c
  | n + 1, .u8 _ :: c => shB n c
  | _ + 1, _ => none
theorem cellsU_succ (n : Nat) (f : Nat → UInt64) : cellsU (n + 1) f = .u64 (f 0) :: cellsU n fun j => f (j + 1) := by
  unfold cellsU
  rw [List.range_succ_eq_map, List.map_cons, List.map_map]; rfl
theorem cellsB_succ (n : Nat) (f : Nat → UInt8) : cellsB (n + 1) f = .u8 (f 0) :: cellsB n fun j => f (j + 1) := by
  unfold cellsB
  rw [List.range_succ_eq_map, List.map_cons, List.map_map]; rfl
theorem shU_ok : ∀ {n : Nat} {c r : List AVal}, shU n c = some r → c = cellsU n (gU c) ++ r
  | 0, c, r, h => by cases h; rfl
  | n + 1, [], r, h => by cases h
  | n + 1, .u64 x :: c, r, h => by
    have := shU_ok (n := n) (c := c) h
    rw [cellsU_succ]
    have e : cellsU n (fun j => gU (.u64 x :: c) (j + 1)) = cellsU n (gU c) := cellsU_congr fun i _ => by unfold gU; simp
    rw [e]
    show AVal.u64 x :: c = AVal.u64 x :: (cellsU n (gU c) ++ r)
    rw [← this]
  | n + 1, .bool _ :: c, r, h | n + 1, .u8 _ :: c, r, h | n + 1, .u32 _ :: c, r, h | n + 1, .b64 _ :: c, r, h | n + 1, .int _ _ :: c, r, h | n + 1, .str _ :: c, r, h | n + 1, .nilPtr :: c, r, h | n + 1, .ptr _ _ :: c, r, h | n + 1, .nilSlice :: c, r, h
  | n + 1, .slice _ _ _ _ :: c, r, h | n + 1, .nilMap :: c, r, h | n + 1, .map _ :: c, r, h | n + 1, .nilFunc :: c, r, h | n + 1, .fn _ _ :: c, r, h | n + 1, .nilIface :: c, r, h | n + 1, .iface _ _ :: c, r, h | n + 1, .agg _ :: c, r, h | n + 1, .tup _ :: c, r, h | n + 1, .tp _ _ _ :: c, r, h => by cases h
theorem shB_ok : ∀ {n : Nat} {c r : List AVal}, shB n c = some r → c = cellsB n (gB c) ++ r
  | 0, c, r, h => by cases h; rfl
  | n + 1, [], r, h => by cases h
  | n + 1, .u8 x :: c, r, h => by
    have := shB_ok (n := n) (c := c) h
    rw [cellsB_succ]
    have e : cellsB n (fun j => gB (.u8 x :: c) (j + 1)) = cellsB n (gB c) := cellsB_congr fun i _ => by unfold gB; simp
    rw [e]
    show AVal.u8 x :: c = AVal.u8 x :: (cellsB n (gB c) ++ r)
    rw [← this]
  | n + 1, .bool _ :: c, r, h | n + 1, .u64 _ :: c, r, h | n + 1, .u32 _ :: c, r, h | n + 1, .b64 _ :: c, r, h | n + 1, .int _ _ :: c, r, h | n + 1, .str _ :: c, r, h | n + 1, .nilPtr :: c, r, h | n + 1, .ptr _ _ :: c, r, h | n + 1, .nilSlice :: c, r, h
  | n + 1, .slice _ _ _ _ :: c, r, h | n + 1, .nilMap :: c, r, h | n + 1, .map _ :: c, r, h | n + 1, .nilFunc :: c, r, h | n + 1, .fn _ _ :: c, r, h | n + 1, .nilIface :: c, r, h | n + 1, .iface _ _ :: c, r, h | n + 1, .agg _ :: c, r, h | n + 1, .tup _ :: c, r, h | n + 1, .tp _ _ _ :: c, r, h => by cases h
/-- A function, of the first places alone. -/
def nU (k : Nat) (f : Nat → UInt64) : Nat → UInt64 := fun j => if j < k then f j else 0
def nB (k : Nat) (f : Nat → UInt8) : Nat → UInt8 := fun j => if j < k then f j else 0
theorem gU_cellsU (k : Nat) (f : Nat → UInt64) : gU (cellsU k f) = nU k f := by
  funext j
  unfold gU nU
  by_cases h : j < k
  · rw [cellsU_at f h, if_pos h]
  · rw [List.getElem?_eq_none (by rw [cellsU_len]; omega), if_neg h]
theorem gB_cellsB (k : Nat) (f : Nat → UInt8) : gB (cellsB k f) = nB k f := by
  funext j
  unfold gB nB
  by_cases h : j < k
  · rw [cellsB_at f h, if_pos h]
  · rw [List.getElem?_eq_none (by rw [cellsB_len]; omega), if_neg h]
theorem nU_nU (k : Nat) (f : Nat → UInt64) : nU k (nU k f) = nU k f := by
  funext j
  unfold nU
  by_cases h : j < k <;> simp [h]
theorem nB_nB (k : Nat) (f : Nat → UInt8) : nB k (nB k f) = nB k f := by
  funext j
  unfold nB
  by_cases h : j < k <;> simp [h]
theorem cellsU_nU (k : Nat) (f : Nat → UInt64) : cellsU k (nU k f) = cellsU k f := cellsU_congr fun i h => by unfold nU; rw [if_pos h]
theorem cellsB_nB (k : Nat) (f : Nat → UInt8) : cellsB k (nB k f) = cellsB k f := cellsB_congr fun i h => by unfold nB; rw [if_pos h]
end Go.Eng

/- Engine, part 27: calls on blocks of plain data that look at no globals. -/
namespace Go.Eng
set_option linter.unusedVariables false
set_option linter.unusedSimpArgs false
open Go
/-- A call on blocks of plain data that the arguments point to. -/
def viewE0 (P : Program) (cs : CS) (nn F : Nat) (f : FuncId) (ns : List Nat) (cargs : List AVal) : EffA :=
  .eff fun _ η => match objsA η ns P.globals.size with
    | none => none
    | some Ho => match run1 P cs nn F f cargs Ho (P.globals.size + ns.length) with
      | none => none
      | some (v, H', _) => match backA η H' ns P.globals.size with
        | none => none
        | some us => cond (ltV 0 v && nodupB ns) (some (v, us)) none
theorem callOk_view0 {P : Program} {cs : CS} (hcs : CSOk P cs) (hm : P.follows .mixedOrders = true) {nn F : Nat} {f : FuncId} {args cargs : List AVal} {ns : List Nat} (hcan : canL P.globals.size [] args = some (cargs, ns)) : CallOk P f args (viewE0 P cs nn F f ns cargs) := by
  intro σ args' H w base v0 H0 hl hg hH happ hfree
  simp only [viewE0, EffA.app] at happ
  cases hobj : objsA (aget H) ns P.globals.size with
  | none => rw [hobj] at happ; cases happ
  | some Ho =>
  rw [hobj] at happ
  simp only at happ
  cases hrun : run1 P cs nn F f cargs (Ho) (P.globals.size + ns.length) with
  | none => rw [hrun] at happ; cases happ
  | some r =>
  obtain ⟨v, H', fr'⟩ := r
  rw [hrun] at happ
  simp only at happ
  cases hback : backA (aget H) H' ns P.globals.size with
  | none => rw [hback] at happ; cases happ
  | some us =>
  rw [hback] at happ
  simp only at happ
  cases hcond : (ltV 0 v && nodupB ns) with
  | false => rw [hcond] at happ; cases happ
  | true =>
  rw [hcond] at happ
  simp only [cond_true, Option.some.injEq, Prod.mk.injEq] at happ
  obtain ⟨rfl, rfl⟩ := happ
  simp only [Bool.and_eq_true] at hcond
  obtain ⟨hv, hnd⟩ := hcond
  have hnd := nodupB_ok hnd
  obtain ⟨fn, body, hf, hb, hrunF⟩ := run1_some hrun
  obtain ⟨u1, u2⟩ := backA_mem hback
  have husome : ∀ m x, (m, x) ∈ us → x.isSome = true := fun m x hx => by
    obtain ⟨c, i, c0, e, _⟩ := u1 m x hx
    rw [e]; rfl
  -- what the callee sees
  have heap : ∀ m o, aget (Ho) m = some o → ∃ n ro c, aget H n = some o ∧ o = .cells ro c ∧ ltL 0 c = true ∧ sigC P.globals.size ns σ m = σ n ∧ ((m < P.globals.size ∧ n = m ∧ ro = true) ∨ ∃ i, m = P.globals.size + i ∧ ns[i]? = some n) := fun m o hmo => by
    obtain ⟨a1, n, a2, a3, ro, c, a4, a5⟩ := objsA_get hobj m o hmo
    have e : m = P.globals.size + (m - P.globals.size) := by omega
    refine ⟨n, ro, c, a3, a4, a5, ?_, .inr ⟨m - P.globals.size, e, a2⟩⟩
    rw [e]
    exact sigC_at a2
  have hgc : GRel P (sigC P.globals.size ns σ) := fun g hgl => by
    obtain ⟨sz, hs⟩ := hg g hgl
    exact ⟨sz, by unfold sigC; rw [if_pos hgl]; exact hs⟩
  have hfr : Fresh (sigC P.globals.size ns σ) (P.globals.size + ns.length) := fun m hm' => by
    unfold sigC
    rw [if_neg (by omega), List.getElem?_eq_none (by omega)]
  obtain ⟨_, hlen, hcv⟩ := canL_ok hcan
  have hlc : LR (sigC P.globals.size ns σ) cargs args' := by
    refine ⟨by rw [hlen]; exact hl.1, fun i u u' h1 h2 => ?_⟩
    have := hcv [] σ i u u' h1 fun x hx => hl.2 i x u' hx h2
    rwa [List.append_nil] at this
  have hHc : HRel (sigC P.globals.size ns σ) (aget (Ho)) w := by
    refine ⟨fun m o hmo => ?_, fun m m' o o' q q' h1 h2 hq hq' he => ?_⟩
    · obtain ⟨n, ro, c, a1, rfl, a3, a4, _⟩ := heap m o hmo
      obtain ⟨p, hp, hor⟩ := hH.obj n _ a1
      exact ⟨p, by rw [a4]; exact hp, hor.plain a3⟩
    · obtain ⟨n, ro, c, a1, rfl, a3, a4, a5⟩ := heap m o h1
      obtain ⟨n', ro', c', b1, rfl, b3, b4, b5⟩ := heap m' o' h2
      rw [a4] at hq
      rw [b4] at hq'
      rcases hH.inj n n' _ _ q q' a1 b1 hq hq' he with e | e
      · subst e
        rw [a1] at b1
        cases b1
        rcases a5 with ⟨x1, x2, x3⟩ | ⟨i, x1, x2⟩ <;> rcases b5 with ⟨y1, y2, y3⟩ | ⟨j, y1, y2⟩
        · exact .inl (by omega)
        · subst x3; exact .inr ⟨rfl, rfl⟩
        · subst y3; exact .inr ⟨rfl, rfl⟩
        · left
          have h3 := (List.getElem?_eq_some_iff.1 x2)
          have h4 := (List.getElem?_eq_some_iff.1 y2)
          obtain ⟨hi, ei⟩ := h3
          obtain ⟨hj, ej⟩ := h4
          have : i = j := (List.getElem_inj hnd).1 (ei.trans ej.symm)
          omega
      · exact .inr e
  refine (runF_ok hcs hm hf hb hrunF hlc hHc hgc hfr).mono fun r w' hrw => ?_
  obtain ⟨σ', v', rfl, g1, g2, g3, g4⟩ := hrw
  -- what the callee may write, the caller may
  have hown : ∀ b, Own (sigC P.globals.size ns σ) (aget (Ho)) b → ∃ n c p, n ∈ ns ∧ aget H n = some (.cells false c) ∧ σ n = some p ∧ p.blk = b := fun b ⟨m, o, p, a1, a2, a3, a4⟩ => by
    obtain ⟨n, ro, c, b1, rfl, b3, b4, b5⟩ := heap m o a1
    have hro : ro = false := a2
    subst hro
    rw [b4] at a3
    rcases b5 with ⟨_, _, x⟩ | ⟨i, _, x⟩
    · cases x
    · exact ⟨n, c, p, List.mem_of_getElem? x, b1, a3, a4⟩
  have hold : ∀ b, b < w.heap.size → (∀ n c p, n ∈ ns → aget H n = some (.cells false c) → σ n = some p → p.blk ≠ b) → w'.heap[b]? = w.heap[b]? := fun b hb hne =>
    (g3.old b hb fun ho => by
      obtain ⟨n, c, p, a1, a2, a3, a4⟩ := hown b ho
      exact hne n c p a1 a2 a3 a4).1
  have orig : ∀ m ob, aget (appU H us) m = some ob → ∃ ob0, aget H m = some ob0 ∧ ob0.ro = ob.ro := fun m ob hmo => by
    rcases appU_get husome (H := H) m with ⟨o, a1, a2⟩ | ⟨_, a2⟩
    · obtain ⟨c, i, c0, e1, _, _, _, e5⟩ := u1 m _ a1
      rw [hmo] at a2
      cases a2
      cases e1
      exact ⟨_, e5, rfl⟩
    · exact ⟨ob, by rw [← a2]; exact hmo, rfl⟩
  refine ⟨σ, v', rfl, g1.cut0 hv σ, ⟨fun m ob hmo => ?_, fun m1 m2 o1 o2 q1 q2 h1 h2 hq1 hq2 he => ?_⟩, ⟨Sig.le_refl σ, g3.size, g3.os, g3.output, g3.tape, fun b hb hno => ⟨hold b hb fun n c p k1 k2 k3 k4 => hno ⟨n, _, p, k2, rfl, k3, k4⟩, ?_⟩⟩, Only.refl σ base⟩
  · rcases appU_get husome (H := H) m with ⟨o, a1, a2⟩ | ⟨a1, a2⟩
    · obtain ⟨c, i, c0, e1, e2, e3, e4, e5⟩ := u1 m _ a1
      rw [hmo] at a2
      cases a2
      cases e1
      obtain ⟨p, hp, _⟩ := hH.obj m _ e5
      refine ⟨p, hp, ?_⟩
      obtain ⟨q, hq, hor⟩ := g2.obj _ _ e4
      have : q = p := Option.some.inj (hq.symm.trans (g3.ext _ _ (by rw [sigC_at e3]; exact hp)))
      subst this
      exact hor.plain e2
    · rw [a2] at hmo
      obtain ⟨p, hp, hor⟩ := hH.obj m ob hmo
      refine ⟨p, hp, hor.mono (Sig.le_refl σ) (hold _ hor.lt fun n c q k1 k2 k3 k4 => ?_)⟩
      rcases hH.inj n m _ ob q p k2 hmo k3 hp k4 with e | ⟨e, _⟩
      · subst e
        obtain ⟨x, hx⟩ := u2 n c k1 k2
        exact a1 x hx
      · cases e
  · obtain ⟨x1, y1, z1⟩ := orig m1 o1 h1
    obtain ⟨x2, y2, z2⟩ := orig m2 o2 h2
    rcases hH.inj m1 m2 x1 x2 q1 q2 y1 y2 hq1 hq2 he with e | ⟨e1, e2⟩
    · exact .inl e
    · exact .inr ⟨z1 ▸ e1, z2 ▸ e2⟩
  · rintro ⟨m, o, q, k1, k2, k3, k4⟩
    obtain ⟨x1, y1, z1⟩ := orig m o k1
    exact hno ⟨m, x1, q, y1, by rw [z1]; exact k2, k3, k4⟩
/-- Calls carried out in place, of plain data, or on blocks. -/
theorem asetH_same {α : Type} : ∀ {T : List (Nat × α)} {d : Nat} {v : α}, aget T d = some v → aset T d v = T
  | [], d, v, h => by simp [aget] at h
  | (k, u) :: l, d, v, h => by
    simp only [aget] at h
    rcases beq_cases k d with ⟨he, hb⟩ | ⟨he, hb⟩ <;> rw [hb] at h <;> simp only [cond_true, cond_false] at h
    · subst he; cases h
      simp [aset, hb]
    · simp only [aset, hb, cond_false, asetH_same h]
/-- A call on one slice, from its block's first cell on, that only reads it. -/
theorem callOk_slice {P : Program} {cs : CS} (hcs : CSOk P cs) (hm : P.follows .mixedOrders = true) {nn F : Nat} {f : FuncId} {a : AVal} {n off len esz : Nat} {g : List AVal → Option AVal}
    (ha : ltV 0 a = true) (hc : ∀ s, canV P.globals.size s a = some (a, s))
    (hrun : ∀ ro c v, g c = some v → ltV 0 v = true → ltL 0 c = true → ∃ r, run1 P cs nn F f [a, .slice P.globals.size off len esz] [(P.globals.size, .cells ro c)] (P.globals.size + 1) = some r ∧ r.1 = v ∧ aget r.2.1 P.globals.size = some (.cells ro c)) :
    CallOk P f [a, .slice n off len esz] (.read n fun ob => match ob with | .cells _ c => cond (ltL 0 c) (match g c with | some v => cond (ltV 0 v) (some v) none | none => none) none) := by
  have hcan : canL P.globals.size [] [a, .slice n off len esz] = some ([a, .slice P.globals.size off len esz], [n]) := by
    simp only [canL, hc]
    simp only [canV, canN, posN, List.length_nil, Nat.add_zero, List.nil_append]
  refine (callOk_view0 hcs hm (nn := nn) (F := F) (f := f) hcan).less fun base H r hr => ?_
  simp only [EffA.app] at hr
  cases hn : aget H n with
  | none => rw [hn] at hr; cases hr
  | some ob =>
    rw [hn] at hr
    cases ob with
    | cells ro c =>
      simp only at hr
      cases hl : ltL 0 c with
      | false => rw [hl] at hr; cases hr
      | true =>
        rw [hl] at hr
        simp only [cond_true] at hr
        cases hg : g c with
        | none => rw [hg] at hr; cases hr
        | some v =>
          rw [hg] at hr
          simp only at hr
          cases hv : ltV 0 v with
          | false => rw [hv] at hr; cases hr
          | true =>
            rw [hv] at hr
            simp only [cond_true, Option.some.injEq] at hr
            subst hr
            obtain ⟨⟨v', H', fr'⟩, h1, h2, h3⟩ := hrun ro c v hg hv hl
            simp only at h2 h3
            subst h2
            cases ro with
            | true =>
              simp only [viewE0, EffA.app, objsA, hn, hl, cond_true, List.length_cons, List.length_nil, Nat.zero_add, h1, backA, hv, nodupB, List.all_nil, Bool.and_self, appU]
            | false =>
              have e : aset H n (.cells false c) = H := asetH_same hn
              simp only [viewE0, EffA.app, objsA, hn, hl, cond_true, List.length_cons, List.length_nil, Nat.zero_add, h1, backA, h3, hv, nodupB, List.all_nil, Bool.and_self, appU, e]
end Go.Eng

/- Engine, part 28: calls that hand back a new block and look at no globals. -/
namespace Go.Eng
set_option linter.unusedVariables false
set_option linter.unusedSimpArgs false
open Go
def viewN0 (P : Program) (cs : CS) (nn F : Nat) (f : FuncId) (ns : List Nat) (cargs : List AVal) : EffA :=
  .eff fun base η => match objsA η ns P.globals.size with
    | none => none
    | some Ho => match run1 P cs nn F f cargs (Ho) (P.globals.size + ns.length) with
      | none => none
      | some (v, H', _) => match backA η H' ns P.globals.size with
        | none => none
        | some us => match newN v with
          | none => none
          | some k => match aget H' k with
            | some (.cells false c) => match renV k 0 v with
              | none => none
              | some v1 => match renV 0 base v1 with
                | none => none
                | some v2 => cond (ltV 1 v1 && ltL 0 c && nodupB ns && Nat.ble (P.globals.size + ns.length) k) (some (v2, us ++ [(base, some (.cells false c))])) none
            | _ => none
theorem callOk_viewN0 {P : Program} {cs : CS} (hcs : CSOk P cs) (hm : P.follows .mixedOrders = true) {nn F : Nat} {f : FuncId} {args cargs : List AVal} {ns : List Nat} (hcan : canL P.globals.size [] args = some (cargs, ns)) : CallOk P f args (viewN0 P cs nn F f ns cargs) := by
  intro σ args' H w base v0 H0 hl hg hH happ hfree
  simp only [viewN0, EffA.app] at happ
  cases hobj : objsA (aget H) ns P.globals.size with
  | none => rw [hobj] at happ; cases happ
  | some Ho =>
  rw [hobj] at happ
  simp only at happ
  cases hrun : run1 P cs nn F f cargs (Ho) (P.globals.size + ns.length) with
  | none => rw [hrun] at happ; cases happ
  | some r =>
  obtain ⟨v, H', fr'⟩ := r
  rw [hrun] at happ
  simp only at happ
  cases hback : backA (aget H) H' ns P.globals.size with
  | none => rw [hback] at happ; cases happ
  | some us =>
  rw [hback] at happ
  simp only at happ
  cases hnew : newN v with
  | none => rw [hnew] at happ; cases happ
  | some k =>
  rw [hnew] at happ
  simp only at happ
  cases hblk : aget H' k with
  | none => rw [hblk] at happ; cases happ
  | some obk =>
  obtain ⟨rok, ck⟩ := obk
  cases rok with
  | true => rw [hblk] at happ; cases happ
  | false =>
  rw [hblk] at happ
  simp only at happ
  cases hr0 : renV k 0 v with
  | none => rw [hr0] at happ; cases happ
  | some v1 =>
  rw [hr0] at happ
  simp only at happ
  cases hr1 : renV 0 base v1 with
  | none => rw [hr1] at happ; cases happ
  | some v2 =>
  rw [hr1] at happ
  simp only at happ
  cases hcond : (ltV 1 v1 && ltL 0 ck && nodupB ns && Nat.ble (P.globals.size + ns.length) k) with
  | false => rw [hcond] at happ; cases happ
  | true =>
  rw [hcond] at happ
  simp only [cond_true, Option.some.injEq, Prod.mk.injEq] at happ
  obtain ⟨rfl, rfl⟩ := happ
  simp only [Bool.and_eq_true] at hcond
  obtain ⟨⟨⟨hv1, hck⟩, hnd⟩, hkk⟩ := hcond
  have hkk := Nat.le_of_ble_eq_true hkk
  have hnd := nodupB_ok hnd
  obtain ⟨fn, body, hf, hb, hrunF⟩ := run1_some hrun
  obtain ⟨u1, u2⟩ := backA_mem hback
  have husome : ∀ m x, (m, x) ∈ us → x.isSome = true := fun m x hx => by
    obtain ⟨c, i, c0, e, _⟩ := u1 m x hx
    rw [e]; rfl
  -- what the callee sees
  have heap : ∀ m o, aget (Ho) m = some o → ∃ n ro c, aget H n = some o ∧ o = .cells ro c ∧ ltL 0 c = true ∧ sigC P.globals.size ns σ m = σ n ∧ ((m < P.globals.size ∧ n = m ∧ ro = true) ∨ ∃ i, m = P.globals.size + i ∧ ns[i]? = some n) := fun m o hmo => by
    obtain ⟨a1, n, a2, a3, ro, c, a4, a5⟩ := objsA_get hobj m o hmo
    have e : m = P.globals.size + (m - P.globals.size) := by omega
    refine ⟨n, ro, c, a3, a4, a5, ?_, .inr ⟨m - P.globals.size, e, a2⟩⟩
    rw [e]
    exact sigC_at a2
  have hgc : GRel P (sigC P.globals.size ns σ) := fun g hgl => by
    obtain ⟨sz, hs⟩ := hg g hgl
    exact ⟨sz, by unfold sigC; rw [if_pos hgl]; exact hs⟩
  have hfr : Fresh (sigC P.globals.size ns σ) (P.globals.size + ns.length) := fun m hm' => by
    unfold sigC
    rw [if_neg (by omega), List.getElem?_eq_none (by omega)]
  obtain ⟨_, hlen, hcv⟩ := canL_ok hcan
  have hlc : LR (sigC P.globals.size ns σ) cargs args' := by
    refine ⟨by rw [hlen]; exact hl.1, fun i u u' h1 h2 => ?_⟩
    have := hcv [] σ i u u' h1 fun x hx => hl.2 i x u' hx h2
    rwa [List.append_nil] at this
  have hHc : HRel (sigC P.globals.size ns σ) (aget (Ho)) w := by
    refine ⟨fun m o hmo => ?_, fun m m' o o' q q' h1 h2 hq hq' he => ?_⟩
    · obtain ⟨n, ro, c, a1, rfl, a3, a4, _⟩ := heap m o hmo
      obtain ⟨p, hp, hor⟩ := hH.obj n _ a1
      exact ⟨p, by rw [a4]; exact hp, hor.plain a3⟩
    · obtain ⟨n, ro, c, a1, rfl, a3, a4, a5⟩ := heap m o h1
      obtain ⟨n', ro', c', b1, rfl, b3, b4, b5⟩ := heap m' o' h2
      rw [a4] at hq
      rw [b4] at hq'
      rcases hH.inj n n' _ _ q q' a1 b1 hq hq' he with e | e
      · subst e
        rw [a1] at b1
        cases b1
        rcases a5 with ⟨x1, x2, x3⟩ | ⟨i, x1, x2⟩ <;> rcases b5 with ⟨y1, y2, y3⟩ | ⟨j, y1, y2⟩
        · exact .inl (by omega)
        · subst x3; exact .inr ⟨rfl, rfl⟩
        · subst y3; exact .inr ⟨rfl, rfl⟩
        · left
          have h3 := (List.getElem?_eq_some_iff.1 x2)
          have h4 := (List.getElem?_eq_some_iff.1 y2)
          obtain ⟨hi, ei⟩ := h3
          obtain ⟨hj, ej⟩ := h4
          have : i = j := (List.getElem_inj hnd).1 (ei.trans ej.symm)
          omega
      · exact .inr e
  refine (runF_ok hcs hm hf hb hrunF hlc hHc hgc hfr).mono fun r w' hrw => ?_
  obtain ⟨σ', v', rfl, g1, g2, g3, g4⟩ := hrw
  -- what the callee may write, the caller may
  have hown : ∀ b, Own (sigC P.globals.size ns σ) (aget (Ho)) b → ∃ n c p, n ∈ ns ∧ aget H n = some (.cells false c) ∧ σ n = some p ∧ p.blk = b := fun b ⟨m, o, p, a1, a2, a3, a4⟩ => by
    obtain ⟨n, ro, c, b1, rfl, b3, b4, b5⟩ := heap m o a1
    have hro : ro = false := a2
    subst hro
    rw [b4] at a3
    rcases b5 with ⟨_, _, x⟩ | ⟨i, _, x⟩
    · cases x
    · exact ⟨n, c, p, List.mem_of_getElem? x, b1, a3, a4⟩
  have hold : ∀ b, b < w.heap.size → (∀ n c p, n ∈ ns → aget H n = some (.cells false c) → σ n = some p → p.blk ≠ b) → w'.heap[b]? = w.heap[b]? := fun b hb hne =>
    (g3.old b hb fun ho => by
      obtain ⟨n, c, p, a1, a2, a3, a4⟩ := hown b ho
      exact hne n c p a1 a2 a3 a4).1
  have orig : ∀ m ob, aget (appU H us) m = some ob → ∃ ob0, aget H m = some ob0 ∧ ob0.ro = ob.ro := fun m ob hmo => by
    rcases appU_get husome (H := H) m with ⟨o, a1, a2⟩ | ⟨_, a2⟩
    · obtain ⟨c, i, c0, e1, _, _, _, e5⟩ := u1 m _ a1
      rw [hmo] at a2
      cases a2
      cases e1
      exact ⟨_, e5, rfl⟩
    · exact ⟨ob, by rw [← a2]; exact hmo, rfl⟩
  have hbn : σ base = none := hfree 0 (by omega)
  obtain ⟨pk, hpk, hork⟩ := g2.obj k _ hblk
  have ownk : Own σ' (aget H') pk.blk := ⟨k, _, pk, hblk, rfl, hpk, rfl⟩
  -- the new block is none of the caller's
  have fresh : ∀ m ob q, aget H m = some ob → σ m = some q → q.blk ≠ pk.blk := fun m ob q hmo hq he => by
    obtain ⟨q', hq', hor⟩ := hH.obj m ob hmo
    rw [hq] at hq'; cases hq'
    by_cases hin : ∃ c, m ∈ ns ∧ ob = .cells false c
    · obtain ⟨c, h1, rfl⟩ := hin
      obtain ⟨x, hx⟩ := u2 m c h1 hmo
      obtain ⟨c1, i, c0, e1, e2, e3, e4, e5⟩ := u1 m x hx
      have hq2 : σ' (P.globals.size + i) = some q := g3.ext _ _ (by rw [sigC_at e3]; exact hq)
      rcases g2.inj _ _ _ _ _ _ e4 hblk hq2 hpk he with e | ⟨e, _⟩
      · have := (List.getElem?_eq_some_iff.1 e3).1
        omega
      · cases e
    · refine (g3.old q.blk hor.lt fun ho => ?_).2 (he ▸ ownk)
      obtain ⟨n, c, p, a1, a2, a3, a4⟩ := hown _ ho
      rcases hH.inj n m _ ob p q a2 hmo a3 hq a4 with e | ⟨e, _⟩
      · subst e
        rw [a2] at hmo
        cases hmo
        exact hin ⟨c, a1, rfl⟩
      · cases e
  have hbase : aget (appU H us) base = none := by
    cases hb : aget (appU H us) base with
    | none => rfl
    | some ob =>
      obtain ⟨ob0, h1, _⟩ := orig base ob hb
      obtain ⟨p, hp, _⟩ := hH.obj base ob0 h1
      rw [hbn] at hp; cases hp
  have app : ∀ m, aget (appU H (us ++ [(base, some (.cells false ck))])) m = if base = m then some (.cells false ck) else aget (appU H us) m := fun m => by
    rw [appU_append husome]
    simp only [appU]
    rw [aget_aset]
  have vr : VR (σ.set base pk) v2 v' := by
    have h1 := ltV_ok hv1 (renV_ok hr0 g1)
    refine (renV_ok hr1 h1).mono fun n p hp => ?_
    unfold Sig.ren at hp
    split at hp
    · rename_i e
      subst e
      have hp1 := cut_le 1 (Sig.ren k 0 σ') 0 p hp
      have hp2 : σ' k = some p := by simpa [Sig.ren] using hp1
      rw [hpk] at hp2; cases hp2
      exact Sig.set_same σ n _
    · split at hp
      · cases hp
      · rename_i e1 e2
        simp only [Go.Eng.cut] at hp
        rw [if_neg (by omega)] at hp
        cases hp
  have base0 : HRel σ (aget (appU H us)) w' := by
    refine ⟨fun m ob hmo => ?_, fun m1 m2 o1 o2 q1 q2 h1 h2 hq1 hq2 he => ?_⟩
    · rcases appU_get husome (H := H) m with ⟨o, a1, a2⟩ | ⟨a1, a2⟩
      · obtain ⟨c, i, c0, e1, e2, e3, e4, e5⟩ := u1 m _ a1
        rw [hmo] at a2
        cases a2
        cases e1
        obtain ⟨p, hp, _⟩ := hH.obj m _ e5
        refine ⟨p, hp, ?_⟩
        obtain ⟨q, hq, hor⟩ := g2.obj _ _ e4
        have : q = p := Option.some.inj (hq.symm.trans (g3.ext _ _ (by rw [sigC_at e3]; exact hp)))
        subst this
        exact hor.plain e2
      · rw [a2] at hmo
        obtain ⟨p, hp, hor⟩ := hH.obj m ob hmo
        refine ⟨p, hp, hor.mono (Sig.le_refl σ) (hold _ hor.lt fun n c q k1 k2 k3 k4 => ?_)⟩
        rcases hH.inj n m _ ob q p k2 hmo k3 hp k4 with e | ⟨e, _⟩
        · subst e
          obtain ⟨x, hx⟩ := u2 n c k1 k2
          exact a1 x hx
        · cases e
    · obtain ⟨x1, y1, z1⟩ := orig m1 o1 h1
      obtain ⟨x2, y2, z2⟩ := orig m2 o2 h2
      rcases hH.inj m1 m2 x1 x2 q1 q2 y1 y2 hq1 hq2 he with e | ⟨e1, e2⟩
      · exact .inl e
      · exact .inr ⟨z1 ▸ e1, z2 ▸ e2⟩
  refine ⟨σ.set base pk, v', rfl, vr, ⟨fun m ob hmo => ?_, fun m1 m2 o1 o2 q1 q2 h1 h2 hq1 hq2 he => ?_⟩, ⟨Sig.le_set hbn pk, g3.size, g3.os, g3.output, g3.tape, fun b hb hno => ⟨hold b hb fun n c p k1 k2 k3 k4 => hno ⟨n, _, p, k2, rfl, k3, k4⟩, ?_⟩⟩, fun n hn => Sig.set_other σ _ (by omega)⟩
  · rw [app] at hmo
    split at hmo
    · rename_i e
      subst e
      cases hmo
      exact ⟨pk, Sig.set_same σ base pk, hork.plain hck⟩
    · rename_i e
      obtain ⟨p, hp, hor⟩ := base0.obj m ob hmo
      exact ⟨p, by rw [Sig.set_other σ _ (Ne.symm e)]; exact hp, hor.mono (Sig.le_set hbn pk) rfl⟩
  · rw [app] at h1 h2
    split at h1 <;> split at h2
    · rename_i e1 e2; exact .inl (e1.symm.trans e2)
    · rename_i e1 e2
      subst e1
      rw [Sig.set_same] at hq1; cases hq1
      rw [Sig.set_other σ _ (Ne.symm e2)] at hq2
      obtain ⟨x2, y2, _⟩ := orig m2 o2 h2
      exact absurd he.symm (fresh m2 x2 q2 y2 hq2)
    · rename_i e1 e2
      subst e2
      rw [Sig.set_same] at hq2; cases hq2
      rw [Sig.set_other σ _ (Ne.symm e1)] at hq1
      obtain ⟨x1, y1, _⟩ := orig m1 o1 h1
      exact absurd he (fresh m1 x1 q1 y1 hq1)
    · rename_i e1 e2
      rw [Sig.set_other σ _ (Ne.symm e1)] at hq1
      rw [Sig.set_other σ _ (Ne.symm e2)] at hq2
      exact base0.inj m1 m2 o1 o2 q1 q2 h1 h2 hq1 hq2 he
  · rintro ⟨m, o, q, k1, k2, k3, k4⟩
    rw [app] at k1
    split at k1
    · rename_i e
      subst e
      rw [Sig.set_same] at k3; cases k3
      refine (g3.old b hb fun ho => ?_).2 (k4 ▸ ownk)
      obtain ⟨n, c, p, a1, a2, a3, a4⟩ := hown b ho
      exact hno ⟨n, _, p, a2, rfl, a3, a4⟩
    · rename_i e
      rw [Sig.set_other σ _ (Ne.symm e)] at k3
      obtain ⟨x1, y1, z1⟩ := orig m o k1
      exact hno ⟨m, x1, q, y1, by rw [z1]; exact k2, k3, k4⟩

/-- A call of plain data that hands back a slice of a new block. -/
theorem callOk_new {P : Program} {cs : CS} (hcs : CSOk P cs) (hm : P.follows .mixedOrders = true) {nn F : Nat} {f : FuncId} {args : List AVal} {k len esz fr : Nat} {H' : HL} {c : List AVal} (hcan : canL P.globals.size [] args = some (args, []))
    (hrun : run1 P cs nn F f args [] P.globals.size = some (.slice k 0 len esz, H', fr)) (hk : aget H' k = some (.cells false c)) (hc : ltL 0 c = true) (hg : Nat.ble P.globals.size k = true) : CallOk P f args (.alloc (.cells false c) fun b => .slice b 0 len esz) := by
  refine (callOk_viewN0 hcs hm (nn := nn) (F := F) (f := f) hcan).less fun base H r hr => ?_
  simp only [EffA.app, Option.some.injEq] at hr
  subst hr
  have e1 : renV k 0 (.slice k 0 len esz) = some (.slice 0 0 len esz) := by
    simp only [renV, renS, renN, Nat.beq_refl, cond_true]
  have e2 : renV 0 base (.slice 0 0 len esz) = some (.slice base 0 len esz) := by
    simp only [renV, renS, renN, Nat.beq_refl, cond_true]
  have e3 : ltV 1 (.slice 0 0 len esz) = true := rfl
  simp only [viewN0, EffA.app, objsA, List.length_nil, Nat.add_zero, hrun, backA, newN, hk, e1, e2, e3, hc, nodupB, hg, Bool.and_self, cond_true, List.nil_append, appU]
end Go.Eng
namespace Go.Eng
set_option linter.unusedVariables false
set_option linter.unusedSimpArgs false
open Go
/-- The new block that a call hands back. -/
def newR (x : Option (AVal × HL × Nat)) : Option (Nat × Nat × Nat × List AVal) :=
  match x with
  | some (.slice k 0 len esz, H', _) => match aget H' k with
    | some (.cells false c) => some (k, len, esz, c)
    | _ => none
  | _ => none
theorem callOk_new2 {P : Program} {cs : CS} (hcs : CSOk P cs) (hm : P.follows .mixedOrders = true) {nn F : Nat} {f : FuncId} {args : List AVal} {k len esz : Nat} {c : List AVal} (hcan : canL P.globals.size [] args = some (args, []))
    (hrun : newR (run1 P cs nn F f args [] P.globals.size) = some (k, len, esz, c)) (hc : ltL 0 c = true) (hg : Nat.ble P.globals.size k = true) : CallOk P f args (.alloc (.cells false c) fun b => .slice b 0 len esz) := by
  unfold newR at hrun
  split at hrun
  · rename_i k' len' esz' H' fr hr
    split at hrun
    · rename_i c' hk
      simp only [Option.some.injEq, Prod.mk.injEq] at hrun
      obtain ⟨rfl, rfl, rfl, rfl⟩ := hrun
      exact callOk_new hcs hm hcan hr hk hc hg
    · cases hrun
  · cases hrun
end Go.Eng

/- Engine, part 40: calls that hand back a new block by a pointer; calls that look at the tables alone. -/
namespace Go.Eng
set_option linter.unusedVariables false
set_option linter.unusedSimpArgs false
open Go
/-- The new block that a call hands back. -/
def newP (x : Option (AVal × HL × Nat)) : Option (Nat × List AVal) :=
  match x with
  | some (.ptr k 0, H', _) => match aget H' k with
    | some (.cells false c) => some (k, c)
    | _ => none
  | _ => none
theorem callOk_newP {P : Program} {cs : CS} (hcs : CSOk P cs) (hm : P.follows .mixedOrders = true) {nn F : Nat} {f : FuncId} {args : List AVal} {k : Nat} {c : List AVal} (hcan : canL P.globals.size [] args = some (args, []))
    (hrun : newP (run1 P cs nn F f args [] P.globals.size) = some (k, c)) (hc : ltL 0 c = true) (hg : Nat.ble P.globals.size k = true) : CallOk P f args (.alloc (.cells false c) fun b => .ptr b 0) := by
  unfold newP at hrun
  split at hrun
  · rename_i k' H' fr hr
    split at hrun
    · rename_i c' hk
      simp only [Option.some.injEq, Prod.mk.injEq] at hrun
      obtain ⟨rfl, rfl⟩ := hrun
      refine (callOk_viewN0 hcs hm (nn := nn) (F := F) (f := f) hcan).less fun base H r hr2 => ?_
      simp only [EffA.app, Option.some.injEq] at hr2
      subst hr2
      have e1 : renV k' 0 (.ptr k' 0) = some (.ptr 0 0) := by
        simp only [renV, renS, renN, Nat.beq_refl, cond_true]
      have e2 : renV 0 base (.ptr 0 0) = some (.ptr base 0) := by
        simp only [renV, renS, renN, Nat.beq_refl, cond_true]
      have e3 : ltV 1 (.ptr 0 0) = true := rfl
      simp only [viewN0, EffA.app, objsA, List.length_nil, Nat.add_zero, hr, backA, newN, hk, e1, e2, e3, hc, nodupB, hg, Bool.and_self, cond_true, List.nil_append, appU]
    · cases hrun
  · cases hrun
/-- What a call makes of the tables alone. -/
def tabE (k : (Nat → Option AObj) → Option AVal) : EffA :=
  .eff fun _ η => match k η with
    | some v => some (v, [])
    | none => none
theorem callOk_tab {P : Program} {cs : CS} (hcs : CSOk P cs) (hm : P.follows .mixedOrders = true) {f : FuncId} {args : List AVal} (hcan : canL P.globals.size [] args = some (args, [])) {k : (Nat → Option AObj) → Option AVal}
    (h : ∀ η v, k η = some v → ltV 0 v = true ∧ ∃ F nn H' fr', run1 P cs nn F f args (globA η P.globals.size 0) P.globals.size = some (v, H', fr')) : CallOk P f args (tabE k) := by
  intro σ args' H w base v0 H0 hl hg hH happ hfree
  unfold tabE EffA.app at happ
  simp only at happ
  cases hk : k (aget H) with
  | none => rw [hk] at happ; cases happ
  | some v =>
    rw [hk] at happ
    simp only [Option.some.injEq, Prod.mk.injEq] at happ
    obtain ⟨rfl, rfl⟩ := happ
    obtain ⟨h3, F, nn, H', fr', h4⟩ := h (aget H) v hk
    refine callOk_view hcs hm (nn := nn) (F := F) hcan σ args' H w base v _ hl hg hH ?_ hfree
    unfold viewE EffA.app
    simp only [objsA, List.append_nil]
    have h4' : run1 P cs nn F f args (globA (aget H) P.globals.size 0) (P.globals.size + ([] : List Nat).length) = some (v, H', fr') := h4
    rw [h4']
    simp only [backA, h3, nodupB, cond_true, Bool.and_self]
end Go.Eng
namespace Go.Eng
set_option linter.unusedVariables false
set_option linter.unusedSimpArgs false
open Go
/-- A call on one block, without the tables. -/
theorem callOk_one0 {P : Program} {cs : CS} (hcs : CSOk P cs) (hm : P.follows .mixedOrders = true) {f : FuncId} {args cargs : List AVal} {n : Nat} (hcan : canL P.globals.size [] args = some (cargs, [n])) {k : List AVal → Option (AVal × List AVal)}
    (h : ∀ c v c', k c = some (v, c') → ltL 0 c = true ∧ ltL 0 c' = true ∧ ltV 0 v = true ∧ ∃ F nn H' fr', run1 P cs nn F f cargs [(P.globals.size, .cells false c)] (P.globals.size + 1) = some (v, H', fr') ∧ aget H' P.globals.size = some (.cells false c')) : CallOk P f args (oneE n fun _ => k) := by
  intro σ args' H w base v0 H0 hl hg hH happ hfree
  unfold oneE EffA.app at happ
  simp only at happ
  cases hn : aget H n with
  | none => rw [hn] at happ; cases happ
  | some ob =>
    obtain ⟨ro, c⟩ := ob
    rw [hn] at happ
    cases ro with
    | true => cases happ
    | false =>
      simp only at happ
      cases hk : k c with
      | none => rw [hk] at happ; cases happ
      | some r =>
        obtain ⟨v, c'⟩ := r
        rw [hk] at happ
        simp only [Option.some.injEq, Prod.mk.injEq] at happ
        obtain ⟨rfl, rfl⟩ := happ
        obtain ⟨h1, h2, h3, F, nn, H', fr', h4, h5⟩ := h c v c' hk
        refine callOk_view0 hcs hm (nn := nn) (F := F) hcan σ args' H w base v _ hl hg hH ?_ hfree
        unfold viewE0 EffA.app
        simp only [objsA, hn, h1, cond_true]
        have h4' : run1 P cs nn F f cargs [(P.globals.size, .cells false c)] (P.globals.size + [n].length) = some (v, H', fr') := h4
        rw [h4']
        simp only [backA, hn, h5, h2, cond_true, h3, nodupB, List.all_nil, Bool.and_self]
end Go.Eng

/- Engine, part 41: rounds at whose end blocks of plain data of unknown length bear new names. -/
namespace Go.Eng
set_option linter.unusedVariables false
set_option linter.unusedSimpArgs false
open Go
theorem renS_plain {m n : Nat} {v : AVal} (h : ltS 0 v = true) : renS m n v = some v := by
  have h0 : ∀ n : Nat, Nat.ble (n + 1) 0 = false := fun n => rfl
  cases v <;> first | rfl | (simp only [ltS, h0] at h; done) | skip
  all_goals simp only [ltS, h0] at h
  all_goals first | cases h | skip
  all_goals (rename_i cs; cases cs <;> first | rfl | cases h)
theorem renL_plain {m n : Nat} : ∀ {c : List AVal}, ltL 0 c = true → renL m n c = some c
  | [], _ => rfl
  | v :: c, h => by
    simp only [ltL] at h
    cases hv : ltS 0 v <;> rw [hv] at h <;> simp only [cond_true, cond_false] at h
    · cases h
    · simp only [renL, renS_plain hv, renL_plain h]
def memD (k : Nat) : List Nat → Bool
  | [] => false
  | m :: l => cond (Nat.beq k m) true (memD k l)
/-- As 'renH'; that the blocks named in 'dl' are plain data is asked. -/
def renHx (dl : List Nat) (m n : Nat) : HL → Option (HL × List Bool)
  | [] => some ([], [])
  | (k, .cells ro c) :: l => match renN m n k, renHx dl m n l with
    | some k', some (l', ob) => cond (memD k dl) (some ((k', .cells ro c) :: l', ltL 0 c :: ob)) (match renL m n c with
      | some c' => some ((k', .cells ro c') :: l', ob)
      | none => none)
    | _, _ => none
theorem renHx_ok {dl : List Nat} {m n : Nat} : ∀ {H H' : HL} {ob : List Bool}, renHx dl m n H = some (H', ob) → allT ob = true → renH m n H = some H'
  | [], H', ob, h, _ => by cases h; rfl
  | (k, .cells ro c) :: l, H', ob, h, ha => by
    simp only [renHx] at h
    split at h
    · rename_i k' l' ob' h1 h2
      cases hm : memD k dl <;> rw [hm] at h <;> simp only [cond_true, cond_false] at h
      · split at h
        · rename_i c' hc
          cases h
          simp only [renH, h1, hc, renHx_ok h2 ha]
        · cases h
      · cases h
        have := allT_cons ha
        simp only [renH, h1, renL_plain this.1, renHx_ok h2 this.2]
    · cases h
def ren1x (dl : List Nat) (P : Program) (bs m n : Nat) (s : SA) : Option (SA × List Bool) :=
  cond (Nat.ble bs m && Nat.ble bs n && Nat.ble P.globals.size bs && Nat.ble (n + 1) s.fr && !(Nat.beq m n)) (match renT m n s.T, renHx dl m n (adel s.H n) with
    | some T, some (H, ob) => some (⟨T, H, s.fr⟩, ob)
    | _, _ => none) none
theorem ren1x_ok {dl : List Nat} {P : Program} {bs m n : Nat} {s s' : SA} {ob : List Bool} (h : ren1x dl P bs m n s = some (s', ob)) (ha : allT ob = true) : ren1 P bs m n s = some s' := by
  unfold ren1x at h
  unfold ren1 ren0
  simp only at h ⊢
  cases hc : (Nat.ble bs m && Nat.ble bs n && Nat.ble P.globals.size bs && Nat.ble (n + 1) s.fr && !(Nat.beq m n)) <;> rw [hc] at h <;> simp only [cond_true, cond_false] at h ⊢
  · cases h
  · split at h
    · rename_i T H ob' h1 h2
      cases h
      simp only [h1, renHx_ok h2 ha]
    · cases h
def renAllx (dl : List Nat) (P : Program) (bs : Nat) : List (Nat × Nat) → SA → List Bool → Option (SA × List Bool)
  | [], s, ob => some (s, ob)
  | (m, n) :: l, s, ob => match ren1x dl P bs m n s with
    | some (s', ob') => renAllx dl P bs l s' (ob' ++ ob)
    | none => none
theorem allT_append : ∀ {a b : List Bool}, allT (a ++ b) = true → allT a = true ∧ allT b = true
  | [], b, h => ⟨rfl, h⟩
  | x :: a, b, h => by
    have h1 := allT_cons (b := x) (l := a ++ b) h
    have h2 := allT_append h1.2
    refine ⟨?_, h2.2⟩
    simp only [allT, h1.1, h2.1, cond_true]
theorem renAllx_ok {dl : List Nat} {P : Program} {bs : Nat} : ∀ {l : List (Nat × Nat)} {s s' : SA} {ob ob' : List Bool}, renAllx dl P bs l s ob = some (s', ob') → allT ob' = true → renAll P bs l s = s' ∧ allT ob = true
  | [], s, s', ob, ob', h, ha => by cases h; exact ⟨rfl, ha⟩
  | (m, n) :: l, s, s', ob, ob', h, ha => by
    simp only [renAllx] at h
    split at h
    · rename_i s1 ob1 h1
      obtain ⟨e1, e2⟩ := renAllx_ok h ha
      have e3 := allT_append e2
      refine ⟨?_, e3.2⟩
      simp only [renAll, ren1x_ok h1 e3.1]
      exact e1
    · cases h
noncomputable def roundO3 (dl : List Nat) (P : Program) (ps : PS) (cs : CS) (sy : List Nat) (os : List Bool) (vs : List AVal) (nt nn F bs : Nat) (b : Code) (s0 s : SA) : Option (SA × List Bool) :=
  match evT P ps cs sy nt nn F bs b s ⟨os, vs, []⟩ with
  | some (.normal, s', q) => match renAllx dl P bs (pairsT s0.fr 0 s0.T s'.T) s' q.ob with
    | some (r, ob) => some (⟨reshape s0.T r.T, reshapeH s0.H r.H ++ extraH s0.H s0.fr r.H, s0.fr⟩, ob)
    | none => none
  | _ => none
theorem roundO3_ok {dl : List Nat} {P : Program} {ps : PS} {cs : CS} (hps : PSOk ps cs) {sy : List Nat} {os : List Bool} {vs : List AVal} {nt nn F bs : Nat} {b : Code} {s0 s s1 : SA} {ob : List Bool} (h : roundO3 dl P ps cs sy os vs nt nn F bs b s0 s = some (s1, ob)) (ha : allT ob = true) (ho : okS P s1 = true) :
    roundA (evC P cs nt nn F bs b) (headA P bs s0) s = some s1 := by
  unfold roundO3 at h
  split at h
  · rename_i s' q hev
    split at h
    · rename_i r ob' hr
      simp only [Option.some.injEq, Prod.mk.injEq] at h
      obtain ⟨h1, rfl⟩ := h
      obtain ⟨e1, e2⟩ := renAllx_ok hr ha
      have hh : headS P bs s0 s' = s1 := by
        unfold headS
        simp only
        rw [e1]
        exact h1
      simp only [roundA, (evT_ok hps b _ _ _ _ _ hev e2).1, headS_eq hh ho]
    · cases h
  · cases h
end Go.Eng

/- Engine, part 44: a round that holds loops of its own: its end is brought to the head apart. -/
namespace Go.Eng
set_option linter.unusedVariables false
set_option linter.unusedSimpArgs false
open Go
def headX (dl : List Nat) (P : Program) (bs : Nat) (s0 s : SA) : Option (SA × List Bool) :=
  match renAllx dl P bs (pairsT s0.fr 0 s0.T s.T) s [] with
  | some (r, ob) => some (⟨reshape s0.T r.T, reshapeH s0.H r.H ++ extraH s0.H s0.fr r.H, s0.fr⟩, ob)
  | none => none
theorem headX_ok {dl : List Nat} {P : Program} {bs : Nat} {s0 s s1 : SA} {ob : List Bool} (h : headX dl P bs s0 s = some (s1, ob)) (ha : allT ob = true) (ho : okS P s1 = true) : headA P bs s0 s = s1 := by
  unfold headX at h
  split at h
  · rename_i r ob' hr
    simp only [Option.some.injEq, Prod.mk.injEq] at h
    obtain ⟨h1, rfl⟩ := h
    obtain ⟨e1, _⟩ := renAllx_ok hr ha
    refine headS_eq ?_ ho
    unfold headS
    simp only
    rw [e1]
    exact h1
  · cases h
/-- A round out of its pieces. -/
theorem round_of44 {P : Program} {cs : CS} {nt nn F bs : Nat} {b : Code} {s0 s s1 s2 : SA} {dl : List Nat} {ob : List Bool} (he : evS P cs nt nn F bs (pieces b) s = some (.normal, s1)) (hh : headX dl P bs s0 s1 = some (s2, ob)) (ha : allT ob = true) (ho : okS P s2 = true) :
    roundA (evC P cs nt nn F bs b) (headA P bs s0) s = some s2 := by
  simp only [roundA, evC_pieces, he, headX_ok hh ha ho]
end Go.Eng

/- Engine, part 45: small facts that walks over arrays, bytes and words use. -/
namespace Go.Eng
set_option linter.unusedVariables false
set_option linter.unusedSimpArgs false
open Go
set_option linter.unusedSimpArgs false
set_option linter.unusedVariables false
theorem in_rng {i n : Nat} {k : Int} (h : i < n) (e : (n : Int) = k := by rfl) : (decide (0 ≤ (i : Int)) && decide ((i : Int) < k)) = true := by subst e; simp; omega
theorem plus1 {i : Nat} (h : i < 1000) : eqS (.int .i64 (IntKind.wrap .i64 ((i : Int) + 1))) (.int .i64 ((i + 1 : Nat) : Int)) = true := eqS_i64 (by rw [wrapI _ (by omega) (by omega)]; omega)
theorem minus {i k d : Nat} (h : i = k + d) (hi : i < 1000) : eqS (.int .i64 (IntKind.wrap .i64 ((i : Int) - (d : Int)))) (.int .i64 (k : Int)) = true := eqS_i64 (by rw [wrapI _ (by omega) (by omega)]; omega)
theorem quo8 {i : Nat} (h : i < 1000) : eqS (.int .i64 (IntKind.wrap .i64 (Int.tdiv (i : Int) 8))) (.int .i64 ((i / 8 : Nat) : Int)) = true := eqS_i64 (by
  have : Int.tdiv (i : Int) 8 = ((i / 8 : Nat) : Int) := rfl
  rw [this, wrapI _ (by omega) (by omega)])
theorem like_b {n i : Nat} {b : Nat → UInt8} (h : i < n) : likeA ((cellsB n b).getD 0 (.bool false)) ((cellsB n b).getD ((i : Int).toNat * 1) (.bool false)) = .u8 (b i) := by
  have e : (i : Int).toNat * 1 = i := by simp
  rw [e, getD_cellsB b h, getD_cellsB b (by omega : 0 < n)]; rfl
theorem like_u {n i : Nat} {x : Nat → UInt64} (h : i < n) : likeA ((cellsU n x).getD 0 (.bool false)) ((cellsU n x).getD ((i : Int).toNat * 1) (.bool false)) = .u64 (x i) := by
  have e : (i : Int).toNat * 1 = i := by simp
  rw [e, getD_cellsU x h, getD_cellsU x (by omega : 0 < n)]; rfl
theorem blt_i {i k : Nat} (h : i < k) : Nat.blt ((i : Int).toNat * 1) k = true := by simp [h]
theorem ble_i {i k : Nat} (h : i < k) : Nat.ble (0 + (i : Int).toNat * 1 + 1) k = true := by simp; omega
theorem lt_i {i n : Nat} {k : Int} (h : i < n) (e : (n : Int) = k := by rfl) : decide ((i : Int) < k) = true := by subst e; simp; omega
theorem ltL_U (n k : Nat) (f : Nat → UInt64) : ltL k (cellsU n f) = true := by
  have : cellsU n f = ((List.range n).map f).map .u64 := by simp [cellsU]
  rw [this]; exact ltL_u64 ..
theorem ltL_B (n k : Nat) (f : Nat → UInt8) : ltL k (cellsB n f) = true := by
  have : cellsB n f = ((List.range n).map f).map .u8 := by simp [cellsB]
  rw [this]; exact ltL_u8 ..
theorem plusL {i : Nat} (h : i < 1000000000) : eqS (.int .i64 (IntKind.wrap .i64 ((i : Int) + 1))) (.int .i64 ((i + 1 : Nat) : Int)) = true := eqS_i64 (by rw [wrapI _ (by omega) (by omega)]; omega)
theorem d_false {i n : Nat} {k : Int} (h : n ≤ i) (e : (n : Int) = k := by rfl) : decide ((i : Int) < k) = false := by subst e; simp; omega
theorem bne_of {a b : UInt64} : (a != b) = decide (a.toNat ≠ b.toNat) := by
  by_cases h : a = b
  · subst h; simp
  · have : a.toNat ≠ b.toNat := fun e => h (UInt64.toNat_inj.1 e)
    simp [h, this]
theorem nat0 (i : Nat) : decide (0 ≤ (i : Int)) = true := by simp
theorem d_true {i n : Nat} {k : Int} (h : i < n) (e : (n : Int) = k := by rfl) : decide ((i : Int) < k) = true := lt_i h e
/-- The bytes of a block that is all bytes. -/
def shAllB (c : List AVal) : Bool := match shB c.length c with
  | some [] => true
  | _ => false
theorem shAllB_ok {c : List AVal} (h : shAllB c = true) : c = cellsB c.length (gB c) := by
  unfold shAllB at h
  split at h
  · rename_i hs
    have := shB_ok hs
    rwa [List.append_nil] at this
  · cases h
theorem shAllB_B (L : Nat) (b : Nat → UInt8) : shAllB (cellsB L b) = true := by
  have : ∀ (l : List UInt8), shB (l.map AVal.u8).length (l.map AVal.u8) = some [] := by
    intro l
    induction l with
    | nil => rfl
    | cons x l ih => simp only [List.map_cons, List.length_cons, shB]; exact ih
  unfold shAllB
  have e : cellsB L b = ((List.range L).map b).map .u8 := by simp [cellsB]
  rw [e, this]
def apC (c : List UInt8) (x : UInt8) : List AVal := List.take (c.length * 1) (List.drop 0 (c.map .u8)) ++ [.u8 x]
def apOb (c : List UInt8) : Bool := true && (((Nat.ble ((c.length + 1) * 1) 140737488355328 && Nat.ble (c.length + 1) 140737488355328) && true) && Nat.ble (0 + c.length * 1) (c.map AVal.u8).length)
theorem apC_eq (c : List UInt8) (x : UInt8) : apC c x = (c ++ [x]).map .u8 := by
  unfold apC
  rw [List.drop_zero, Nat.mul_one, List.map_append, List.take_of_length_le (by simp)]; rfl
theorem apOb_ok {c : List UInt8} (h : c.length < 1000000000) : apOb c = true := by
  unfold apOb
  have h1 : Nat.ble ((c.length + 1) * 1) 140737488355328 = true := Nat.ble_eq_true_of_le (by omega)
  have h2 : Nat.ble (c.length + 1) 140737488355328 = true := Nat.ble_eq_true_of_le (by omega)
  have h3 : Nat.ble (0 + c.length * 1) (c.map AVal.u8).length = true := Nat.ble_eq_true_of_le (by rw [List.length_map]; omega)
  rw [h1, h2, h3]; rfl
theorem ltLm (k : Nat) (c : List UInt8) : ltL k (c.map AVal.u8) = true := ltL_u8 ..
/-- A text with more behind it. -/
def exL (c : List UInt8) (f : Nat → UInt8) (i : Nat) : List UInt8 := c ++ (List.range i).map f
theorem exL_succ (c : List UInt8) (f : Nat → UInt8) (i : Nat) : exL c f (i + 1) = exL c f i ++ [f i] := by
  unfold exL
  rw [List.range_succ, List.map_append, List.append_assoc]; rfl
theorem exL_len (c : List UInt8) (f : Nat → UInt8) (i : Nat) : (exL c f i).length = c.length + i := by simp [exL]
theorem exL_zero (c : List UInt8) (f : Nat → UInt8) : exL c f 0 = c := by simp [exL]
theorem gB_map (c : List UInt8) (i : Nat) : gB (c.map .u8) i = c.getD i 0 := by
  unfold gB
  rw [List.getElem?_map, List.getD_eq_getElem?_getD]
  cases c[i]? <;> rfl
theorem shAllB_map (c : List UInt8) : shAllB (c.map AVal.u8) = true := by
  have : ∀ (l : List UInt8), shB (l.map AVal.u8).length (l.map AVal.u8) = some [] := by
    intro l
    induction l with
    | nil => rfl
    | cons x l ih => simp only [List.map_cons, List.length_cons, shB]; exact ih
  unfold shAllB
  rw [this]
theorem run_of {x : Option (AVal × HL × Nat)} {v : AVal} (h : x.map (·.1) = some v) : ∃ H' fr', x = some (v, H', fr') := by
  cases x with
  | none => cases h
  | some r =>
    obtain ⟨a, b, c⟩ := r
    simp only [Option.map_some, Option.some.injEq] at h
    subst h
    exact ⟨b, c, rfl⟩
theorem first_bad {p : Nat → Prop} (dec : ∀ i, p i ∨ ¬ p i) : ∀ N, ¬ p N → ∃ m, m ≤ N ∧ (∀ i, i < m → p i) ∧ ¬ p m
  | 0, h => ⟨0, Nat.le_refl _, fun i hi => by omega, h⟩
  | N + 1, h => by
    by_cases hb : ∀ i, i < N + 1 → p i
    · exact ⟨N + 1, Nat.le_refl _, hb, h⟩
    · have : ∃ k, k < N + 1 ∧ ¬ p k := by
        apply Classical.byContradiction
        intro hn
        apply hb
        intro i hi
        rcases dec i with h1 | h1
        · exact h1
        · exact absurd ⟨i, hi, h1⟩ hn
      obtain ⟨k, hk, hnk⟩ := this
      -- the least one below k or k itself
      have : ∀ M, M ≤ N → ¬ p M → ∃ m, m ≤ M ∧ (∀ i, i < m → p i) ∧ ¬ p m := fun M hM hnp => by
        induction M using Nat.strongRecOn with
        | _ M ih =>
          by_cases hb2 : ∃ j, j < M ∧ ¬ p j
          · obtain ⟨j, hj, hnj⟩ := hb2
            obtain ⟨m, h1, h2, h3⟩ := ih j hj (by omega) hnj
            exact ⟨m, by omega, h2, h3⟩
          · refine ⟨M, Nat.le_refl _, fun i hi => ?_, hnp⟩
            rcases dec i with h1 | h1
            · exact h1
            · exact absurd ⟨i, hi, h1⟩ hb2
      obtain ⟨m, h1, h2, h3⟩ := this k (by omega) hnk
      exact ⟨m, by omega, h2, h3⟩
/-- An array of words. -/
def aggU (k : Nat) : AVal → Option (Nat → UInt64)
  | .agg a => match shU k a with
    | some [] => some (gU a)
    | _ => none
  | _ => none
theorem aggU_ok {k : Nat} {v : AVal} {a : Nat → UInt64} (h : aggU k v = some a) : v = .agg (cellsU k a) := by
  unfold aggU at h
  split at h
  · split at h
    · rename_i hs
      cases h
      have := shU_ok hs
      rw [List.append_nil] at this
      exact congrArg AVal.agg this
    · cases h
  · cases h
theorem eqL_U {n : Nat} (f : Nat → UInt64) : isAtL (cellsU n f) 0 (cellsU n f) = true := by
  have key : ∀ l : List UInt64, eqL (l.map AVal.u64) (l.map AVal.u64) = true := fun l => by
    induction l with
    | nil => rfl
    | cons x l ih => simp only [List.map_cons, eqL, eqS_u64, ih, Bool.and_self]
  unfold isAtL
  have e : cellsU n f = ((List.range n).map f).map .u64 := by simp [cellsU]
  rw [List.drop_zero, List.take_length, Nat.zero_add]
  rw [e, key]
  simp
theorem shl_nat (x : UInt64) (k : Nat) (hk : k < 64) (h : x.toNat * 2 ^ k < 2 ^ 64) : (shl_u64 x k).toNat = x.toNat * 2 ^ k := by
  unfold shl_u64
  rw [Nat.ble_eq_true_of_le (show k ≤ 63 by omega), cond_true, UInt64.toNat_shiftLeft, UInt64.toNat_ofNat', Nat.mod_eq_of_lt (show k < 2 ^ 64 by omega), Nat.mod_eq_of_lt hk, Nat.shiftLeft_eq, Nat.mod_eq_of_lt h]
theorem dec_blt (a b : Nat) : decide (a < b) = Nat.blt a b := by
  cases h : Nat.blt a b with
  | true => exact decide_eq_true (Nat.le_of_ble_eq_true h)
  | false =>
    apply decide_eq_false
    intro hn
    have : Nat.blt a b = true := Nat.ble_eq_true_of_le hn
    rw [h] at this
    cases this
theorem isAt_cellsB {L k i o : Nat} (b : Nat → UInt8) (hk : o + i < L) : isAt (cellsB L b) (o + (i : Int).toNat * 1) (.u8 (b (o + i))) = true := by
  have e : o + (i : Int).toNat * 1 = o + i := by simp
  rw [e]
  unfold isAt
  rw [cellsB_at b hk]
  exact eqS_u8 _

theorem shr_nat (x : UInt64) (k : Nat) (hk : k < 64) : (shr_u64 x k).toNat = x.toNat / 2 ^ k := by
  unfold shr_u64
  rw [Nat.ble_eq_true_of_le (show k ≤ 63 by omega), cond_true, UInt64.toNat_shiftRight, UInt64.toNat_ofNat', Nat.mod_eq_of_lt (show k < 2 ^ 64 by omega), Nat.mod_eq_of_lt hk, Nat.shiftRight_eq_div_pow]
end Go.Eng
namespace Go.Eng
set_option linter.unusedVariables false
set_option linter.unusedSimpArgs false
open Go
/-- A run's value, a block behind it, and what is asked. -/
def ansB (n : Nat) (x : Option ((AVal × HL × Nat) × List Bool)) : Option (AVal × AObj × List Bool) :=
  match x with
  | some ((v, H', _), ob) => match aget H' n with
    | some o => some (v, o, ob)
    | none => none
  | none => none
theorem ansB_run {P : Program} {ps : PS} {cs : CS} (hps : PSOk ps cs) {sy : List Nat} {os : List Bool} {vs : List AVal} {nn F : Nat} {f : FuncId} {args : List AVal} {H : HL} {fr n : Nat} {v : AVal} {o : AObj} {ob : List Bool} (h : ansB n (run1O P ps cs sy os vs nn F f args H fr) = some (v, o, ob)) (ha : allT ob = true) :
    ∃ H' fr', run1 P cs nn F f args H fr = some (v, H', fr') ∧ aget H' n = some o := by
  unfold ansB at h
  split at h
  · rename_i v' H' fr' ob' hr
    split at h
    · rename_i o' ho
      simp only [Option.some.injEq, Prod.mk.injEq] at h
      obtain ⟨rfl, rfl, rfl⟩ := h
      exact ⟨H', fr', run1O_ok hps hr ha, ho⟩
    · cases h
  · cases h
end Go.Eng

/- The seat's masks. -/
namespace Go.Proofs.Ytifohjjmbohhnaa.Pol
set_option linter.unusedVariables false
set_option linter.unusedSimpArgs false
open Go Go.Eng
set_option maxRecDepth 100000
def mask : FuncId → Nat := fun f => match f with | 2 => 0 | 3 => 1074265119 | 4 => 36893488147486456819 | 5 => 18889465931753467146303 | 6 => 1407 | 7 => 4303411983 | 8 => 8423183 | 9 => 144115222574037775 | 10 => 8796244086543 | 11 => 5 | 12 => 5 | 13 => 609885634319 | 14 => 528143 | 15 => 19 | 16 => 283602206479 | 17 => 783 | 18 => 14451 | 19 => 125 | 20 => 157 | 21 => 19 | 22 => 127 | 23 => 4551 | 24 => 309513344275821599845253107 | 25 => 2013 | 26 => 590296091842272313287 | 27 => 39614081552298092776981266419 | 28 => 5 | 29 => 269353199 | 30 => 928456800891898357834874823 | 31 => 281475043836915 | 32 => 95 | 33 => 511 | 34 => 4313087 | 35 => 34359787583 | 36 => 51 | 37 => 51 | 38 => 5 | 39 => 5 | 40 => 1087 | 41 => 9671406628976826459979775 | 42 => 4503599627442175 | 43 => 2147516543 | 44 => 116767 | 45 => 1073742391 | 46 => 524353 | 47 => 51 | _ => 0
theorem hmix : Try.prog.follows .mixedOrders = true := by kernel_rfl
def bodyOf (f : Func) : Code := f.body.getD .skip
theorem gl : Try.prog.globals.size = 0 := by kernel_rfl
end Go.Proofs.Ytifohjjmbohhnaa.Pol

/- Engine, part 48: calls on blocks that lead to blocks, carried out under other names. -/
namespace Go.Eng
set_option linter.unusedVariables false
set_option linter.unusedSimpArgs false
open Go
set_option linter.unusedSimpArgs false
set_option linter.unusedVariables false
/-! ### the same value under other names -/
inductive RN (ρ : Nat → Nat → Prop) : AVal → AVal → Prop where
  | same {v : AVal} (h : ltV 0 v = true) : RN ρ v v
  | ptr {k n off : Nat} (h : ρ k n) : RN ρ (.ptr k off) (.ptr n off)
  | slice {k n off len esz : Nat} (h : ρ k n) : RN ρ (.slice k off len esz) (.slice n off len esz)
  | map {k n : Nat} (h : ρ k n) : RN ρ (.map k) (.map n)
  | fn {f : FuncId} {c c' : List AVal} (hs : c.length = c'.length) (h : ∀ (i : Nat) v v', c[i]? = some v → c'[i]? = some v' → RN ρ v v') : RN ρ (.fn f c) (.fn f c')
  | iface {t : TypeId} {v v' : AVal} (h : RN ρ v v') : RN ρ (.iface t v) (.iface t v')
  | agg {c c' : List AVal} (hs : c.length = c'.length) (h : ∀ (i : Nat) v v', c[i]? = some v → c'[i]? = some v' → RN ρ v v') : RN ρ (.agg c) (.agg c')
  | tup {c c' : List AVal} (hs : c.length = c'.length) (h : ∀ (i : Nat) v v', c[i]? = some v → c'[i]? = some v' → RN ρ v v') : RN ρ (.tup c) (.tup c')
  | tp {k n : Nat} {t : TypeId} {b : Bool} (h : ρ k n) : RN ρ (.tp k t b) (.tp n t b)
def RL (ρ : Nat → Nat → Prop) (c c' : List AVal) : Prop := c.length = c'.length ∧ ∀ (i : Nat) v v', c[i]? = some v → c'[i]? = some v' → RN ρ v v'
theorem RL.nil (ρ : Nat → Nat → Prop) : RL ρ [] [] := ⟨rfl, fun i v v' h => by simp at h⟩
theorem RL.cons {ρ : Nat → Nat → Prop} {v v' : AVal} {c c' : List AVal} (h : RN ρ v v') (hc : RL ρ c c') : RL ρ (v :: c) (v' :: c') := by
  refine ⟨by simp [hc.1], fun i u u' h1 h2 => ?_⟩
  cases i with
  | zero => simp at h1 h2; subst h1; subst h2; exact h
  | succ i => exact hc.2 i u u' (by simpa using h1) (by simpa using h2)
theorem ltV_of_ltS48 {v : AVal} (h : ltS 0 v = true) : ltV 0 v = true := by
  cases v with
  | agg l => cases l with
    | nil => rfl
    | cons x l => cases h
  | tup l => cases l with
    | nil => rfl
    | cons x l => cases h
  | fn f l => cases l with
    | nil => rfl
    | cons x l => cases h
  | iface t v => cases h
  | _ => exact h
theorem partner {c c' : List AVal} (hs : c.length = c'.length) {i : Nat} {x : AVal} (h : c'[i]? = some x) : ∃ y, c[i]? = some y :=
  ⟨_, List.getElem?_eq_getElem (by rw [hs]; exact (List.getElem?_eq_some_iff.1 h).1)⟩
theorem RL.same {ρ : Nat → Nat → Prop} {c : List AVal} (h : ltL 0 c = true) : RL ρ c c :=
  ⟨rfl, fun i v v' h1 h2 => by
    rw [h1] at h2
    cases h2
    exact .same (ltV_of_ltS48 (ltL_mem h v (List.mem_of_getElem? h1)))⟩
theorem RL.append {ρ : Nat → Nat → Prop} {a a' b b' : List AVal} (h : RL ρ a a') (k : RL ρ b b') : RL ρ (a ++ b) (a' ++ b') := by
  refine ⟨by simp [h.1, k.1], fun i u u' h1 h2 => ?_⟩
  by_cases hi : i < a.length
  · rw [List.getElem?_append_left hi] at h1
    rw [List.getElem?_append_left (by rw [← h.1]; exact hi)] at h2
    exact h.2 i u u' h1 h2
  · rw [List.getElem?_append_right (by omega)] at h1
    rw [List.getElem?_append_right (by rw [← h.1]; omega), ← h.1] at h2
    exact k.2 _ u u' h1 h2
theorem RN.aggL {ρ : Nat → Nat → Prop} {c c' : List AVal} (h : RL ρ c c') : RN ρ (.agg c) (.agg c') := .agg h.1 h.2
theorem RN.tupL {ρ : Nat → Nat → Prop} {c c' : List AVal} (h : RL ρ c c') : RN ρ (.tup c) (.tup c') := .tup h.1 h.2
theorem RN.fnL {ρ : Nat → Nat → Prop} {f : FuncId} {c c' : List AVal} (h : RL ρ c c') : RN ρ (.fn f c) (.fn f c') := .fn h.1 h.2
def Keeps2 (ρ : Nat → Nat → Prop) (σ σ' : Sig) : Prop := ∀ k n, ρ k n → ∀ p, σ k = some p → σ' n = some p
theorem RN.vr {ρ : Nat → Nat → Prop} {σ σ' : Sig} (hk : Keeps2 ρ σ σ') {c a : AVal} (h : RN ρ c a) : ∀ {v : Value}, VR σ c v → VR σ' a v := by
  induction h with
  | same h => intro v hv; exact (ltV_ok h hv).mono fun n p hp => by simp [cut] at hp
  | ptr h => intro v hv; cases hv with | ptr hp => exact .ptr (hk _ _ h _ hp)
  | slice h => intro v hv; cases hv with | slice hp a b c => exact .slice (hk _ _ h _ hp) a b c
  | map h => intro v hv; cases hv with | map hp => exact .map (hk _ _ h _ hp)
  | tp h =>
    intro v hv
    cases hv with
    | tp0 hp a b c => exact .tp0 (hk _ _ h _ hp) a b c
    | tp1 hp a b c => exact .tp1 (hk _ _ h _ hp) a b c
  | fn hs h ih =>
    intro v hv
    cases hv with
    | fn a b =>
      refine .fn (hs ▸ a) fun i x x' h1 h2 => ?_
      obtain ⟨y, hy⟩ := partner hs h1
      exact ih i y x hy h1 (b i y x' hy h2)
  | iface h ih => intro v hv; cases hv with | iface hp => exact .iface (ih hp)
  | agg hs h ih =>
    intro v hv
    cases hv with
    | agg a b =>
      refine .agg (hs ▸ a) fun i x x' h1 h2 => ?_
      obtain ⟨y, hy⟩ := partner hs h1
      exact ih i y x hy h1 (b i y x' hy h2)
  | tup hs h ih =>
    intro v hv
    cases hv with
    | tup a b =>
      refine .tup (hs ▸ a) fun i x x' h1 h2 => ?_
      obtain ⟨y, hy⟩ := partner hs h1
      exact ih i y x hy h1 (b i y x' hy h2)
theorem RN.vr' {ρ : Nat → Nat → Prop} {σ σ' : Sig} (hk : Keeps2 (fun k n => ρ n k) σ σ') {c a : AVal} (h : RN ρ c a) : ∀ {v : Value}, VR σ a v → VR σ' c v := by
  induction h with
  | same h => intro v hv; exact (ltV_ok h hv).mono fun n p hp => by simp [cut] at hp
  | ptr h => intro v hv; cases hv with | ptr hp => exact .ptr (hk _ _ h _ hp)
  | slice h => intro v hv; cases hv with | slice hp a b c => exact .slice (hk _ _ h _ hp) a b c
  | map h => intro v hv; cases hv with | map hp => exact .map (hk _ _ h _ hp)
  | tp h =>
    intro v hv
    cases hv with
    | tp0 hp a b c => exact .tp0 (hk _ _ h _ hp) a b c
    | tp1 hp a b c => exact .tp1 (hk _ _ h _ hp) a b c
  | fn hs h ih =>
    intro v hv
    cases hv with
    | fn a b =>
      refine .fn (hs.symm ▸ a) fun i x x' h1 h2 => ?_
      obtain ⟨y, hy⟩ := partner hs.symm h1
      exact ih i x y h1 hy (b i y x' hy h2)
  | iface h ih => intro v hv; cases hv with | iface hp => exact .iface (ih hp)
  | agg hs h ih =>
    intro v hv
    cases hv with
    | agg a b =>
      refine .agg (hs.symm ▸ a) fun i x x' h1 h2 => ?_
      obtain ⟨y, hy⟩ := partner hs.symm h1
      exact ih i x y h1 hy (b i y x' hy h2)
  | tup hs h ih =>
    intro v hv
    cases hv with
    | tup a b =>
      refine .tup (hs.symm ▸ a) fun i x x' h1 h2 => ?_
      obtain ⟨y, hy⟩ := partner hs.symm h1
      exact ih i x y h1 hy (b i y x' hy h2)
def RO (ρ : Nat → Nat → Prop) (o o' : AObj) : Prop := ∃ ro c c', o = .cells ro c ∧ o' = .cells ro c' ∧ RL ρ c c'
theorem RO.orel {ρ : Nat → Nat → Prop} {σ σ' : Sig} (hk : Keeps2 ρ σ σ') {o o' : AObj} (h : RO ρ o o') {w : World} {p : Place} (ho : ORel σ w p o) : ORel σ' w p o' := by
  obtain ⟨ro, c, c', rfl, rfl, hl⟩ := h
  obtain ⟨d, t, fz, h1, h2, h3, h4⟩ := ho
  refine ⟨d, t, fz, h1, h2, fun i v hv => ?_, h4⟩
  obtain ⟨y, hy⟩ : ∃ y, c[i]? = some y := ⟨_, List.getElem?_eq_getElem (by rw [hl.1]; exact (List.getElem?_eq_some_iff.1 hv).1)⟩
  obtain ⟨v', a, b⟩ := h3 i y hy
  exact ⟨v', a, (hl.2 i y v hy hv).vr hk b⟩
theorem RO.orel' {ρ : Nat → Nat → Prop} {σ σ' : Sig} (hk : Keeps2 (fun k n => ρ n k) σ σ') {o o' : AObj} (h : RO ρ o o') {w : World} {p : Place} (ho : ORel σ w p o') : ORel σ' w p o := by
  obtain ⟨ro, c, c', rfl, rfl, hl⟩ := h
  obtain ⟨d, t, fz, h1, h2, h3, h4⟩ := ho
  refine ⟨d, t, fz, h1, h2, fun i v hv => ?_, h4⟩
  obtain ⟨y, hy⟩ : ∃ y, c'[i]? = some y := ⟨_, List.getElem?_eq_getElem (by rw [← hl.1]; exact (List.getElem?_eq_some_iff.1 hv).1)⟩
  obtain ⟨v', a, b⟩ := h3 i y hy
  exact ⟨v', a, (hl.2 i v y hv hy).vr' hk b⟩
theorem RO.ro {ρ : Nat → Nat → Prop} {o o' : AObj} (h : RO ρ o o') : o.ro = o'.ro := by
  obtain ⟨ro, c, c', rfl, rfl, _⟩ := h
  rfl
/-! ### changes at several names -/
theorem appU_at : ∀ {us : List (Nat × Option AObj)} {H : HL} {m : Nat}, (us.map (·.1)).Nodup → (∃ x, (m, x) ∈ us ∧ aget (appU H us) m = x) ∨ ((∀ x, (m, x) ∉ us) ∧ aget (appU H us) m = aget H m)
  | [], H, m, _ => .inr ⟨fun x h => (by cases h), rfl⟩
  | (k, x) :: us, H, m, hn => by
    simp only [List.map_cons, List.nodup_cons] at hn
    have hstep : ∀ H1 : HL, (aget H1 k = x) → (∀ j, j ≠ k → aget H1 j = aget H j) → appU H ((k, x) :: us) = appU H1 us → (∃ x', (m, x') ∈ (k, x) :: us ∧ aget (appU H ((k, x) :: us)) m = x') ∨ ((∀ x', (m, x') ∉ (k, x) :: us) ∧ aget (appU H ((k, x) :: us)) m = aget H m) := fun H1 e1 e2 e3 => by
      rw [e3]
      rcases appU_at (us := us) (H := H1) (m := m) hn.2 with ⟨x', h1, h2⟩ | ⟨h1, h2⟩
      · exact .inl ⟨x', List.mem_cons_of_mem _ h1, h2⟩
      · by_cases c : m = k
        · subst c
          exact .inl ⟨x, List.mem_cons_self .., by rw [h2, e1]⟩
        · refine .inr ⟨fun x' h => ?_, by rw [h2, e2 m c]⟩
          rcases List.mem_cons.1 h with h | h
          · cases h; exact c rfl
          · exact h1 x' h
    cases x with
    | some o => exact hstep (aset H k o) (by rw [aget_aset_fun, upd_same]) (fun j hj => by rw [aget_aset_fun, upd_other _ _ (Ne.symm hj)]) rfl
    | none => exact hstep (adel H k) (by rw [aget_adel, if_pos rfl]) (fun j hj => by rw [aget_adel, if_neg (Ne.symm hj)]) rfl
/-- What the callee's names stand for. -/
def ρ0 (G : Nat) (ns : List Nat) (k n : Nat) : Prop := (k < G ∧ n = k) ∨ ∃ i, k = G + i ∧ ns[i]? = some n
/-- And those that it made. -/
def ρ1 (G : Nat) (ns ks : List Nat) (base : Nat) (k n : Nat) : Prop := ρ0 G ns k n ∨ ∃ j, ks[j]? = some k ∧ n = base + j
/-- That a call, carried out under the names from G on, does what is said of it: the blocks 'ns' of the caller are those of 'Hc'; the new ones 'ks' become those from 'base' on. -/
structure Deep (P : Program) (cs : CS) (f : FuncId) (args : List AVal) (base : Nat) (η : Nat → Option AObj) (v : AVal) (us : List (Nat × Option AObj)) where
  nn : Nat
  F : Nat
  ns : List Nat
  ks : List Nat
  cargs : List AVal
  Hc : HL
  fr : Nat
  v0 : AVal
  H' : HL
  fr' : Nat
  hns : ns.Nodup
  hη : ∀ n, n ∈ ns → ∃ o, η n = some o
  hargs : RL (ρ0 P.globals.size ns) cargs args
  hblk : ∀ k o, aget Hc k = some o → ∃ i n o', k = P.globals.size + i ∧ ns[i]? = some n ∧ η n = some o' ∧ RO (ρ0 P.globals.size ns) o o'
  hfr : P.globals.size + ns.length ≤ fr
  hrun : run1 P cs nn F f cargs Hc fr = some (v0, H', fr')
  hks : ks.Nodup
  hks8 : ks.length ≤ 8
  hkfr : ∀ k, k ∈ ks → fr ≤ k
  hv : RN (ρ1 P.globals.size ns ks base) v0 v
  hnd : (us.map (·.1)).Nodup
  hus : ∀ m x, (m, x) ∈ us → (∃ i, ns[i]? = some m ∧ (x = none ∨ ∃ o o', x = some o' ∧ aget H' (P.globals.size + i) = some o ∧ o.ro = false ∧ RO (ρ1 P.globals.size ns ks base) o o')) ∨
    ∃ j k o o', m = base + j ∧ ks[j]? = some k ∧ x = some o' ∧ aget H' k = some o ∧ o.ro = false ∧ RO (ρ1 P.globals.size ns ks base) o o'
  hall : ∀ i n o, ns[i]? = some n → aget Hc (P.globals.size + i) = some o → o.ro = false → ∃ x, (n, x) ∈ us
theorem inj_of_nodup {l : List Nat} (h : l.Nodup) {i j n : Nat} (hi : l[i]? = some n) (hj : l[j]? = some n) : i = j := by
  obtain ⟨a, ea⟩ := List.getElem?_eq_some_iff.1 hi
  obtain ⟨b, eb⟩ := List.getElem?_eq_some_iff.1 hj
  exact (List.getElem_inj h).1 (ea.trans eb.symm)
theorem callOk_deep {P : Program} {cs : CS} (hcs : CSOk P cs) (hm : P.follows .mixedOrders = true) {f : FuncId} {args : List AVal} {K : Nat → (Nat → Option AObj) → Option (AVal × List (Nat × Option AObj))}
    (h : ∀ base η v us, K base η = some (v, us) → Nonempty (Deep P cs f args base η v us)) : CallOk P f args (.eff K) := by
  intro σ args' H w base v H0 hl hg hH happ hfree
  simp only [EffA.app] at happ
  cases hK : K base (aget H) with
  | none => rw [hK] at happ; cases happ
  | some r =>
  obtain ⟨v1, us⟩ := r
  rw [hK] at happ
  simp only [Option.some.injEq, Prod.mk.injEq] at happ
  obtain ⟨rfl, rfl⟩ := happ
  obtain ⟨D⟩ := h base (aget H) v1 us hK
  obtain ⟨nn, F, ns, ks, cargs, Hc, fr, v0, H', fr', hns, hη, hargs, hblk, hfr, hrun, hks, hks8, hkfr, hv, hnd, hus, hall⟩ := D
  obtain ⟨fn, body, hf, hb, hrunF⟩ := run1_some hrun
  obtain ⟨G, hG⟩ : ∃ G, G = P.globals.size := ⟨_, rfl⟩
  rw [← hG] at hargs hblk hfr hv hus hall
  -- the callee's names
  obtain ⟨σc, hσc⟩ : ∃ σc, σc = sigC G ns σ := ⟨_, rfl⟩
  have c1 : ∀ k, k < G → σc k = σ k := fun k hk => by rw [hσc]; unfold sigC; rw [if_pos hk]
  have c2 : ∀ i n, ns[i]? = some n → σc (G + i) = σ n := fun i n hi => by rw [hσc]; exact sigC_at hi
  have hin : Keeps2 (fun n k => ρ0 G ns k n) σ σc := fun n k hk p hp => by
    rcases hk with ⟨a, rfl⟩ | ⟨i, rfl, hi⟩
    · rw [c1 _ a]; exact hp
    · rw [c2 i n hi]; exact hp
  have hgc : GRel P σc := fun g hgl => by
    obtain ⟨sz, hs⟩ := hg g hgl
    exact ⟨sz, by rw [c1 g (by omega)]; exact hs⟩
  have hfrc : Fresh σc fr := fun m hm' => by
    rw [hσc]
    unfold sigC
    rw [if_neg (by omega), List.getElem?_eq_none (by omega)]
  have hlc : LR σc cargs args' := ⟨hargs.1.trans hl.1, fun i u u' h1 h2 => by
    obtain ⟨y, hy⟩ := partner hargs.1.symm h1
    exact (hargs.2 i u y h1 hy).vr' hin (hl.2 i y u' hy h2)⟩
  have hdef : ∀ n, n ∈ ns → ∃ p, σ n = some p := fun n hn => by
    obtain ⟨o, ho⟩ := hη n hn
    obtain ⟨p, hp, _⟩ := hH.obj n o ho
    exact ⟨p, hp⟩
  have hHc : HRel σc (aget Hc) w := by
    refine ⟨fun k o hk => ?_, fun k k' o o' q q' h1 h2 hq hq' he => ?_⟩
    · obtain ⟨i, n, o', rfl, hi, ho', hro⟩ := hblk k o hk
      obtain ⟨p, hp, hor⟩ := hH.obj n o' ho'
      exact ⟨p, by rw [c2 i n hi]; exact hp, hro.orel' hin hor⟩
    · obtain ⟨i, n, u, rfl, hi, hu, hro⟩ := hblk k o h1
      obtain ⟨i', n', u', rfl, hi', hu', hro'⟩ := hblk k' o' h2
      rw [c2 i n hi] at hq
      rw [c2 i' n' hi'] at hq'
      rcases hH.inj n n' u u' q q' hu hu' hq hq' he with e | ⟨e1, e2⟩
      · subst e
        exact .inl (by rw [inj_of_nodup hns hi hi'])
      · exact .inr ⟨by rw [hro.ro]; exact e1, by rw [hro'.ro]; exact e2⟩
  refine (runF_ok hcs hm hf hb hrunF hlc hHc hgc hfrc).mono fun r w' hrw => ?_
  obtain ⟨σ', v', rfl, g1, g2, g3, g4⟩ := hrw
  -- the caller's names behind the call
  obtain ⟨σ2, hσ2⟩ : ∃ σ2 : Sig, σ2 = fun m => if base ≤ m ∧ m < base + 8 then (match ks[m - base]? with | some k => σ' k | none => none) else σ m := ⟨_, rfl⟩
  have s1 : ∀ j k, ks[j]? = some k → σ2 (base + j) = σ' k := fun j k hj => by
    have : j < ks.length := (List.getElem?_eq_some_iff.1 hj).1
    rw [hσ2]
    show (if base ≤ base + j ∧ base + j < base + 8 then _ else _) = _
    rw [if_pos (by omega), Nat.add_sub_cancel_left, hj]
  have s2 : ∀ m, (m < base ∨ base + 8 ≤ m) → σ2 m = σ m := fun m hm' => by
    rw [hσ2]
    show (if base ≤ m ∧ m < base + 8 then _ else _) = _
    rw [if_neg (by omega)]
  have hfr0 : ∀ m p, σ m = some p → m < base ∨ base + 8 ≤ m := fun m p hp => by
    by_cases c : base ≤ m ∧ m < base + 8
    · have := hfree (m - base) (by omega)
      rw [show base + (m - base) = m by omega, hp] at this
      cases this
    · omega
  have s3 : ∀ m p, σ m = some p → σ2 m = some p := fun m p hp => by rw [s2 m (hfr0 m p hp)]; exact hp
  have hout0 : ∀ k n, ρ0 G ns k n → σ' k = σ2 n := fun k n hk => by
    rcases hk with ⟨a, rfl⟩ | ⟨i, rfl, hi⟩
    · obtain ⟨sz, hs⟩ := hg n (by omega)
      rw [s3 _ _ hs]
      exact g3.ext _ _ (by rw [c1 _ a]; exact hs)
    · obtain ⟨p, hp⟩ := hdef n (List.mem_of_getElem? hi)
      rw [s3 _ _ hp]
      exact g3.ext _ _ (by rw [c2 i n hi]; exact hp)
  have hout : Keeps2 (ρ1 G ns ks base) σ' σ2 := fun k n hk p hp => by
    rcases hk with hk | ⟨j, hj, rfl⟩
    · rw [← hout0 k n hk]; exact hp
    · rw [s1 j k hj]; exact hp
  -- what the callee may write, the caller may
  have hown : ∀ b, Own σc (aget Hc) b → ∃ i n o p, ns[i]? = some n ∧ (∃ x, (n, x) ∈ us) ∧ aget H n = some o ∧ o.ro = false ∧ σ n = some p ∧ p.blk = b := fun b ⟨k, o, p, a1, a2, a3, a4⟩ => by
    obtain ⟨i, n, o', rfl, hi, ho', hro⟩ := hblk k o a1
    rw [c2 i n hi] at a3
    exact ⟨i, n, o', p, hi, hall i n o hi a1 a2, ho', by rw [← hro.ro]; exact a2, a3, a4⟩
  have hnot : ∀ m o p, aget H m = some o → σ m = some p → (∀ x, (m, x) ∉ us) → ¬ Own σc (aget Hc) p.blk := fun m o p hm' hp hno ho => by
    obtain ⟨i, n, o', p', a1, ⟨x, a2⟩, a3, a4, a5, a6⟩ := hown _ ho
    rcases hH.inj m n o o' p p' hm' a3 hp a5 a6.symm with e | ⟨_, e⟩
    · subst e; exact hno x a2
    · rw [a4] at e; cases e
  -- the blocks behind the call
  have key : ∀ m x, (m, some x) ∈ us → ∃ k o p, aget H' k = some o ∧ o.ro = false ∧ x.ro = false ∧ σ' k = some p ∧ σ2 m = some p ∧ RO (ρ1 G ns ks base) o x ∧ ρ1 G ns ks base k m := fun m x hx => by
    rcases hus m _ hx with ⟨i, hi, h1⟩ | ⟨j, k, o, o', rfl, hj, e, a1, a2, a3⟩
    · rcases h1 with h1 | ⟨o, o', e, a1, a2, a3⟩
      · cases h1
      · cases e
        obtain ⟨p, hp, _⟩ := g2.obj _ o a1
        have h0 : ρ0 G ns (G + i) m := .inr ⟨i, rfl, hi⟩
        exact ⟨_, o, p, a1, a2, by rw [← a3.ro]; exact a2, hp, by rw [← hout0 _ _ h0]; exact hp, a3, .inl h0⟩
    · cases e
      obtain ⟨p, hp, _⟩ := g2.obj _ o a1
      exact ⟨k, o, p, a1, a2, by rw [← a3.ro]; exact a2, hp, by rw [s1 j k hj]; exact hp, a3, .inr ⟨j, hj, rfl⟩⟩
  have parts : ∀ m o, aget (appU H us) m = some o → ((m, some o) ∈ us) ∨ ((∀ x, (m, x) ∉ us) ∧ aget H m = some o) := fun m o hm' => by
    rcases appU_at (H := H) (m := m) hnd with ⟨x, a, b⟩ | ⟨a, b⟩
    · rw [b] at hm'; subst hm'; exact .inl a
    · rw [b] at hm'; exact .inr ⟨a, hm'⟩
  have names : ∀ m x, (m, some x) ∈ us → ∃ k o p, aget H' k = some o ∧ o.ro = false ∧ σ' k = some p ∧ σ2 m = some p ∧ ((∃ i, k = G + i ∧ ns[i]? = some m) ∨ ∃ j, ks[j]? = some k ∧ m = base + j) := fun m x hx => by
    rcases hus m _ hx with ⟨i, hi, h1⟩ | ⟨j, k, o, o', rfl, hj, e, a1, a2, a3⟩
    · rcases h1 with h1 | ⟨o, o', e, a1, a2, a3⟩
      · cases h1
      · cases e
        obtain ⟨p, hp, _⟩ := g2.obj _ o a1
        have h0 : ρ0 G ns (G + i) m := .inr ⟨i, rfl, hi⟩
        exact ⟨_, o, p, a1, a2, hp, by rw [← hout0 _ _ h0]; exact hp, .inl ⟨i, rfl, hi⟩⟩
    · obtain ⟨p, hp, _⟩ := g2.obj _ o a1
      exact ⟨k, o, p, a1, a2, hp, by rw [s1 j k hj]; exact hp, .inr ⟨j, hj, rfl⟩⟩
  have final : HRel σ2 (aget (appU H us)) w' := by
    refine ⟨fun m o hm' => ?_, fun m m' o o' q q' h1 h2 hq hq' he => ?_⟩
    · rcases parts m o hm' with hx | ⟨hno, ho⟩
      · obtain ⟨k, u, p, a1, a2, a3, a4, a5, a6, a7⟩ := key m o hx
        obtain ⟨p', hp', hor⟩ := g2.obj k u a1
        rw [a4] at hp'
        cases hp'
        exact ⟨p, a5, a6.orel hout hor⟩
      · obtain ⟨p, hp, hor⟩ := hH.obj m o ho
        have hsame := (g3.old p.blk hor.lt (hnot m o p ho hp hno)).1
        exact ⟨p, s3 m p hp, hor.mono (fun n q hq => s3 n q hq) hsame⟩
    · rcases parts m o h1 with hx | ⟨hno, ho⟩ <;> rcases parts m' o' h2 with hx' | ⟨hno', ho'⟩
      · obtain ⟨k, u, p, a1, a2, a4, a5, a7⟩ := names m o hx
        obtain ⟨k', u', p', b1, b2, b4, b5, b7⟩ := names m' o' hx'
        have eq1 := Option.some.inj (a5.symm.trans hq)
        subst eq1
        have eq2 := Option.some.inj (b5.symm.trans hq')
        subst eq2
        rcases g2.inj k k' u u' p p' a1 b1 a4 b4 he with e | ⟨e, _⟩
        · subst e
          left
          rcases a7 with ⟨i, e1, i1⟩ | ⟨j, j1, rfl⟩ <;> rcases b7 with ⟨i', e1', i1'⟩ | ⟨j', j1', rfl⟩
          · have : i = i' := by omega
            subst this
            rw [i1] at i1'
            cases i1'; rfl
          · have h3 := hkfr k (List.mem_of_getElem? j1')
            have h4 := (List.getElem?_eq_some_iff.1 i1).1
            omega
          · have h3 := hkfr k (List.mem_of_getElem? j1)
            have h4 := (List.getElem?_eq_some_iff.1 i1').1
            omega
          · rw [inj_of_nodup hks j1 j1']
        · rw [a2] at e; cases e
      · obtain ⟨k, u, p, a1, a2, a4, a5, a7⟩ := names m o hx
        have eq1 := Option.some.inj (a5.symm.trans hq)
        subst eq1
        obtain ⟨p', hp', hor⟩ := hH.obj m' o' ho'
        have eq2 := Option.some.inj ((s3 m' p' hp').symm.trans hq')
        subst eq2
        exact absurd ⟨k, u, p, a1, a2, a4, he⟩ (g3.old p'.blk hor.lt (hnot m' o' p' ho' hp' hno')).2
      · obtain ⟨k, u, p, a1, a2, a4, a5, a7⟩ := names m' o' hx'
        have eq1 := Option.some.inj (a5.symm.trans hq')
        subst eq1
        obtain ⟨p', hp', hor⟩ := hH.obj m o ho
        have eq2 := Option.some.inj ((s3 m p' hp').symm.trans hq)
        subst eq2
        exact absurd ⟨k, u, p, a1, a2, a4, he.symm⟩ (g3.old p'.blk hor.lt (hnot m o p' ho hp' hno)).2
      · obtain ⟨p, hp, _⟩ := hH.obj m o ho
        obtain ⟨p', hp', _⟩ := hH.obj m' o' ho'
        have eq1 := Option.some.inj ((s3 m p hp).symm.trans hq)
        have eq2 := Option.some.inj ((s3 m' p' hp').symm.trans hq')
        subst eq1
        subst eq2
        exact hH.inj m m' o o' p p' ho ho' hp hp' he
  have hown2 : ∀ b, ¬ Own σ (aget H) b → ¬ Own σc (aget Hc) b := fun b hb ho => by
    obtain ⟨i, n, o, p, a1, a2, a3, a4, a5, a6⟩ := hown b ho
    exact hb ⟨n, o, p, a3, a4, a5, a6⟩
  refine ⟨σ2, v', rfl, hv.vr hout g1, final, ⟨fun n p hp => s3 n p hp, g3.size, g3.os, g3.output, g3.tape, fun b hb hno => ?_⟩, fun n hn => s2 n hn⟩
  obtain ⟨e1, e2⟩ := g3.old b hb (hown2 b hno)
  refine ⟨e1, fun ⟨m, o, p, a1, a2, a3, a4⟩ => ?_⟩
  rcases parts m o a1 with hx | ⟨hno', ho⟩
  · obtain ⟨k, u, q, b1, b2, b4, b5, _⟩ := names m o hx
    have eq1 := Option.some.inj (b5.symm.trans a3)
    subst eq1
    exact e2 ⟨k, u, q, b1, b2, b4, a4⟩
  · obtain ⟨q, hq, _⟩ := hH.obj m o ho
    have eq1 := Option.some.inj ((s3 m q hq).symm.trans a3)
    subst eq1
    exact hno ⟨m, o, q, ho, a2, hq, a4⟩
end Go.Eng

/- A builder's own check, walked; and its text. -/
namespace Go.Proofs.Ytifohjjmbohhnaa.Bld
set_option linter.unusedVariables false
set_option linter.unusedSimpArgs false
open Go Go.Eng
set_option maxRecDepth 100000
set_option maxHeartbeats 2000000
set_option linter.unusedSimpArgs false
set_option linter.unusedVariables false
theorem sizeB : (Try.prog.info? 66).map (·.size) = some 2 := by kernel_rfl
theorem liesB : liesAt Try.prog Try.prog.depth 66 (2 / Try.prog.cellsOf 66) 0 66 1 = true := by kernel_rfl
theorem used (b : Nat) (w : World) (h0 : w.cell? ⟨b, 0, none⟩ = some (.pointer (some ⟨b, 0, none⟩))) :
    Calls Try.prog 46 #[.pointer (some ⟨b, 0, none⟩)] w fun e w' => e = .returned (.tuple #[]) ∧ w' = w := by
  obtain ⟨j, hj, _⟩ := Option.map_eq_some_iff.1 sizeB
  go_enter Try.func46, Try.ntmps46
  go_wp2
  rw [Lib.run_neq_ptr_same w _ Try.underlying64 hj]
  go_wp2
  go_end0
  exact ⟨rfl, rfl⟩
theorem fresh (b : Nat) (w : World) (h0 : w.cell? ⟨b, 0, none⟩ = some (.pointer none)) (hsh : w.shape? b = some (66, 2)) (hfz : w.frozen? ⟨b, 0, none⟩ = false) :
    Calls Try.prog 46 #[.pointer (some ⟨b, 0, none⟩)] w fun e w' => e = .returned (.tuple #[]) ∧ w' = w.setCell ⟨b, 0, none⟩ (.pointer (some ⟨b, 0, none⟩)) := by
  obtain ⟨j, hj, hjs⟩ := Option.map_eq_some_iff.1 sizeB
  have t89 : Try.prog.underlying 89 = some .unsafePointer := by kernel_rfl
  go_enter Try.func46, Try.ntmps46
  go_wp2
  rw [Lib.run_to_unsafe w ⟨b, 0, none⟩ Try.underlying64 t89 hj (by rw [hjs]; decide) hsh (Nat.zero_lt_succ 1)]
  simp only [Result.andThen]
  rw [Oper.upon_value]
  go_wp2
  rw [run_callFunc_extern Try.func48 (by kernel_rfl) (by kernel_rfl) (by kernel_rfl) (e := Extern.AbiNoEscape.same) (by kernel_rfl)]
  rw [Lib.run_noEscape]
  simp only [Result.andThen]
  rw [Oper.upon_value]
  go_wp2
  rw [Lib.run_from_unsafe w ⟨b, 0, none⟩ t89 Try.underlying64 hj hsh liesB]
  simp only [Result.andThen]
  rw [Oper.upon_value]
  go_wp2
  go_end0
  exact ⟨rfl, rfl⟩
end Go.Proofs.Ytifohjjmbohhnaa.Bld

/- What append does with a row of one's own, and where its result lies. -/
namespace Go.Bld
set_option linter.unusedVariables false
set_option linter.unusedSimpArgs false
open Go
variable {P : Program}
/-- In the row that it lay in, or in a new one. -/
def Lies (w : World) (v v' : Value) : Prop := ∀ g, v'.ownBlock = some g → v.ownBlock = some g ∨ w.heap.size ≤ g
theorem lies_string (w : World) (t u ty e : TypeId) (i : TypeInfo) (ht : P.underlying t = some (.slice e)) (hu : P.underlying u = some .string) (hi : P.info? e = some i) (hz : i.zero = some (.int .u8 0)) (hsize : i.size = 1) (hby : i.bytes = 1)
    (base : Nat) (v : Value) (n : Nat) (xs : List Value) (hown : w.ownsRow base e 1 v n xs) (s : ByteArray) (h63 : n + s.size ≤ maxLen) (hbytes : n + s.size ≤ 140737488355328) {v' : Value} {w' : World}
    (hr : (Builtin.append_ #[t, u] ty #[v, .string s]).run P w = .ok v' w') : Lies w v v' := by
  intro g' hg'
  have h1 : n + s.size ≤ 9223372036854775807 := by simp only [maxLen] at h63; omega
  rcases hown.2 with ⟨rfl, rfl⟩ | ⟨g, cap, cur, rfl, hbg, hg, hnc, hcm, hcs, htake⟩
  · have hnil : w.ownsRow w.heap.size e 1 (.slice none 0 0) 0 xs := ⟨hown.1, .inl ⟨rfl, rfl⟩⟩
    obtain ⟨v2, w2, hr2, hown2, _, _⟩ := Lib.run_append_own_string (P := P) w w.heap.size t u ty e i ht hu hi hz hsize hby _ 0 xs hnil s h63 hbytes (Nat.le_refl _)
    rw [hr] at hr2
    cases hr2
    rcases hown2.2 with ⟨rfl, _⟩ | ⟨g2, c2, cur2, rfl, hb2, _⟩
    · cases hg'
    · cases hg'
      exact .inr hb2
  · by_cases hroom : n + s.size ≤ cap
    · have hcs' : cur.size = cap := by simpa using hcs
      have hr2 := Lib.run_append_room_string (P := P) w t u ty e i ht hu hi hsize g n cap cur hg s hroom (by omega)
      rw [hr] at hr2
      cases hr2
      exact .inl hg'
    · have holds : ∀ j u, xs[j]? = some u → w.cell? ((⟨g, 0, none⟩ : Addr).add j) = some u := hown.cells (g := g) rfl
      have hxl : xs.length = n := by simpa using hown.1
      have hr2 := Lib.run_append_grow_string (P := P) w t u ty e i (.int .u8 0) ht hu hi hz ⟨g, 0, none⟩ n cap xs (by rw [hsize]; simpa using hxl) holds s (by omega) (by omega) (by rw [hby]; exact growslice_fits (by omega) (by omega))
      rw [hr] at hr2
      cases hr2
      cases hg'
      exact .inr (Nat.le_refl _)
theorem lies_row (w : World) (t ty e : TypeId) (i : TypeInfo) (ht : P.underlying t = some (.slice e)) (hi : P.info? e = some i) (hz : i.zero = some (.int .u8 0)) (hsize : i.size = 1) (hby : i.bytes = 1)
    (base : Nat) (v : Value) (n : Nat) (xs : List Value) (hown : w.ownsRow base e 1 v n xs) (ad : Addr) (m c : Nat) (news : List Value) (hl : news.length = m) (hnews : ∀ j u, news[j]? = some u → w.cell? (ad.add j) = some u) (hone : ∀ u ∈ news, u.oneCell' = true)
    (h63 : n + m ≤ maxLen) (hbytes : n + m ≤ 140737488355328) {v' : Value} {w' : World} (hr : (Builtin.append_ #[t, t] ty #[v, .slice (some ad) m c]).run P w = .ok v' w') : Lies w v v' := by
  intro g' hg'
  have h1 : n + m ≤ 9223372036854775807 := by simp only [maxLen] at h63; omega
  rcases hown.2 with ⟨rfl, rfl⟩ | ⟨g, cap, cur, rfl, hbg, hg, hnc, hcm, hcs, htake⟩
  · have hnil : w.ownsRow w.heap.size e 1 (.slice none 0 0) 0 xs := ⟨hown.1, .inl ⟨rfl, rfl⟩⟩
    obtain ⟨v2, w2, hr2, hown2, _, _⟩ := run_append_own (P := P) w w.heap.size t ty e i (.int .u8 0) 1 1 ht hi hz hsize hby rfl (by decide) _ 0 xs hnil ad m c news (by omega) hnews hone h63 (by omega) (Nat.le_refl _)
    rw [hr] at hr2
    cases hr2
    rcases hown2.2 with ⟨rfl, _⟩ | ⟨g2, c2, cur2, rfl, hb2, _⟩
    · cases hg'
    · cases hg'
      exact .inr hb2
  · by_cases hroom : n + m ≤ cap
    · have hcs' : cur.size = cap := by simpa using hcs
      have hr2 := run_append_room (P := P) w t ty e i ht hi g n cap cur hg ad m c news (by rw [hsize]; omega) hnews hone hroom (by rw [hsize]; omega)
      rw [hr] at hr2
      cases hr2
      exact .inl hg'
    · have holds : ∀ j u, xs[j]? = some u → w.cell? ((⟨g, 0, none⟩ : Addr).add j) = some u := hown.cells (g := g) rfl
      have hxl : xs.length = n := by simpa using hown.1
      have hr2 := run_append_grow (P := P) w t ty e i (.int .u8 0) ht hi hz ⟨g, 0, none⟩ n cap xs (by rw [hsize]; simpa using hxl) holds ad m c news (by rw [hsize]; omega) hnews (by omega) (by omega) (by rw [hby]; exact growslice_fits (by omega) (by omega))
      rw [hr] at hr2
      cases hr2
      cases hg'
      exact .inr (Nat.le_refl _)
/-- The operation, for the walk: texts. -/
theorem wp_string {ops : Array Oper} {rest : List Oper} {o : Oper} {a : Act} {Q : Exit → Act → World → Prop} {w : World} (hgd : o.guard = none) (sl x : Operand) (t u : TypeId)
    (ho : o.op = .call { callee := .builtin .append, args := #[sl, x], argTypes := #[t, u] })
    (base : Nat) (e : TypeId) (i : TypeInfo) (ht : P.underlying t = some (.slice e)) (hu : P.underlying u = some .string) (hi : P.info? e = some i) (hz : i.zero = some (.int .u8 0)) (hsize : i.size = 1) (hby : i.bytes = 1)
    (v : Value) (n : Nat) (xs : List Value) (hs : a.eval sl = v) (hown : w.ownsRow base e 1 v n xs) (s : ByteArray) (hx : a.eval x = .string s) (h63 : n + s.size ≤ maxLen) (hbytes : n + s.size ≤ 140737488355328) (hbase : base ≤ w.heap.size)
    (h : ∀ v' w', w'.ownsRow base e 1 v' (n + s.size) (xs ++ Lib.strCells s) → w.grownBy w' v.ownBlock → Lies w v v' → (v = .slice none 0 0 → s.size = 0 → v' = .slice none 0 0) → wpList P ops Q rest (a.put o.dst v') w') : wpList P ops Q (o :: rest) a w := by
  refine wpList_plain hgd fun K hK => ?_
  obtain ⟨v', w', hr, h2, h3, h4⟩ := Lib.run_append_own_string (P := P) w base t u o.type e i ht hu hi hz hsize hby v n xs hown s h63 hbytes hbase
  unfold Oper.wp execOp
  simp only [ho, resolve, invoke, builtin, Sem.run_bind, Sem.run_pure, Result.andThen_ok, List.map_toArray, List.map_cons, List.map_nil, hs, hx, hr]
  exact hK _ _ (h v' w' h2 h3 (lies_string w t u o.type e i ht hu hi hz hsize hby base v n xs hown s h63 hbytes hr) fun e1 e2 => h4.2 ⟨e1, e2⟩)
/-- And rows. -/
theorem wp_row {ops : Array Oper} {rest : List Oper} {o : Oper} {a : Act} {Q : Exit → Act → World → Prop} {w : World} (hgd : o.guard = none) (sl x : Operand) (t : TypeId)
    (ho : o.op = .call { callee := .builtin .append, args := #[sl, x], argTypes := #[t, t] })
    (base : Nat) (e : TypeId) (i : TypeInfo) (ht : P.underlying t = some (.slice e)) (hi : P.info? e = some i) (hz : i.zero = some (.int .u8 0)) (hsize : i.size = 1) (hby : i.bytes = 1)
    (v : Value) (n : Nat) (xs : List Value) (hs : a.eval sl = v) (hown : w.ownsRow base e 1 v n xs) (ad : Addr) (m c : Nat) (news : List Value) (hx : a.eval x = .slice (some ad) m c) (hl : news.length = m) (hnews : ∀ j u, news[j]? = some u → w.cell? (ad.add j) = some u) (hone : ∀ u ∈ news, u.oneCell' = true)
    (h63 : n + m ≤ maxLen) (hbytes : n + m ≤ 140737488355328) (hbase : base ≤ w.heap.size)
    (h : ∀ v' w', w'.ownsRow base e 1 v' (n + m) (xs ++ news) → w.grownBy w' v.ownBlock → Lies w v v' → (v = .slice none 0 0 → m = 0 → v' = .slice none 0 0) → wpList P ops Q rest (a.put o.dst v') w') : wpList P ops Q (o :: rest) a w := by
  refine wpList_plain hgd fun K hK => ?_
  obtain ⟨v', w', hr, h2, h3, h4⟩ := run_append_own (P := P) w base t o.type e i (.int .u8 0) 1 1 ht hi hz hsize hby rfl (by decide) v n xs hown ad m c news (by omega) hnews hone h63 (by omega) hbase
  unfold Oper.wp execOp
  simp only [ho, resolve, invoke, builtin, Sem.run_bind, Sem.run_pure, Result.andThen_ok, List.map_toArray, List.map_cons, List.map_nil, hs, hx, hr]
  exact hK _ _ (h v' w' h2 h3 (lies_row w t o.type e i ht hi hz hsize hby base v n xs hown ad m c news hl hnews hone h63 hbytes hr) fun e1 e2 => h4.2 ⟨e1, e2⟩)
end Go.Bld
