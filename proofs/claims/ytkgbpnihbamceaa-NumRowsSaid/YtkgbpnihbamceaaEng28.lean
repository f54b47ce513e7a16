/- Engine, part 28: calls that hand back a new block and look at no globals. -/
import Derived.Test.YtkgbpnihbamceaaEng27
import Derived.Test.YtkgbpnihbamceaaEng24
namespace Go.Eng
set_option linter.unusedVariables false
set_option linter.unusedSimpArgs false
open Go
def viewN0 (P : Program) (cs : CS) (nn F : Nat) (f : FuncId) (ns : List Nat) (cargs : List AVal) : EffA :=
  .eff fun base η => match objsA η ns P.globals.size with
    | none => none
    | some Ho => match run1 P cs nn F f cargs (Ho) (P.globals.size + ns.length) with
      | none => none
      | some (v, H', _) => match backA η H' ns P.globals.size with
        | none => none
        | some us => match newN v with
          | none => none
          | some k => match aget H' k with
            | some (.cells false c) => match renV k 0 v with
              | none => none
              | some v1 => match renV 0 base v1 with
                | none => none
                | some v2 => cond (ltV 1 v1 && ltL 0 c && nodupB ns && Nat.ble (P.globals.size + ns.length) k) (some (v2, us ++ [(base, some (.cells false c))])) none
            | _ => none
theorem callOk_viewN0 {P : Program} {cs : CS} (hcs : CSOk P cs) (hm : P.follows .mixedOrders = true) {nn F : Nat} {f : FuncId} {args cargs : List AVal} {ns : List Nat} (hcan : canL P.globals.size [] args = some (cargs, ns)) : CallOk P f args (viewN0 P cs nn F f ns cargs) := by
  intro σ args' H w base v0 H0 hl hg hH happ hfree
  simp only [viewN0, EffA.app] at happ
  cases hobj : objsA (aget H) ns P.globals.size with
  | none => rw [hobj] at happ; cases happ
  | some Ho =>
  rw [hobj] at happ
  simp only at happ
  cases hrun : run1 P cs nn F f cargs (Ho) (P.globals.size + ns.length) with
  | none => rw [hrun] at happ; cases happ
  | some r =>
  obtain ⟨v, H', fr'⟩ := r
  rw [hrun] at happ
  simp only at happ
  cases hback : backA (aget H) H' ns P.globals.size with
  | none => rw [hback] at happ; cases happ
  | some us =>
  rw [hback] at happ
  simp only at happ
  cases hnew : newN v with
  | none => rw [hnew] at happ; cases happ
  | some k =>
  rw [hnew] at happ
  simp only at happ
  cases hblk : aget H' k with
  | none => rw [hblk] at happ; cases happ
  | some obk =>
  obtain ⟨rok, ck⟩ := obk
  cases rok with
  | true => rw [hblk] at happ; cases happ
  | false =>
  rw [hblk] at happ
  simp only at happ
  cases hr0 : renV k 0 v with
  | none => rw [hr0] at happ; cases happ
  | some v1 =>
  rw [hr0] at happ
  simp only at happ
  cases hr1 : renV 0 base v1 with
  | none => rw [hr1] at happ; cases happ
  | some v2 =>
  rw [hr1] at happ
  simp only at happ
  cases hcond : (ltV 1 v1 && ltL 0 ck && nodupB ns && Nat.ble (P.globals.size + ns.length) k) with
  | false => rw [hcond] at happ; cases happ
  | true =>
  rw [hcond] at happ
  simp only [cond_true, Option.some.injEq, Prod.mk.injEq] at happ
  obtain ⟨rfl, rfl⟩ := happ
  simp only [Bool.and_eq_true] at hcond
  obtain ⟨⟨⟨hv1, hck⟩, hnd⟩, hkk⟩ := hcond
  have hkk := Nat.le_of_ble_eq_true hkk
  have hnd := nodupB_ok hnd
  obtain ⟨fn, body, hf, hb, hrunF⟩ := run1_some hrun
  obtain ⟨u1, u2⟩ := backA_mem hback
  have husome : ∀ m x, (m, x) ∈ us → x.isSome = true := fun m x hx => by
    obtain ⟨c, i, c0, e, _⟩ := u1 m x hx
    rw [e]; rfl
  -- what the callee sees
  have heap : ∀ m o, aget (Ho) m = some o → ∃ n ro c, aget H n = some o ∧ o = .cells ro c ∧ ltL 0 c = true ∧ sigC P.globals.size ns σ m = σ n ∧ ((m < P.globals.size ∧ n = m ∧ ro = true) ∨ ∃ i, m = P.globals.size + i ∧ ns[i]? = some n) := fun m o hmo => by
    obtain ⟨a1, n, a2, a3, ro, c, a4, a5⟩ := objsA_get hobj m o hmo
    have e : m = P.globals.size + (m - P.globals.size) := by omega
    refine ⟨n, ro, c, a3, a4, a5, ?_, .inr ⟨m - P.globals.size, e, a2⟩⟩
    rw [e]
    exact sigC_at a2
  have hgc : GRel P (sigC P.globals.size ns σ) := fun g hgl => by
    obtain ⟨sz, hs⟩ := hg g hgl
    exact ⟨sz, by unfold sigC; rw [if_pos hgl]; exact hs⟩
  have hfr : Fresh (sigC P.globals.size ns σ) (P.globals.size + ns.length) := fun m hm' => by
    unfold sigC
    rw [if_neg (by omega), List.getElem?_eq_none (by omega)]
  obtain ⟨_, hlen, hcv⟩ := canL_ok hcan
  have hlc : LR (sigC P.globals.size ns σ) cargs args' := by
    refine ⟨by rw [hlen]; exact hl.1, fun i u u' h1 h2 => ?_⟩
    have := hcv [] σ i u u' h1 fun x hx => hl.2 i x u' hx h2
    rwa [List.append_nil] at this
  have hHc : HRel (sigC P.globals.size ns σ) (aget (Ho)) w := by
    refine ⟨fun m o hmo => ?_, fun m m' o o' q q' h1 h2 hq hq' he => ?_⟩
    · obtain ⟨n, ro, c, a1, rfl, a3, a4, _⟩ := heap m o hmo
      obtain ⟨p, hp, hor⟩ := hH.obj n _ a1
      exact ⟨p, by rw [a4]; exact hp, hor.plain a3⟩
    · obtain ⟨n, ro, c, a1, rfl, a3, a4, a5⟩ := heap m o h1
      obtain ⟨n', ro', c', b1, rfl, b3, b4, b5⟩ := heap m' o' h2
      rw [a4] at hq
      rw [b4] at hq'
      rcases hH.inj n n' _ _ q q' a1 b1 hq hq' he with e | e
      · subst e
        rw [a1] at b1
        cases b1
        rcases a5 with ⟨x1, x2, x3⟩ | ⟨i, x1, x2⟩ <;> rcases b5 with ⟨y1, y2, y3⟩ | ⟨j, y1, y2⟩
        · exact .inl (by omega)
        · subst x3; exact .inr ⟨rfl, rfl⟩
        · subst y3; exact .inr ⟨rfl, rfl⟩
        · left
          have h3 := (List.getElem?_eq_some_iff.1 x2)
          have h4 := (List.getElem?_eq_some_iff.1 y2)
          obtain ⟨hi, ei⟩ := h3
          obtain ⟨hj, ej⟩ := h4
          have : i = j := (List.getElem_inj hnd).1 (ei.trans ej.symm)
          omega
      · exact .inr e
  refine (runF_ok hcs hm hf hb hrunF hlc hHc hgc hfr).mono fun r w' hrw => ?_
  obtain ⟨σ', v', rfl, g1, g2, g3, g4⟩ := hrw
  -- what the callee may write, the caller may
  have hown : ∀ b, Own (sigC P.globals.size ns σ) (aget (Ho)) b → ∃ n c p, n ∈ ns ∧ aget H n = some (.cells false c) ∧ σ n = some p ∧ p.blk = b := fun b ⟨m, o, p, a1, a2, a3, a4⟩ => by
    obtain ⟨n, ro, c, b1, rfl, b3, b4, b5⟩ := heap m o a1
    have hro : ro = false := a2
    subst hro
    rw [b4] at a3
    rcases b5 with ⟨_, _, x⟩ | ⟨i, _, x⟩
    · cases x
    · exact ⟨n, c, p, List.mem_of_getElem? x, b1, a3, a4⟩
  have hold : ∀ b, b < w.heap.size → (∀ n c p, n ∈ ns → aget H n = some (.cells false c) → σ n = some p → p.blk ≠ b) → w'.heap[b]? = w.heap[b]? := fun b hb hne =>
    (g3.old b hb fun ho => by
      obtain ⟨n, c, p, a1, a2, a3, a4⟩ := hown b ho
      exact hne n c p a1 a2 a3 a4).1
  have orig : ∀ m ob, aget (appU H us) m = some ob → ∃ ob0, aget H m = some ob0 ∧ ob0.ro = ob.ro := fun m ob hmo => by
    rcases appU_get husome (H := H) m with ⟨o, a1, a2⟩ | ⟨_, a2⟩
    · obtain ⟨c, i, c0, e1, _, _, _, e5⟩ := u1 m _ a1
      rw [hmo] at a2
      cases a2
      cases e1
      exact ⟨_, e5, rfl⟩
    · exact ⟨ob, by rw [← a2]; exact hmo, rfl⟩
  have hbn : σ base = none := hfree 0 (by omega)
  obtain ⟨pk, hpk, hork⟩ := g2.obj k _ hblk
  have ownk : Own σ' (aget H') pk.blk := ⟨k, _, pk, hblk, rfl, hpk, rfl⟩
  -- the new block is none of the caller's
  have fresh : ∀ m ob q, aget H m = some ob → σ m = some q → q.blk ≠ pk.blk := fun m ob q hmo hq he => by
    obtain ⟨q', hq', hor⟩ := hH.obj m ob hmo
    rw [hq] at hq'; cases hq'
    by_cases hin : ∃ c, m ∈ ns ∧ ob = .cells false c
    · obtain ⟨c, h1, rfl⟩ := hin
      obtain ⟨x, hx⟩ := u2 m c h1 hmo
      obtain ⟨c1, i, c0, e1, e2, e3, e4, e5⟩ := u1 m x hx
      have hq2 : σ' (P.globals.size + i) = some q := g3.ext _ _ (by rw [sigC_at e3]; exact hq)
      rcases g2.inj _ _ _ _ _ _ e4 hblk hq2 hpk he with e | ⟨e, _⟩
      · have := (List.getElem?_eq_some_iff.1 e3).1
        omega
      · cases e
    · refine (g3.old q.blk hor.lt fun ho => ?_).2 (he ▸ ownk)
      obtain ⟨n, c, p, a1, a2, a3, a4⟩ := hown _ ho
      rcases hH.inj n m _ ob p q a2 hmo a3 hq a4 with e | ⟨e, _⟩
      · subst e
        rw [a2] at hmo
        cases hmo
        exact hin ⟨c, a1, rfl⟩
      · cases e
  have hbase : aget (appU H us) base = none := by
    cases hb : aget (appU H us) base with
    | none => rfl
    | some ob =>
      obtain ⟨ob0, h1, _⟩ := orig base ob hb
      obtain ⟨p, hp, _⟩ := hH.obj base ob0 h1
      rw [hbn] at hp; cases hp
  have app : ∀ m, aget (appU H (us ++ [(base, some (.cells false ck))])) m = if base = m then some (.cells false ck) else aget (appU H us) m := fun m => by
    rw [appU_append husome]
    simp only [appU]
    rw [aget_aset]
  have vr : VR (σ.set base pk) v2 v' := by
    have h1 := ltV_ok hv1 (renV_ok hr0 g1)
    refine (renV_ok hr1 h1).mono fun n p hp => ?_
    unfold Sig.ren at hp
    split at hp
    · rename_i e
      subst e
      have hp1 := cut_le 1 (Sig.ren k 0 σ') 0 p hp
      have hp2 : σ' k = some p := by simpa [Sig.ren] using hp1
      rw [hpk] at hp2; cases hp2
      exact Sig.set_same σ n _
    · split at hp
      · cases hp
      · rename_i e1 e2
        simp only [Go.Eng.cut] at hp
        rw [if_neg (by omega)] at hp
        cases hp
  have base0 : HRel σ (aget (appU H us)) w' := by
    refine ⟨fun m ob hmo => ?_, fun m1 m2 o1 o2 q1 q2 h1 h2 hq1 hq2 he => ?_⟩
    · rcases appU_get husome (H := H) m with ⟨o, a1, a2⟩ | ⟨a1, a2⟩
      · obtain ⟨c, i, c0, e1, e2, e3, e4, e5⟩ := u1 m _ a1
        rw [hmo] at a2
        cases a2
        cases e1
        obtain ⟨p, hp, _⟩ := hH.obj m _ e5
        refine ⟨p, hp, ?_⟩
        obtain ⟨q, hq, hor⟩ := g2.obj _ _ e4
        have : q = p := Option.some.inj (hq.symm.trans (g3.ext _ _ (by rw [sigC_at e3]; exact hp)))
        subst this
        exact hor.plain e2
      · rw [a2] at hmo
        obtain ⟨p, hp, hor⟩ := hH.obj m ob hmo
        refine ⟨p, hp, hor.mono (Sig.le_refl σ) (hold _ hor.lt fun n c q k1 k2 k3 k4 => ?_)⟩
        rcases hH.inj n m _ ob q p k2 hmo k3 hp k4 with e | ⟨e, _⟩
        · subst e
          obtain ⟨x, hx⟩ := u2 n c k1 k2
          exact a1 x hx
        · cases e
    · obtain ⟨x1, y1, z1⟩ := orig m1 o1 h1
      obtain ⟨x2, y2, z2⟩ := orig m2 o2 h2
      rcases hH.inj m1 m2 x1 x2 q1 q2 y1 y2 hq1 hq2 he with e | ⟨e1, e2⟩
      · exact .inl e
      · exact .inr ⟨z1 ▸ e1, z2 ▸ e2⟩
  refine ⟨σ.set base pk, v', rfl, vr, ⟨fun m ob hmo => ?_, fun m1 m2 o1 o2 q1 q2 h1 h2 hq1 hq2 he => ?_⟩, ⟨Sig.le_set hbn pk, g3.size, g3.os, g3.output, g3.tape, fun b hb hno => ⟨hold b hb fun n c p k1 k2 k3 k4 => hno ⟨n, _, p, k2, rfl, k3, k4⟩, ?_⟩⟩, fun n hn => Sig.set_other σ _ (by omega)⟩
  · rw [app] at hmo
    split at hmo
    · rename_i e
      subst e
      cases hmo
      exact ⟨pk, Sig.set_same σ base pk, hork.plain hck⟩
    · rename_i e
      obtain ⟨p, hp, hor⟩ := base0.obj m ob hmo
      exact ⟨p, by rw [Sig.set_other σ _ (Ne.symm e)]; exact hp, hor.mono (Sig.le_set hbn pk) rfl⟩
  · rw [app] at h1 h2
    split at h1 <;> split at h2
    · rename_i e1 e2; exact .inl (e1.symm.trans e2)
    · rename_i e1 e2
      subst e1
      rw [Sig.set_same] at hq1; cases hq1
      rw [Sig.set_other σ _ (Ne.symm e2)] at hq2
      obtain ⟨x2, y2, _⟩ := orig m2 o2 h2
      exact absurd he.symm (fresh m2 x2 q2 y2 hq2)
    · rename_i e1 e2
      subst e2
      rw [Sig.set_same] at hq2; cases hq2
      rw [Sig.set_other σ _ (Ne.symm e1)] at hq1
      obtain ⟨x1, y1, _⟩ := orig m1 o1 h1
      exact absurd he (fresh m1 x1 q1 y1 hq1)
    · rename_i e1 e2
      rw [Sig.set_other σ _ (Ne.symm e1)] at hq1
      rw [Sig.set_other σ _ (Ne.symm e2)] at hq2
      exact base0.inj m1 m2 o1 o2 q1 q2 h1 h2 hq1 hq2 he
  · rintro ⟨m, o, q, k1, k2, k3, k4⟩
    rw [app] at k1
    split at k1
    · rename_i e
      subst e
      rw [Sig.set_same] at k3; cases k3
      refine (g3.old b hb fun ho => ?_).2 (k4 ▸ ownk)
      obtain ⟨n, c, p, a1, a2, a3, a4⟩ := hown b ho
      exact hno ⟨n, _, p, a2, rfl, a3, a4⟩
    · rename_i e
      rw [Sig.set_other σ _ (Ne.symm e)] at k3
      obtain ⟨x1, y1, z1⟩ := orig m o k1
      exact hno ⟨m, x1, q, y1, by rw [z1]; exact k2, k3, k4⟩

/-- A call of plain data that hands back a slice of a new block. -/
theorem callOk_new {P : Program} {cs : CS} (hcs : CSOk P cs) (hm : P.follows .mixedOrders = true) {nn F : Nat} {f : FuncId} {args : List AVal} {k len esz fr : Nat} {H' : HL} {c : List AVal} (hcan : canL P.globals.size [] args = some (args, []))
    (hrun : run1 P cs nn F f args [] P.globals.size = some (.slice k 0 len esz, H', fr)) (hk : aget H' k = some (.cells false c)) (hc : ltL 0 c = true) (hg : Nat.ble P.globals.size k = true) : CallOk P f args (.alloc (.cells false c) fun b => .slice b 0 len esz) := by
  refine (callOk_viewN0 hcs hm (nn := nn) (F := F) (f := f) hcan).less fun base H r hr => ?_
  simp only [EffA.app, Option.some.injEq] at hr
  subst hr
  have e1 : renV k 0 (.slice k 0 len esz) = some (.slice 0 0 len esz) := by
    simp only [renV, renS, renN, Nat.beq_refl, cond_true]
  have e2 : renV 0 base (.slice 0 0 len esz) = some (.slice base 0 len esz) := by
    simp only [renV, renS, renN, Nat.beq_refl, cond_true]
  have e3 : ltV 1 (.slice 0 0 len esz) = true := rfl
  simp only [viewN0, EffA.app, objsA, List.length_nil, Nat.add_zero, hrun, backA, newN, hk, e1, e2, e3, hc, nodupB, hg, Bool.and_self, cond_true, List.nil_append, appU]
end Go.Eng
namespace Go.Eng
set_option linter.unusedVariables false
set_option linter.unusedSimpArgs false
open Go
/-- The new block that a call hands back. -/
def newR (x : Option (AVal × HL × Nat)) : Option (Nat × Nat × Nat × List AVal) :=
  match x with
  | some (.slice k 0 len esz, H', _) => match aget H' k with
    | some (.cells false c) => some (k, len, esz, c)
    | _ => none
  | _ => none
theorem callOk_new2 {P : Program} {cs : CS} (hcs : CSOk P cs) (hm : P.follows .mixedOrders = true) {nn F : Nat} {f : FuncId} {args : List AVal} {k len esz : Nat} {c : List AVal} (hcan : canL P.globals.size [] args = some (args, []))
    (hrun : newR (run1 P cs nn F f args [] P.globals.size) = some (k, len, esz, c)) (hc : ltL 0 c = true) (hg : Nat.ble P.globals.size k = true) : CallOk P f args (.alloc (.cells false c) fun b => .slice b 0 len esz) := by
  unfold newR at hrun
  split at hrun
  · rename_i k' len' esz' H' fr hr
    split at hrun
    · rename_i c' hk
      simp only [Option.some.injEq, Prod.mk.injEq] at hrun
      obtain ⟨rfl, rfl, rfl, rfl⟩ := hrun
      exact callOk_new hcs hm hcan hr hk hc hg
    · cases hrun
  · cases hrun
end Go.Eng
