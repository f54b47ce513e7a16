/- Engine, part 17: calls that are carried out in place: of plain data; on one block of plain data. -/
import Derived.Test.YtkgbpnihbamceaaEng16
namespace Go.Eng
set_option linter.unusedVariables false
set_option linter.unusedSimpArgs false
open Go

/-- A function of the program, called. -/
def run1 (P : Program) (cs : CS) (nn F : Nat) (f : FuncId) (args : List AVal) (H : HL) (fr : Nat) : Option (AVal × HL × Nat) :=
  match P.funcs[f]? with
  | none => none
  | some fn => match fn.body with
    | none => none
    | some c => runF P cs nn F fn c args H fr
theorem run1_some {P : Program} {cs : CS} {nn F : Nat} {f : FuncId} {args : List AVal} {H : HL} {fr : Nat} {r : AVal × HL × Nat} (h : run1 P cs nn F f args H fr = some r) : ∃ fn c, P.funcs[f]? = some fn ∧ fn.body = some c ∧ runF P cs nn F fn c args H fr = some r := by
  unfold run1 at h
  split at h
  · cases h
  · rename_i fn hf
    split at h
    · cases h
    · rename_i c hb
      exact ⟨fn, c, hf, hb, h⟩

/-- On one block of plain data, which the first argument points to. -/
def blkE (P : Program) (cs : CS) (nn F : Nat) (f : FuncId) (n off : Nat) (rest : List AVal) : EffA :=
  .eff fun _ η => match η n with
    | some (.cells false c) => cond (ltL 0 c) (match run1 P cs nn F f (.ptr P.globals.size off :: rest) [(P.globals.size, .cells false c)] (P.globals.size + 1) with
      | some (v, H', _) => match aget H' P.globals.size with
        | some (.cells false c') => cond (ltV 0 v && ltL 0 c') (some (v, [(n, some (.cells false c'))])) none
        | _ => none
      | none => none) none
    | _ => none

theorem ltL_lr {σ σ' : Sig} {l : List AVal} {l' : Array Value} (h : ltL 0 l = true) (hl : LR σ l l') : LR σ' l l' :=
  (ltL_ok h hl).mono fun n p hp => by simp [cut] at hp

theorem callOk_blk {P : Program} {cs : CS} (hcs : CSOk P cs) (hm : P.follows .mixedOrders = true) {nn F : Nat} {f : FuncId} {n off : Nat} {rest : List AVal} (ha : allV rest = true) : CallOk P f (.ptr n off :: rest) (blkE P cs nn F f n off rest) := by
  intro σ args' H w base v0 H0 hl hg hH happ hfree
  simp only [blkE, EffA.app] at happ
  -- what the effect found
  have hx : ∃ c r v c', aget H n = some (.cells false c) ∧ ltL 0 c = true ∧ run1 P cs nn F f (.ptr P.globals.size off :: rest) [(P.globals.size, .cells false c)] (P.globals.size + 1) = some r ∧ r.1 = v ∧
      aget r.2.1 P.globals.size = some (.cells false c') ∧ ltV 0 v = true ∧ ltL 0 c' = true ∧ v0 = v ∧ H0 = aset H n (.cells false c') := by
    cases hn : aget H n with
    | none => rw [hn] at happ; cases happ
    | some ob =>
      rw [hn] at happ
      cases ob with
      | cells ro c =>
        cases ro with
        | true => cases happ
        | false =>
          simp only at happ
          cases hc : ltL 0 c with
          | false => rw [hc] at happ; cases happ
          | true =>
            rw [hc] at happ
            simp only [cond_true] at happ
            cases hr : run1 P cs nn F f (.ptr P.globals.size off :: rest) [(P.globals.size, .cells false c)] (P.globals.size + 1) with
            | none => rw [hr] at happ; cases happ
            | some r =>
              obtain ⟨v, H', fr'⟩ := r
              rw [hr] at happ
              simp only at happ
              cases ho : aget H' P.globals.size with
              | none => rw [ho] at happ; cases happ
              | some ob' =>
                rw [ho] at happ
                cases ob' with
                | cells ro' c' =>
                  cases ro' with
                  | true => cases happ
                  | false =>
                    simp only at happ
                    cases hv : (ltV 0 v && ltL 0 c') with
                    | false => rw [hv] at happ; cases happ
                    | true =>
                      rw [hv] at happ
                      simp only [cond_true, Option.some.injEq, Prod.mk.injEq] at happ
                      simp only [Bool.and_eq_true] at hv
                      exact ⟨c, _, v, c', rfl, hc, hr, rfl, ho, hv.1, hv.2, happ.1.symm, happ.2.symm⟩
  obtain ⟨c, ⟨v, H', fr'⟩, _, c', hn, hc, hrun, rfl, ho, hv, hc', rfl, rfl⟩ := hx
  obtain ⟨fn, body, hf, hb, hrunF⟩ := run1_some hrun
  obtain ⟨p, hp, hob⟩ := hH.obj n _ hn
  -- the callee's own names
  let σc : Sig := fun m => if m < P.globals.size then σ m else if m = P.globals.size then some p else none
  have hσG : σc P.globals.size = some p := by simp [σc]
  have hgc : GRel P σc := fun g hgl => by
    obtain ⟨sz, hs⟩ := hg g hgl
    exact ⟨sz, by simp [σc, hgl, hs]⟩
  have hfr : Fresh σc (P.globals.size + 1) := fun m hm' => by
    simp only [σc]
    rw [if_neg (by omega), if_neg (by omega)]
  have hlc : LR σc (.ptr P.globals.size off :: rest) args' := by
    refine ⟨by simpa using hl.1, fun i u u' h1 h2 => ?_⟩
    cases i with
    | zero =>
      simp at h1; subst h1
      have h3 : VR σ (.ptr n off) u' := hl.2 0 _ u' rfl h2
      cases h3 with
      | @ptr _ _ q hq =>
        rw [hp] at hq; cases hq
        exact .ptr hσG
    | succ i =>
      have h3 := hl.2 (i + 1) u u' (by simpa using h1) h2
      exact h3.cut0 (allV_mem ha u (List.mem_of_getElem? (by simpa using h1))) _
  have hHc : HRel σc (aget [(P.globals.size, .cells false c)]) w := by
    refine ⟨fun m o hm' => ?_, fun m m' o o' q q' h1 h2 _ _ _ => ?_⟩
    · simp only [aget] at hm'
      rcases beq_cases P.globals.size m with ⟨he, hbq⟩ | ⟨he, hbq⟩ <;> rw [hbq] at hm' <;> simp only [cond_true, cond_false] at hm'
      · cases hm'
        subst he
        obtain ⟨d, t, fz, e1, e2, e3, e4⟩ := hob
        refine ⟨p, hσG, d, t, fz, e1, e2, fun i u hi => ?_, e4⟩
        obtain ⟨u', g1, g2⟩ := e3 i u hi
        exact ⟨u', g1, (ltS_ok (ltL_mem hc u (List.mem_of_getElem? hi)) g2).mono fun n p hp => by simp [cut] at hp⟩
      · cases hm'
    · simp only [aget] at h1 h2
      rcases beq_cases P.globals.size m with ⟨he, hbq⟩ | ⟨he, hbq⟩ <;> rw [hbq] at h1 <;> simp only [cond_true, cond_false] at h1
      · rcases beq_cases P.globals.size m' with ⟨he', hbq'⟩ | ⟨he', hbq'⟩ <;> rw [hbq'] at h2 <;> simp only [cond_true, cond_false] at h2
        · exact .inl (he.symm.trans he')
        · cases h2
      · cases h1
  refine (runF_ok hcs hm hf hb hrunF hlc hHc hgc hfr).mono fun r w' hrw => ?_
  obtain ⟨σ', v', rfl, g1, g2, g3, g4⟩ := hrw
  have hold : ∀ b, b < w.heap.size → b ≠ p.blk → w'.heap[b]? = w.heap[b]? := fun b hb hne => (g3.old b hb fun ⟨m, o, q, a1, a2, a3, a4⟩ => by
    simp only [aget] at a1
    rcases beq_cases P.globals.size m with ⟨he, hbq⟩ | ⟨he, hbq⟩ <;> rw [hbq] at a1 <;> simp only [cond_true, cond_false] at a1
    · subst he; rw [hσG] at a3; cases a3; exact hne a4.symm
    · cases a1).1
  -- the block as it lies behind the call
  have hob' : ORel σ w' p (.cells false c') := by
    obtain ⟨q, hq, hor⟩ := g2.obj _ _ ho
    have : q = p := Option.some.inj (hq.symm.trans (g3.ext _ _ hσG))
    subst this
    obtain ⟨d, t, fz, e1, e2, e3, e4⟩ := hor
    refine ⟨d, t, fz, e1, e2, fun i u hi => ?_, e4⟩
    obtain ⟨u', k1, k2⟩ := e3 i u hi
    exact ⟨u', k1, (ltS_ok (ltL_mem hc' u (List.mem_of_getElem? hi)) k2).mono fun n p hp => by simp [cut] at hp⟩
  refine ⟨σ, v', rfl, g1.cut0 hv σ, ?_, ?_, Only.refl σ base⟩
  · rw [aget_aset_fun]
    refine ⟨fun m ob hm' => ?_, fun m1 m2 o1 o2 q1 q2 h1 h2 hq1 hq2 he => ?_⟩
    · unfold upd at hm'
      split at hm'
      · rename_i e; subst e; cases hm'; exact ⟨p, hp, hob'⟩
      · rename_i e
        obtain ⟨q, hq, hr⟩ := hH.obj m ob hm'
        refine ⟨q, hq, hr.mono (Sig.le_refl σ) (hold _ hr.lt fun e' => ?_)⟩
        rcases hH.inj m n ob _ q p hm' hn hq hp e' with e2 | ⟨_, e2⟩
        · exact e e2.symm
        · cases e2
    · unfold upd at h1 h2
      split at h1 <;> split at h2
      · rename_i e1 e2; exact .inl (e1.symm.trans e2)
      · rename_i e1 e2; subst e1
        rcases hH.inj n m2 _ o2 q1 q2 hn h2 hq1 hq2 he with e3 | ⟨e3, _⟩
        · exact .inl e3
        · cases e3
      · rename_i e1 e2; subst e2
        rcases hH.inj m1 n o1 _ q1 q2 h1 hn hq1 hq2 he with e3 | ⟨_, e3⟩
        · exact .inl e3
        · cases e3
      · exact hH.inj m1 m2 o1 o2 q1 q2 h1 h2 hq1 hq2 he
  · rw [aget_aset_fun]
    have hown : Own σ (aget H) p.blk := ⟨n, _, p, hn, rfl, hp, rfl⟩
    refine ⟨Sig.le_refl σ, g3.size, g3.os, g3.output, g3.tape, fun b hb hno => ⟨hold b hb fun e => hno (e ▸ hown), ?_⟩⟩
    rintro ⟨m, o2, q, k1, k2, k3, k4⟩
    unfold upd at k1
    split at k1
    · rename_i e; subst e; rw [hp] at k3; cases k3; exact hno (k4 ▸ hown)
    · exact hno ⟨m, o2, q, k1, k2, k3, k4⟩

/-- Calls carried out in place, so many deep, where nothing else is said of them. -/
def inl (P : Program) (nn : FuncId → Nat) (F : Nat) (cs : CS) : Nat → CS
  | 0 => cs
  | n + 1 => fun f args => match cs f args with
    | some e => some e
    | none => match args with
      | .ptr m off :: rest => cond (allV rest) (some (blkE P (inl P nn F cs n) (nn f) F f m off rest)) none
      | args => cond (allV args) (match run1 P (inl P nn F cs n) (nn f) F f args [] P.globals.size with
        | some (v, _, _) => cond (ltV 0 v) (some (.pure v)) none
        | none => none) none
theorem inl_ok {P : Program} (hm : P.follows .mixedOrders = true) {nn : FuncId → Nat} {F : Nat} {cs : CS} (hcs : CSOk P cs) : ∀ n, CSOk P (inl P nn F cs n)
  | 0 => hcs
  | n + 1 => fun f args e h => by
    have ih := inl_ok hm (nn := nn) (F := F) hcs n
    simp only [inl] at h
    split at h
    · rename_i e' he
      cases h
      exact hcs f args e he
    · split at h
      · rename_i m off rest _
        cases ha : allV rest with
        | false => rw [ha] at h; cases h
        | true =>
          rw [ha] at h
          simp only [cond_true, Option.some.injEq] at h
          subst h
          exact callOk_blk ih hm ha
      · cases ha : allV args with
        | false => rw [ha] at h; cases h
        | true =>
          rw [ha] at h
          simp only [cond_true] at h
          split at h
          · rename_i v H' fr' hr
            cases hv : ltV 0 v with
            | false => rw [hv] at h; cases h
            | true =>
              rw [hv] at h
              simp only [cond_true, Option.some.injEq] at h
              subst h
              obtain ⟨fn, c, hf, hb, hrun⟩ := run1_some hr
              exact callOk_pure ih hm hf hb hrun ha hv
          · cases h
def noCS : CS := fun _ _ => none
theorem noCS_ok (P : Program) : CSOk P noCS := fun _ _ _ h => by cases h
end Go.Eng
