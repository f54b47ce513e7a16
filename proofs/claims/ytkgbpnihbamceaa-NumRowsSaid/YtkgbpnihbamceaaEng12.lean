/- Engine, part 12: two steps that do not wait for each other may be taken in either order. -/
import Derived.Test.YtkgbpnihbamceaaEng11
namespace Go.Eng
set_option linter.unusedVariables false
set_option linter.unusedSimpArgs false
open Go

def heapE (base : Nat) (e : Option EffA) (H : HL) : Option (AVal × HL) :=
  match e with
  | none => some (.tup [], H)
  | some e => e.app base H
theorem stepE_eq {nt base : Nat} {o : Oper} {e : Option EffA} {T : TL} {H : HL} {T' : TL} {H' : HL} : stepE nt base o e T H = some (T', H') ↔ ∃ v, heapE base e H = some (v, H') ∧ putT nt T o.dst v = some T' := by
  have key : ∀ (x : Option (AVal × HL)), (match x with
      | none => none
      | some (v, H') => match putT nt T o.dst v with
        | some T' => some (T', H')
        | none => none) = some (T', H') ↔ ∃ v, x = some (v, H') ∧ putT nt T o.dst v = some T' := fun x => by
    cases x with
    | none => exact ⟨fun h => (by cases h), fun ⟨v, h, _⟩ => (by cases h)⟩
    | some p =>
      obtain ⟨v, H1⟩ := p
      cases hp : putT nt T o.dst v with
      | none =>
        simp only [hp]
        exact ⟨fun h => (by cases h), fun ⟨u, h, h2⟩ => (by cases h; rw [hp] at h2; cases h2)⟩
      | some T1 =>
        simp only [hp]
        exact ⟨fun h => (by cases h; exact ⟨v, rfl, hp⟩), fun ⟨u, h, h2⟩ => (by cases h; rw [hp] at h2; cases h2; rfl)⟩
  cases e with
  | none => exact key (some (.tup [], H))
  | some e => exact key (e.app base H)

/-! ### equal as maps -/
theorem appU_ext : ∀ (us : List (Nat × Option AObj)) {H H' : HL}, aget H = aget H' → aget (appU H us) = aget (appU H' us)
  | [], _, _, h => h
  | (n, some o) :: us, H, H', h => appU_ext us (by rw [aget_aset_fun, aget_aset_fun, h])
  | (n, none) :: us, H, H', h => appU_ext us (by funext m; rw [aget_adel, aget_adel, h])
theorem heapE_ext {base : Nat} {e : Option EffA} {H1 H2 H1' : HL} {v : AVal} (h : aget H1 = aget H2) (ha : heapE base e H1 = some (v, H1')) : ∃ H2', heapE base e H2 = some (v, H2') ∧ aget H1' = aget H2' := by
  unfold heapE at *
  cases e with
  | none => simp only [Option.some.injEq, Prod.mk.injEq] at ha ⊢; obtain ⟨rfl, rfl⟩ := ha; exact ⟨H2, ⟨rfl, rfl⟩, h⟩
  | some e =>
    cases e with
    | pure u => simp only [EffA.app, Option.some.injEq, Prod.mk.injEq] at ha ⊢; obtain ⟨rfl, rfl⟩ := ha; exact ⟨H2, ⟨rfl, rfl⟩, h⟩
    | read n f =>
      simp only [EffA.app] at ha ⊢
      rw [← h]
      cases hn : aget H1 n with
      | none => rw [hn] at ha; cases ha
      | some ob =>
        rw [hn] at ha
        simp only at ha ⊢
        cases hf : f ob with
        | none => rw [hf] at ha; cases ha
        | some u => rw [hf] at ha; simp only [Option.some.injEq, Prod.mk.injEq] at ha ⊢; obtain ⟨rfl, rfl⟩ := ha; exact ⟨H2, ⟨rfl, rfl⟩, h⟩
    | alloc ob u =>
      simp only [EffA.app, Option.some.injEq, Prod.mk.injEq] at ha ⊢
      obtain ⟨rfl, rfl⟩ := ha
      exact ⟨_, ⟨rfl, rfl⟩, by rw [aget_aset_fun, aget_aset_fun, h]⟩
    | eff f =>
      simp only [EffA.app] at ha ⊢
      rw [← h]
      cases hf : f base (aget H1) with
      | none => rw [hf] at ha; cases ha
      | some p =>
        obtain ⟨u, us⟩ := p
        rw [hf] at ha
        simp only [Option.some.injEq, Prod.mk.injEq] at ha ⊢
        obtain ⟨rfl, rfl⟩ := ha
        exact ⟨_, ⟨rfl, rfl⟩, appU_ext us h⟩
def updT (τ : Nat → Option AVal) (dst : Option Tmp) (v : AVal) : Nat → Option AVal :=
  match dst with
  | none => τ
  | some d => upd τ d v
theorem putT_get {nt : Nat} {T T' : TL} {dst : Option Tmp} {v : AVal} (h : putT nt T dst v = some T') : aget T' = updT (aget T) dst v := by
  cases dst with
  | none => simp only [putT, Option.some.injEq] at h; subst h; rfl
  | some d =>
    simp only [putT] at h
    cases hb : Nat.ble (d + 1) nt <;> rw [hb] at h <;> simp only [cond_true, cond_false, Option.some.injEq] at h
    · cases h
    · subst h; exact aget_aset_fun T d v
theorem putT_some {nt : Nat} {T T2 : TL} {dst : Option Tmp} {v : AVal} {T' : TL} (h : putT nt T dst v = some T') (u : AVal) : ∃ T'', putT nt T2 dst u = some T'' := by
  cases dst with
  | none => exact ⟨T2, rfl⟩
  | some d =>
    simp only [putT] at h ⊢
    cases hb : Nat.ble (d + 1) nt <;> rw [hb] at h <;> simp only [cond_true, cond_false] at h ⊢
    · cases h
    · exact ⟨_, rfl⟩
theorem kindA_congr {P : Program} {cs : CS} {ops : Array Oper} {o : Oper} {T T' : TL} (h : ∀ t ∈ o.looksAt ops, aget T t = aget T' t) : kindA P cs ops o T = kindA P cs ops o T' := by
  have hw : wantA ops (aget T) o = wantA ops (aget T') o := by
    unfold wantA
    cases hg : o.guard with
    | none => rfl
    | some p =>
      obtain ⟨j, want⟩ := p
      simp only
      cases hj : ops[j]? with
      | none => rfl
      | some g =>
        simp only
        cases hd : g.dst with
        | none => rfl
        | some d =>
          simp only
          rw [h d (by simp [Oper.looksAt, hg, hj, hd])]
  have he : effA P cs (opd P (aget T)) o = effA P cs (opd P (aget T')) o := effA_congr fun x hx => by
    cases x with
    | tmp t =>
      exact h t (List.mem_append_left _ (List.mem_filterMap.2 ⟨.tmp t, by simpa using hx, rfl⟩))
    | const c => rfl
    | global g => rfl
    | func f => rfl
  unfold kindA
  rw [hw, he]

/-! ### the heap -/
theorem heap_commute {fr k j bk bj : Nat} (hne : k ≠ j) (hbk : bk.testBit j = false) (hbj : bj.testBit k = false) {ek ej : Option EffA} (hc : compat (clsO ek) (clsO ej) = true)
    (hsk : seesO fr bk ek = true) (hsj : seesO fr bj ej = true) {H H1 H2 : HL} {vk vj : AVal} (h1 : heapE (fr + 8 * k) ek H = some (vk, H1)) (h2 : heapE (fr + 8 * j) ej H1 = some (vj, H2)) :
    ∃ H1' H2', heapE (fr + 8 * j) ej H = some (vj, H1') ∧ heapE (fr + 8 * k) ek H1' = some (vk, H2') ∧ aget H2' = aget H2 := by
  have same : H1 = H → ∃ H1' H2', heapE (fr + 8 * j) ej H = some (vj, H1') ∧ (H1' = H2) := fun e => by subst e; exact ⟨H2, H2, h2, rfl⟩
  have hnm : fr + 8 * k ≠ fr + 8 * j := by omega
  -- what leaves the heap alone, and does not look at it
  have quietK : (clsO ek = 0) → (∀ X, heapE (fr + 8 * k) ek X = some (vk, X)) ∧ H1 = H := fun h0 => by
    unfold heapE at h1 ⊢
    cases ek with
    | none => simp only [Option.some.injEq, Prod.mk.injEq] at h1 ⊢; exact ⟨fun X => by simp [h1.1], h1.2.symm⟩
    | some e =>
      cases e <;> simp only [clsO, EffA.cls] at h0 <;> try (cases h0; done)
      simp only [EffA.app, Option.some.injEq, Prod.mk.injEq] at h1 ⊢
      exact ⟨fun X => by simp [h1.1], h1.2.symm⟩
  have quietJ : (clsO ej = 0) → (∀ X, heapE (fr + 8 * j) ej X = some (vj, X)) ∧ H2 = H1 := fun h0 => by
    unfold heapE at h2 ⊢
    cases ej with
    | none => simp only [Option.some.injEq, Prod.mk.injEq] at h2 ⊢; exact ⟨fun X => by simp [h2.1], h2.2.symm⟩
    | some e =>
      cases e <;> simp only [clsO, EffA.cls] at h0 <;> try (cases h0; done)
      simp only [EffA.app, Option.some.injEq, Prod.mk.injEq] at h2 ⊢
      exact ⟨fun X => by simp [h2.1], h2.2.symm⟩
  by_cases hk0 : clsO ek = 0
  · obtain ⟨q1, q2⟩ := quietK hk0
    subst q2
    exact ⟨H2, H2, h2, q1 H2, rfl⟩
  by_cases hj0 : clsO ej = 0
  · obtain ⟨q1, q2⟩ := quietJ hj0
    subst q2
    exact ⟨H, H2, q1 H, h1, rfl⟩
  -- both look at the heap or make blocks; neither writes
  have hc3 : clsO ek ≠ 3 ∧ clsO ej ≠ 3 := by
    unfold compat at hc
    rcases beq_cases (clsO ek) 0 with ⟨a, b⟩ | ⟨a, b⟩
    · exact absurd a hk0
    rcases beq_cases (clsO ej) 0 with ⟨a', b'⟩ | ⟨a', b'⟩
    · exact absurd a' hj0
    rcases beq_cases (clsO ek) 3 with ⟨a2, b2⟩ | ⟨a2, b2⟩ <;> rcases beq_cases (clsO ej) 3 with ⟨a3, b3⟩ | ⟨a3, b3⟩ <;> rw [b, b', b2, b3] at hc <;> simp at hc
    exact ⟨a2, a3⟩
  cases ek with
  | none => exact absurd rfl hk0
  | some ek =>
    cases ej with
    | none => exact absurd rfl hj0
    | some ej =>
      simp only [heapE] at h1 h2 ⊢
      cases ek with
      | pure u => exact absurd rfl hk0
      | eff f => exact absurd rfl hc3.1
      | read n f =>
        simp only [EffA.app] at h1
        cases hn : aget H n with
        | none => rw [hn] at h1; cases h1
        | some ob =>
          rw [hn] at h1
          simp only at h1
          cases hf : f ob with
          | none => rw [hf] at h1; cases h1
          | some u =>
            rw [hf] at h1
            simp only [Option.some.injEq, Prod.mk.injEq] at h1
            obtain ⟨rfl, rfl⟩ := h1
            refine ⟨H2, H2, h2, ?_, rfl⟩
            have hn2 : aget H2 n = some ob := by
              cases ej with
              | pure u => exact absurd rfl hj0
              | eff f => exact absurd rfl hc3.2
              | read m g =>
                simp only [EffA.app] at h2
                cases hm : aget H m with
                | none => rw [hm] at h2; cases h2
                | some ob' =>
                  rw [hm] at h2
                  simp only at h2
                  cases hg : g ob' with
                  | none => rw [hg] at h2; cases h2
                  | some u' => rw [hg] at h2; simp only [Option.some.injEq, Prod.mk.injEq] at h2; rw [← h2.2]; exact hn
              | alloc ob' u' =>
                simp only [EffA.app, Option.some.injEq, Prod.mk.injEq] at h2
                rw [← h2.2, aget_aset]
                rw [if_neg]
                · exact hn
                · intro e
                  simp only [seesO, sees, Bool.or_eq_true] at hsk
                  rcases hsk with g | g
                  · have := Nat.le_of_ble_eq_true g; omega
                  · have : (n - fr) / 8 = j := by omega
                    rw [this, hbk] at g; cases g
            simp only [EffA.app, hn2, hf]
      | alloc ob u =>
        simp only [EffA.app, Option.some.injEq, Prod.mk.injEq] at h1
        obtain ⟨rfl, rfl⟩ := h1
        cases ej with
        | pure u => exact absurd rfl hj0
        | eff f => exact absurd rfl hc3.2
        | read m g =>
          simp only [EffA.app] at h2 ⊢
          have hm : aget (aset H (fr + 8 * k) ob) m = aget H m := by
            rw [aget_aset, if_neg]
            intro e
            simp only [seesO, sees, Bool.or_eq_true] at hsj
            rcases hsj with g | g
            · have := Nat.le_of_ble_eq_true g; omega
            · have : (m - fr) / 8 = k := by omega
              rw [this, hbj] at g; cases g
          rw [hm] at h2
          cases hmm : aget H m with
          | none => rw [hmm] at h2; cases h2
          | some ob' =>
            rw [hmm] at h2
            simp only at h2 ⊢
            cases hg : g ob' with
            | none => rw [hg] at h2; cases h2
            | some u' =>
              rw [hg] at h2
              simp only [Option.some.injEq, Prod.mk.injEq] at h2 ⊢
              exact ⟨H, aset H (fr + 8 * k) ob, by simp [h2.1], by simp, by rw [h2.2]⟩
        | alloc ob' u' =>
          simp only [EffA.app, Option.some.injEq, Prod.mk.injEq] at h2 ⊢
          obtain ⟨rfl, rfl⟩ := h2
          refine ⟨aset H (fr + 8 * j) ob', aset (aset H (fr + 8 * j) ob') (fr + 8 * k) ob, by simp, by simp, ?_⟩
          rw [aget_aset_fun, aget_aset_fun, aget_aset_fun, aget_aset_fun]
          exact upd_comm _ _ _ (Ne.symm hnm)
end Go.Eng
