/- Engine, part 23: calls on several blocks of plain data, and on tables that are read. -/
import Derived.Test.YtkgbpnihbamceaaEng22
namespace Go.Eng
set_option linter.unusedVariables false
set_option linter.unusedSimpArgs false
open Go

/-- The place of a name among those seen. -/
def posN (n : Nat) : List Nat → Nat → Option Nat
  | [], _ => none
  | k :: l, i => cond (Nat.beq k n) (some i) (posN n l (i + 1))
theorem posN_get {n : Nat} : ∀ {l : List Nat} {i j : Nat}, posN n l i = some j → i ≤ j ∧ l[j - i]? = some n
  | [], i, j, h => by cases h
  | k :: l, i, j, h => by
    simp only [posN] at h
    rcases beq_cases k n with ⟨he, hb⟩ | ⟨he, hb⟩ <;> rw [hb] at h <;> simp only [cond_true, cond_false] at h
    · cases h; subst he; simp
    · obtain ⟨h1, h2⟩ := posN_get h
      refine ⟨by omega, ?_⟩
      rw [show j - i = (j - (i + 1)) + 1 by omega]
      simpa using h2
/-- A name of the caller's, as the callee names it. -/
def canN (G : Nat) (seen : List Nat) (n : Nat) : Nat × List Nat :=
  match posN n seen 0 with
  | some i => (G + i, seen)
  | none => (G + seen.length, seen ++ [n])
def canV (G : Nat) (seen : List Nat) (v : AVal) : Option (AVal × List Nat) :=
  match v with
  | .ptr n off => match canN G seen n with
    | (k, s) => some (.ptr k off, s)
  | .slice n off len esz => match canN G seen n with
    | (k, s) => some (.slice k off len esz, s)
  | v => cond (ltV 0 v) (some (v, seen)) none
def canL (G : Nat) : List Nat → List AVal → Option (List AVal × List Nat)
  | seen, [] => some ([], seen)
  | seen, v :: l => match canV G seen v with
    | none => none
    | some (v', s) => match canL G s l with
      | none => none
      | some (l', s') => some (v' :: l', s')
/-- What the callee's names stand for. -/
def sigC (G : Nat) (ns : List Nat) (σ : Sig) : Sig := fun m => if m < G then σ m else match ns[m - G]? with
  | some n => σ n
  | none => none
theorem sigC_at {G : Nat} {ns : List Nat} {σ : Sig} {i n : Nat} (h : ns[i]? = some n) : sigC G ns σ (G + i) = σ n := by
  unfold sigC
  rw [if_neg (by omega), show G + i - G = i by omega, h]
theorem canN_ok {G : Nat} {seen s : List Nat} {n k : Nat} (h : canN G seen n = (k, s)) : (∃ t, s = seen ++ t) ∧ ∃ i, k = G + i ∧ s[i]? = some n := by
  unfold canN at h
  split at h
  · rename_i i hi
    cases h
    obtain ⟨_, h2⟩ := posN_get hi
    exact ⟨⟨[], by simp⟩, i, rfl, by simpa using h2⟩
  · cases h
    exact ⟨⟨[n], rfl⟩, seen.length, rfl, by simp⟩
theorem pre_get {s t : List Nat} {i n : Nat} (h : s[i]? = some n) : (s ++ t)[i]? = some n := by
  rw [List.getElem?_append_left (List.getElem?_eq_some_iff.1 h).1]; exact h
theorem canV_ok {G : Nat} {seen s : List Nat} {v v' : AVal} (h : canV G seen v = some (v', s)) : (∃ t, s = seen ++ t) ∧ ∀ (t : List Nat) (σ : Sig) u, VR σ v u → VR (sigC G (s ++ t) σ) v' u := by
  unfold canV at h
  split at h
  · rename_i n off
    split at h
    rename_i k s1 hk
    cases h
    obtain ⟨h1, i, rfl, h3⟩ := canN_ok hk
    refine ⟨h1, fun t σ u hu => ?_⟩
    cases hu with
    | ptr hp => exact .ptr (by rw [sigC_at (pre_get h3)]; exact hp)
  · rename_i n off len esz
    split at h
    rename_i k s1 hk
    cases h
    obtain ⟨h1, i, rfl, h3⟩ := canN_ok hk
    refine ⟨h1, fun t σ u hu => ?_⟩
    cases hu with
    | slice hp ho hc hs => exact .slice (by rw [sigC_at (pre_get h3)]; exact hp) ho hc hs
  · cases hv : ltV 0 v <;> rw [hv] at h <;> simp only [cond_true, cond_false] at h
    · cases h
    · cases h
      exact ⟨⟨[], by simp⟩, fun t σ u hu => hu.cut0 hv _⟩
theorem canL_ok {G : Nat} : ∀ {l l' : List AVal} {seen s : List Nat}, canL G seen l = some (l', s) → (∃ t, s = seen ++ t) ∧ l'.length = l.length ∧ ∀ (t : List Nat) (σ : Sig) (i : Nat) v' u, l'[i]? = some v' → (∀ v, l[i]? = some v → VR σ v u) → VR (sigC G (s ++ t) σ) v' u
  | [], l', seen, s, h => by cases h; exact ⟨⟨[], by simp⟩, rfl, fun t σ i v' u hi => by simp at hi⟩
  | v :: l, l', seen, s, h => by
    simp only [canL] at h
    split at h
    · cases h
    · rename_i v1 s1 h1
      split at h
      · cases h
      · rename_i l1 s2 h2
        cases h
        obtain ⟨⟨t1, e1⟩, a2⟩ := canV_ok h1
        obtain ⟨⟨t2, e2⟩, b2, b3⟩ := canL_ok h2
        refine ⟨⟨t1 ++ t2, by rw [e2, e1, List.append_assoc]⟩, by simp [b2], fun t σ i v' u hi hv => ?_⟩
        cases i with
        | zero =>
          simp at hi; subst hi
          have := a2 (t2 ++ t) σ u (hv v (by simp))
          rwa [← List.append_assoc, ← e2] at this
        | succ i => exact b3 t σ i v' u (by simpa using hi) fun x hx => hv x (by simpa using hx)

def objsA (η : Nat → Option AObj) : List Nat → Nat → Option HL
  | [], _ => some []
  | n :: ns, k => match η n, objsA η ns (k + 1) with
    | some (.cells ro c), some l => cond (ltL 0 c) (some ((k, .cells ro c) :: l)) none
    | _, _ => none
/-- The tables among the globals. -/
def globA (η : Nat → Option AObj) : Nat → Nat → HL
  | 0, _ => []
  | k + 1, i => match η i with
    | some (.cells true c) => cond (ltL 0 c) ((i, .cells true c) :: globA η k (i + 1)) (globA η k (i + 1))
    | _ => globA η k (i + 1)
def backA (η : Nat → Option AObj) (H' : HL) : List Nat → Nat → Option (List (Nat × Option AObj))
  | [], _ => some []
  | n :: ns, k => match backA η H' ns (k + 1) with
    | none => none
    | some l => match η n with
      | some (.cells false _) => match aget H' k with
        | some (.cells false c) => cond (ltL 0 c) (some ((n, some (.cells false c)) :: l)) none
        | _ => none
      | _ => some l
def nodupB : List Nat → Bool
  | [] => true
  | n :: l => cond (l.all fun k => !Nat.beq n k) (nodupB l) false
theorem nodupB_ok : ∀ {l : List Nat}, nodupB l = true → l.Nodup
  | [], _ => List.nodup_nil
  | n :: l, h => by
    simp only [nodupB] at h
    cases hb : (l.all fun k => !Nat.beq n k) <;> rw [hb] at h <;> simp only [cond_true, cond_false] at h
    · cases h
    · refine List.nodup_cons.2 ⟨fun hm => ?_, nodupB_ok h⟩
      have := List.all_eq_true.1 hb n hm
      simp at this
/-- A call on blocks of plain data that the arguments point to, and on the globals' tables. -/
def viewE (P : Program) (cs : CS) (nn F : Nat) (f : FuncId) (ns : List Nat) (cargs : List AVal) : EffA :=
  .eff fun _ η => match objsA η ns P.globals.size with
    | none => none
    | some Ho => match run1 P cs nn F f cargs (globA η P.globals.size 0 ++ Ho) (P.globals.size + ns.length) with
      | none => none
      | some (v, H', _) => match backA η H' ns P.globals.size with
        | none => none
        | some us => cond (ltV 0 v && nodupB ns) (some (v, us)) none
theorem objsA_get {η : Nat → Option AObj} : ∀ {ns : List Nat} {k : Nat} {Ho : HL}, objsA η ns k = some Ho → ∀ m o, aget Ho m = some o → k ≤ m ∧ ∃ n, ns[m - k]? = some n ∧ η n = some o ∧ ∃ ro c, o = .cells ro c ∧ ltL 0 c = true
  | [], k, Ho, h, m, o, hm => by cases h; simp [aget] at hm
  | n :: ns, k, Ho, h, m, o, hm => by
    simp only [objsA] at h
    split at h
    · rename_i ro c l h1 h2
      cases hc : ltL 0 c <;> rw [hc] at h <;> simp only [cond_true, cond_false] at h
      · cases h
      · cases h
        simp only [aget] at hm
        rcases beq_cases k m with ⟨he, hb⟩ | ⟨he, hb⟩ <;> rw [hb] at hm <;> simp only [cond_true, cond_false] at hm
        · cases hm; subst he
          exact ⟨Nat.le_refl k, n, by simp, h1, ro, c, rfl, hc⟩
        · obtain ⟨a1, n', a2, a3⟩ := objsA_get h2 m o hm
          refine ⟨by omega, n', ?_, a3⟩
          rw [show m - k = (m - (k + 1)) + 1 by omega]
          simpa using a2
    · cases h
theorem globA_get {η : Nat → Option AObj} : ∀ {k i : Nat} m o, aget (globA η k i) m = some o → i ≤ m ∧ m < i + k ∧ η m = some o ∧ ∃ c, o = .cells true c ∧ ltL 0 c = true
  | 0, i, m, o, hm => by simp [globA, aget] at hm
  | k + 1, i, m, o, hm => by
    have rest : aget (globA η k (i + 1)) m = some o → i ≤ m ∧ m < i + (k + 1) ∧ η m = some o ∧ ∃ c, o = .cells true c ∧ ltL 0 c = true := fun h => by
      obtain ⟨a1, a2, a3⟩ := globA_get m o h
      exact ⟨by omega, by omega, a3⟩
    simp only [globA] at hm
    split at hm
    · rename_i c hc
      cases hl : ltL 0 c <;> rw [hl] at hm <;> simp only [cond_true, cond_false] at hm
      · exact rest hm
      · simp only [aget] at hm
        rcases beq_cases i m with ⟨he, hb⟩ | ⟨he, hb⟩ <;> rw [hb] at hm <;> simp only [cond_true, cond_false] at hm
        · cases hm; subst he
          exact ⟨Nat.le_refl i, by omega, hc, c, rfl, hl⟩
        · exact rest hm
    · exact rest hm
theorem backA_mem {η : Nat → Option AObj} {H' : HL} : ∀ {ns : List Nat} {k : Nat} {us : List (Nat × Option AObj)}, backA η H' ns k = some us →
    (∀ m x, (m, x) ∈ us → ∃ c i c0, x = some (.cells false c) ∧ ltL 0 c = true ∧ ns[i]? = some m ∧ aget H' (k + i) = some (.cells false c) ∧ η m = some (.cells false c0)) ∧ (∀ n c0, n ∈ ns → η n = some (.cells false c0) → ∃ x, (n, x) ∈ us)
  | [], k, us, h => by cases h; exact ⟨fun m x hm => by simp at hm, fun n c0 hn => by simp at hn⟩
  | n :: ns, k, us, h => by
    simp only [backA] at h
    split at h
    · cases h
    · rename_i l hl
      obtain ⟨a1, a2⟩ := backA_mem hl
      have up : ∀ m x, (m, x) ∈ l → ∃ c i c0, x = some (.cells false c) ∧ ltL 0 c = true ∧ (n :: ns)[i]? = some m ∧ aget H' (k + i) = some (.cells false c) ∧ η m = some (.cells false c0) := fun m x hm => by
        obtain ⟨c, i, c0, b1, b2, b3, b4, b5⟩ := a1 m x hm
        exact ⟨c, i + 1, c0, b1, b2, by simpa using b3, by rw [← b4]; congr 1; omega, b5⟩
      split at h
      · rename_i c0 hn
        split at h
        · rename_i c hc
          cases hlt : ltL 0 c <;> rw [hlt] at h <;> simp only [cond_true, cond_false] at h
          · cases h
          · cases h
            refine ⟨fun m x hm => ?_, fun m c1 hm he => ?_⟩
            · rcases List.mem_cons.1 hm with e | e
              · cases e
                exact ⟨c, 0, c0, rfl, hlt, by simp, by simpa using hc, hn⟩
              · exact up m x e
            · rcases List.mem_cons.1 hm with e | e
              · subst e; exact ⟨_, List.mem_cons_self ..⟩
              · obtain ⟨x, hx⟩ := a2 m c1 e he
                exact ⟨x, List.mem_cons_of_mem _ hx⟩
        · cases h
      · rename_i hno
        cases h
        refine ⟨up, fun m c1 hm he => ?_⟩
        rcases List.mem_cons.1 hm with e | e
        · subst e; exact absurd he (hno c1)
        · exact a2 m c1 e he
theorem appU_get : ∀ {us : List (Nat × Option AObj)} {H : HL}, (∀ m x, (m, x) ∈ us → x.isSome = true) → ∀ m, (∃ o, (m, some o) ∈ us ∧ aget (appU H us) m = some o) ∨ ((∀ x, (m, x) ∉ us) ∧ aget (appU H us) m = aget H m)
  | [], H, _, m => .inr ⟨fun x hx => by simp at hx, rfl⟩
  | (n, none) :: us, H, h, m => by have := h n none (List.mem_cons_self ..); cases this
  | (n, some o) :: us, H, h, m => by
    simp only [appU]
    rcases appU_get (us := us) (H := aset H n o) (fun m x hx => h m x (List.mem_cons_of_mem _ hx)) m with ⟨o', a1, a2⟩ | ⟨a1, a2⟩
    · exact .inl ⟨o', List.mem_cons_of_mem _ a1, a2⟩
    · rw [aget_aset] at a2
      by_cases e : n = m
      · rw [if_pos e] at a2
        subst e
        exact .inl ⟨o, List.mem_cons_self .., a2⟩
      · rw [if_neg e] at a2
        refine .inr ⟨fun x hx => ?_, a2⟩
        rcases List.mem_cons.1 hx with e2 | e2
        · cases e2; exact e rfl
        · exact a1 x e2
theorem ORel.plain {σ σ' : Sig} {w : World} {p : Place} {ro : Bool} {c : List AVal} (hc : ltL 0 c = true) (h : ORel σ w p (.cells ro c)) : ORel σ' w p (.cells ro c) := by
  obtain ⟨d, t, fz, e1, e2, e3, e4⟩ := h
  refine ⟨d, t, fz, e1, e2, fun i u hi => ?_, e4⟩
  obtain ⟨u', g1, g2⟩ := e3 i u hi
  exact ⟨u', g1, (ltS_ok (ltL_mem hc u (List.mem_of_getElem? hi)) g2).mono fun n p hp => by simp [Go.Eng.cut] at hp⟩

theorem callOk_view {P : Program} {cs : CS} (hcs : CSOk P cs) (hm : P.follows .mixedOrders = true) {nn F : Nat} {f : FuncId} {args cargs : List AVal} {ns : List Nat} (hcan : canL P.globals.size [] args = some (cargs, ns)) : CallOk P f args (viewE P cs nn F f ns cargs) := by
  intro σ args' H w base v0 H0 hl hg hH happ hfree
  simp only [viewE, EffA.app] at happ
  cases hobj : objsA (aget H) ns P.globals.size with
  | none => rw [hobj] at happ; cases happ
  | some Ho =>
  rw [hobj] at happ
  simp only at happ
  cases hrun : run1 P cs nn F f cargs (globA (aget H) P.globals.size 0 ++ Ho) (P.globals.size + ns.length) with
  | none => rw [hrun] at happ; cases happ
  | some r =>
  obtain ⟨v, H', fr'⟩ := r
  rw [hrun] at happ
  simp only at happ
  cases hback : backA (aget H) H' ns P.globals.size with
  | none => rw [hback] at happ; cases happ
  | some us =>
  rw [hback] at happ
  simp only at happ
  cases hcond : (ltV 0 v && nodupB ns) with
  | false => rw [hcond] at happ; cases happ
  | true =>
  rw [hcond] at happ
  simp only [cond_true, Option.some.injEq, Prod.mk.injEq] at happ
  obtain ⟨rfl, rfl⟩ := happ
  simp only [Bool.and_eq_true] at hcond
  obtain ⟨hv, hnd⟩ := hcond
  have hnd := nodupB_ok hnd
  obtain ⟨fn, body, hf, hb, hrunF⟩ := run1_some hrun
  obtain ⟨u1, u2⟩ := backA_mem hback
  have husome : ∀ m x, (m, x) ∈ us → x.isSome = true := fun m x hx => by
    obtain ⟨c, i, c0, e, _⟩ := u1 m x hx
    rw [e]; rfl
  -- what the callee sees
  have heap : ∀ m o, aget (globA (aget H) P.globals.size 0 ++ Ho) m = some o → ∃ n ro c, aget H n = some o ∧ o = .cells ro c ∧ ltL 0 c = true ∧ sigC P.globals.size ns σ m = σ n ∧ ((m < P.globals.size ∧ n = m ∧ ro = true) ∨ ∃ i, m = P.globals.size + i ∧ ns[i]? = some n) := fun m o hmo => by
    rcases aget_append hmo with h1 | h1
    · obtain ⟨_, a2, a3, c, a4, a5⟩ := globA_get m o h1
      refine ⟨m, true, c, a3, a4, a5, ?_, .inl ⟨by omega, rfl, rfl⟩⟩
      unfold sigC
      rw [if_pos (by omega)]
    · obtain ⟨a1, n, a2, a3, ro, c, a4, a5⟩ := objsA_get hobj m o h1
      have e : m = P.globals.size + (m - P.globals.size) := by omega
      refine ⟨n, ro, c, a3, a4, a5, ?_, .inr ⟨m - P.globals.size, e, a2⟩⟩
      rw [e]
      exact sigC_at a2
  have hgc : GRel P (sigC P.globals.size ns σ) := fun g hgl => by
    obtain ⟨sz, hs⟩ := hg g hgl
    exact ⟨sz, by unfold sigC; rw [if_pos hgl]; exact hs⟩
  have hfr : Fresh (sigC P.globals.size ns σ) (P.globals.size + ns.length) := fun m hm' => by
    unfold sigC
    rw [if_neg (by omega), List.getElem?_eq_none (by omega)]
  obtain ⟨_, hlen, hcv⟩ := canL_ok hcan
  have hlc : LR (sigC P.globals.size ns σ) cargs args' := by
    refine ⟨by rw [hlen]; exact hl.1, fun i u u' h1 h2 => ?_⟩
    have := hcv [] σ i u u' h1 fun x hx => hl.2 i x u' hx h2
    rwa [List.append_nil] at this
  have hHc : HRel (sigC P.globals.size ns σ) (aget (globA (aget H) P.globals.size 0 ++ Ho)) w := by
    refine ⟨fun m o hmo => ?_, fun m m' o o' q q' h1 h2 hq hq' he => ?_⟩
    · obtain ⟨n, ro, c, a1, rfl, a3, a4, _⟩ := heap m o hmo
      obtain ⟨p, hp, hor⟩ := hH.obj n _ a1
      exact ⟨p, by rw [a4]; exact hp, hor.plain a3⟩
    · obtain ⟨n, ro, c, a1, rfl, a3, a4, a5⟩ := heap m o h1
      obtain ⟨n', ro', c', b1, rfl, b3, b4, b5⟩ := heap m' o' h2
      rw [a4] at hq
      rw [b4] at hq'
      rcases hH.inj n n' _ _ q q' a1 b1 hq hq' he with e | e
      · subst e
        rw [a1] at b1
        cases b1
        rcases a5 with ⟨x1, x2, x3⟩ | ⟨i, x1, x2⟩ <;> rcases b5 with ⟨y1, y2, y3⟩ | ⟨j, y1, y2⟩
        · exact .inl (by omega)
        · subst x3; exact .inr ⟨rfl, rfl⟩
        · subst y3; exact .inr ⟨rfl, rfl⟩
        · left
          have h3 := (List.getElem?_eq_some_iff.1 x2)
          have h4 := (List.getElem?_eq_some_iff.1 y2)
          obtain ⟨hi, ei⟩ := h3
          obtain ⟨hj, ej⟩ := h4
          have : i = j := (List.getElem_inj hnd).1 (ei.trans ej.symm)
          omega
      · exact .inr e
  refine (runF_ok hcs hm hf hb hrunF hlc hHc hgc hfr).mono fun r w' hrw => ?_
  obtain ⟨σ', v', rfl, g1, g2, g3, g4⟩ := hrw
  -- what the callee may write, the caller may
  have hown : ∀ b, Own (sigC P.globals.size ns σ) (aget (globA (aget H) P.globals.size 0 ++ Ho)) b → ∃ n c p, n ∈ ns ∧ aget H n = some (.cells false c) ∧ σ n = some p ∧ p.blk = b := fun b ⟨m, o, p, a1, a2, a3, a4⟩ => by
    obtain ⟨n, ro, c, b1, rfl, b3, b4, b5⟩ := heap m o a1
    have hro : ro = false := a2
    subst hro
    rw [b4] at a3
    rcases b5 with ⟨_, _, x⟩ | ⟨i, _, x⟩
    · cases x
    · exact ⟨n, c, p, List.mem_of_getElem? x, b1, a3, a4⟩
  have hold : ∀ b, b < w.heap.size → (∀ n c p, n ∈ ns → aget H n = some (.cells false c) → σ n = some p → p.blk ≠ b) → w'.heap[b]? = w.heap[b]? := fun b hb hne =>
    (g3.old b hb fun ho => by
      obtain ⟨n, c, p, a1, a2, a3, a4⟩ := hown b ho
      exact hne n c p a1 a2 a3 a4).1
  have orig : ∀ m ob, aget (appU H us) m = some ob → ∃ ob0, aget H m = some ob0 ∧ ob0.ro = ob.ro := fun m ob hmo => by
    rcases appU_get husome (H := H) m with ⟨o, a1, a2⟩ | ⟨_, a2⟩
    · obtain ⟨c, i, c0, e1, _, _, _, e5⟩ := u1 m _ a1
      rw [hmo] at a2
      cases a2
      cases e1
      exact ⟨_, e5, rfl⟩
    · exact ⟨ob, by rw [← a2]; exact hmo, rfl⟩
  refine ⟨σ, v', rfl, g1.cut0 hv σ, ⟨fun m ob hmo => ?_, fun m1 m2 o1 o2 q1 q2 h1 h2 hq1 hq2 he => ?_⟩, ⟨Sig.le_refl σ, g3.size, g3.os, g3.output, g3.tape, fun b hb hno => ⟨hold b hb fun n c p k1 k2 k3 k4 => hno ⟨n, _, p, k2, rfl, k3, k4⟩, ?_⟩⟩, Only.refl σ base⟩
  · rcases appU_get husome (H := H) m with ⟨o, a1, a2⟩ | ⟨a1, a2⟩
    · obtain ⟨c, i, c0, e1, e2, e3, e4, e5⟩ := u1 m _ a1
      rw [hmo] at a2
      cases a2
      cases e1
      obtain ⟨p, hp, _⟩ := hH.obj m _ e5
      refine ⟨p, hp, ?_⟩
      obtain ⟨q, hq, hor⟩ := g2.obj _ _ e4
      have : q = p := Option.some.inj (hq.symm.trans (g3.ext _ _ (by rw [sigC_at e3]; exact hp)))
      subst this
      exact hor.plain e2
    · rw [a2] at hmo
      obtain ⟨p, hp, hor⟩ := hH.obj m ob hmo
      refine ⟨p, hp, hor.mono (Sig.le_refl σ) (hold _ hor.lt fun n c q k1 k2 k3 k4 => ?_)⟩
      rcases hH.inj n m _ ob q p k2 hmo k3 hp k4 with e | ⟨e, _⟩
      · subst e
        obtain ⟨x, hx⟩ := u2 n c k1 k2
        exact a1 x hx
      · cases e
  · obtain ⟨x1, y1, z1⟩ := orig m1 o1 h1
    obtain ⟨x2, y2, z2⟩ := orig m2 o2 h2
    rcases hH.inj m1 m2 x1 x2 q1 q2 y1 y2 hq1 hq2 he with e | ⟨e1, e2⟩
    · exact .inl e
    · exact .inr ⟨z1 ▸ e1, z2 ▸ e2⟩
  · rintro ⟨m, o, q, k1, k2, k3, k4⟩
    obtain ⟨x1, y1, z1⟩ := orig m o k1
    exact hno ⟨m, x1, q, y1, by rw [z1]; exact k2, k3, k4⟩
/-- Calls carried out in place, of plain data, or on blocks. -/
def inlV (P : Program) (nn : FuncId → Nat) (F : Nat) (cs : CS) : Nat → CS
  | 0 => cs
  | n + 1 => fun f args => match cs f args with
    | some e => some e
    | none => match canL P.globals.size [] args with
      | none => none
      | some (cargs, ns) => match ns with
        | [] => match run1 P (inlV P nn F cs n) (nn f) F f args [] P.globals.size with
          | some (v, _, _) => cond (allV args && ltV 0 v) (some (.pure v)) none
          | none => some (viewE P (inlV P nn F cs n) (nn f) F f [] cargs)
        | k :: ks => some (viewE P (inlV P nn F cs n) (nn f) F f (k :: ks) cargs)
theorem inlV_ok {P : Program} (hm : P.follows .mixedOrders = true) {nn : FuncId → Nat} {F : Nat} {cs : CS} (hcs : CSOk P cs) : ∀ n, CSOk P (inlV P nn F cs n)
  | 0 => hcs
  | n + 1 => fun f args e h => by
    have ih := inlV_ok hm (nn := nn) (F := F) hcs n
    simp only [inlV] at h
    split at h
    · rename_i e' he
      cases h
      exact hcs f args e he
    · split at h
      · cases h
      · rename_i cargs ns hcan
        split at h
        · split at h
          · rename_i v H' fr' hr
            cases hb : (allV args && ltV 0 v) <;> rw [hb] at h <;> simp only [cond_true, cond_false] at h
            · cases h
            · cases h
              simp only [Bool.and_eq_true] at hb
              exact callOk_run ih hm hr hb.1 hb.2
          · cases h
            exact callOk_view ih hm hcan
        · cases h
          exact callOk_view ih hm hcan
end Go.Eng
