/- Engine, part 13: whatever order is drawn. -/
import Derived.Test.YtkgbpnihbamceaaEng12
import Derived.Still
namespace Go.Eng
set_option linter.unusedVariables false
set_option linter.unusedSimpArgs false
open Go

section
variable (P : Program) (cs : CS) (nt : Nat) (ops : Array Oper) (fr : Nat) (tab cl : List Nat)

/-- Operation number i, taken when it comes up. -/
def stepD (i : Nat) (T : TL) (H : HL) : Option (TL × HL) :=
  match ops[i]? with
  | none => none
  | some o => match kindA P cs ops o T with
    | none => none
    | some e => cond (seesO fr (tab.getD i 0) e && Nat.beq (clsO e) (cl.getD i 0)) (stepE nt (fr + 8 * i) o e T H) none

/-- Whatever comes up from here on, in whatever order. -/
def AAny (G : TL → HL → Prop) : Nat → Array Bool → TL → HL → Prop
  | 0, listed, T, H => Region.ready .any ops listed = [] ∧ G T H
  | fuel + 1, listed, T, H => (Region.ready .any ops listed = [] → G T H) ∧
    ∀ i ∈ Region.ready .any ops listed, ∃ T' H', stepD P cs nt ops fr tab cl i T H = some (T', H') ∧ AAny G fuel (listed.setIfInBounds i true) T' H'
end

section
variable {P : Program} {cs : CS} {nt : Nat} {ops : Array Oper} {fr : Nat} {tab cl : List Nat}

theorem stepD_some {i : Nat} {T T' : TL} {H H' : HL} (h : stepD P cs nt ops fr tab cl i T H = some (T', H')) :
    ∃ o e, ops[i]? = some o ∧ kindA P cs ops o T = some e ∧ seesO fr (tab.getD i 0) e = true ∧ clsO e = cl.getD i 0 ∧ stepE nt (fr + 8 * i) o e T H = some (T', H') := by
  unfold stepD at h
  cases ho : ops[i]? with
  | none => rw [ho] at h; cases h
  | some o =>
    rw [ho] at h
    simp only at h
    cases hk : kindA P cs ops o T with
    | none => rw [hk] at h; cases h
    | some e =>
      rw [hk] at h
      simp only at h
      cases hb : (seesO fr (tab.getD i 0) e && Nat.beq (clsO e) (cl.getD i 0)) <;> rw [hb] at h <;> simp only [cond_true, cond_false] at h
      · cases h
      · simp only [Bool.and_eq_true] at hb
        exact ⟨o, e, rfl, hk, hb.1, Nat.eq_of_beq_eq_true hb.2, h⟩
theorem stepD_of {i : Nat} {T T' : TL} {H H' : HL} {o : Oper} {e : Option EffA} (ho : ops[i]? = some o) (hk : kindA P cs ops o T = some e) (hs : seesO fr (tab.getD i 0) e = true) (hc : clsO e = cl.getD i 0)
    (h : stepE nt (fr + 8 * i) o e T H = some (T', H')) : stepD P cs nt ops fr tab cl i T H = some (T', H') := by
  unfold stepD
  rw [ho]
  simp only [hk, hs, hc, Nat.beq_refl, Bool.and_self, cond_true]
  exact h

theorem stepD_ext {i : Nat} {T1 T2 T1' : TL} {H1 H2 H1' : HL} (hT : aget T1 = aget T2) (hH : aget H1 = aget H2) (h : stepD P cs nt ops fr tab cl i T1 H1 = some (T1', H1')) :
    ∃ T2' H2', stepD P cs nt ops fr tab cl i T2 H2 = some (T2', H2') ∧ aget T1' = aget T2' ∧ aget H1' = aget H2' := by
  obtain ⟨o, e, ho, hk, hs, hc, hst⟩ := stepD_some h
  obtain ⟨v, h1, h2⟩ := stepE_eq.1 hst
  obtain ⟨H2', g1, g2⟩ := heapE_ext hH h1
  obtain ⟨T2', g3⟩ := putT_some (T2 := T2) h2 v
  refine ⟨T2', H2', stepD_of ho ?_ hs hc (stepE_eq.2 ⟨v, g1, g3⟩), ?_, g2⟩
  · rw [← hk]; exact kindA_congr fun t _ => by rw [hT]
  · rw [putT_get h2, putT_get g3, hT]
theorem AAny_ext {G : TL → HL → Prop} (hG : ∀ T1 T2 H1 H2, aget T1 = aget T2 → aget H1 = aget H2 → G T1 H1 → G T2 H2) : ∀ (fuel : Nat) (listed : Array Bool) (T1 T2 : TL) (H1 H2 : HL), aget T1 = aget T2 → aget H1 = aget H2 →
    AAny P cs nt ops fr tab cl G fuel listed T1 H1 → AAny P cs nt ops fr tab cl G fuel listed T2 H2
  | 0, _, _, _, _, _, hT, hH, h => ⟨h.1, hG _ _ _ _ hT hH h.2⟩
  | fuel + 1, listed, T1, T2, H1, H2, hT, hH, h => ⟨fun h0 => hG _ _ _ _ hT hH (h.1 h0), fun i hi => by
    obtain ⟨T1', H1', h1, h2⟩ := h.2 i hi
    obtain ⟨T2', H2', g1, g2, g3⟩ := stepD_ext hT hH h1
    exact ⟨T2', H2', g1, AAny_ext hG fuel _ _ _ _ _ g2 g3 h2⟩⟩

theorem commute {k j : Nat} {ok oj : Oper} (hok : ops[k]? = some ok) (hoj : ops[j]? = some oj) (hne : k ≠ j) (hap : ok.apart ops oj = true) (hbk : (tab.getD k 0).testBit j = false) (hbj : (tab.getD j 0).testBit k = false)
    (hc : compat (cl.getD k 0) (cl.getD j 0) = true) {T T1 T2 : TL} {H H1 H2 : HL} (h1 : stepD P cs nt ops fr tab cl k T H = some (T1, H1)) (h2 : stepD P cs nt ops fr tab cl j T1 H1 = some (T2, H2)) :
    ∃ T1' H1' T2' H2', stepD P cs nt ops fr tab cl j T H = some (T1', H1') ∧ stepD P cs nt ops fr tab cl k T1' H1' = some (T2', H2') ∧ aget T2' = aget T2 ∧ aget H2' = aget H2 := by
  obtain ⟨ok', ek, hok', hkk, hsk, hck, hstk⟩ := stepD_some h1
  rw [hok] at hok'; cases hok'
  obtain ⟨oj', ej, hoj', hkj, hsj, hcj, hstj⟩ := stepD_some h2
  rw [hoj] at hoj'; cases hoj'
  obtain ⟨a1, a2, a3⟩ := Oper.apart_spec hap
  obtain ⟨vk, hvk, hpk⟩ := stepE_eq.1 hstk
  obtain ⟨vj, hvj, hpj⟩ := stepE_eq.1 hstj
  obtain ⟨H1', H2', q1, q2, q3⟩ := heap_commute hne hbk hbj (by rw [hck, hcj]; exact hc) hsk hsj hvk hvj
  obtain ⟨T1', p1⟩ := putT_some (T2 := T) hpj vj
  obtain ⟨T2', p2⟩ := putT_some (T2 := T1') hpk vk
  have agT1 : ∀ t ∈ oj.looksAt ops, aget T t = aget T1 t := fun t ht => by
    rw [putT_get hpk]
    cases hd : ok.dst with
    | none => rfl
    | some d => simp only [updT]; rw [upd_other]; intro e; subst e; exact a1 d hd ht
  have agT1' : ∀ t ∈ ok.looksAt ops, aget T1' t = aget T t := fun t ht => by
    rw [putT_get p1]
    cases hd : oj.dst with
    | none => rfl
    | some d => simp only [updT]; rw [upd_other]; intro e; subst e; exact a3 d hd ht
  refine ⟨T1', H1', T2', H2', stepD_of hoj ?_ hsj hcj (stepE_eq.2 ⟨vj, q1, p1⟩), stepD_of hok ?_ hsk hck (stepE_eq.2 ⟨vk, q2, p2⟩), ?_, q3⟩
  · rw [← hkj]; exact kindA_congr agT1
  · rw [← hkk]; exact kindA_congr agT1'
  · rw [putT_get p2, putT_get p1, putT_get hpj, putT_get hpk]
    cases hdk : ok.dst with
    | none => cases hdj : oj.dst <;> rfl
    | some d =>
      cases hdj : oj.dst with
      | none => rfl
      | some d' =>
        simp only [updT]
        exact upd_comm _ _ _ (fun e => a2 d hdk (by rw [hdj, e]))

theorem LL_set {listed : Array Bool} {i k : Nat} (hi : i < listed.size) : LL (listed.setIfInBounds i true) k ↔ k = i ∨ LL listed k := by
  unfold LL
  simp only [Array.getD_eq_getD_getElem?, Array.getElem?_setIfInBounds]
  by_cases h : i = k
  · subst h; simp [hi]
  · simp [h, Ne.symm h]
theorem LL_of_getD {listed : Array Bool} {i : Nat} (hi : i < listed.size) : listed.getD i true = false ↔ ¬ LL listed i := by
  unfold LL
  simp [Array.getD_eq_getD_getElem?, hi]
theorem ready_facts {listed : Array Bool} (hs : listed.size = ops.size) {i : Nat} (h : i ∈ Region.ready .any ops listed) :
    i < ops.size ∧ ¬ LL listed i ∧ ∃ o, ops[i]? = some o ∧ ∀ e ∈ o.after, Region.binds .any e = true → LL listed e.on := by
  obtain ⟨h1, o, h2, h3⟩ := mem_ready.1 h
  have hi : i < ops.size := (Array.getElem?_eq_some_iff.1 h2).1
  exact ⟨hi, (LL_of_getD (by omega)).1 h1, o, h2, h3⟩
theorem DC_set {listed : Array Bool} (hs : listed.size = ops.size) (hd : DC ops listed) {i : Nat} (h : i ∈ Region.ready .any ops listed) : DC ops (listed.setIfInBounds i true) := by
  obtain ⟨hi, hn, o, ho, hall⟩ := ready_facts hs h
  intro k ok hk hok e he hb
  rw [LL_set (by omega)] at hk
  rw [LL_set (by omega)]
  rcases hk with rfl | hk
  · rw [ho] at hok; cases hok; exact .inr (hall e he hb)
  · exact .inr (hd k ok hk hok e he hb)

/-- The lexically first operation that has not come up may be taken first. -/
theorem AAny_first {G : TL → HL → Prop} (hG : ∀ T1 T2 H1 H2, aget T1 = aget T2 → aget H1 = aget H2 → G T1 H1 → G T2 H2) (htab : ∀ listed, DC ops listed → TabOk ops listed tab) {k : Nat} {ok : Oper} (hok : ops[k]? = some ok) :
    ∀ (fuel : Nat) (listed : Array Bool) (T T1 : TL) (H H1 : HL), listed.size = ops.size → DC ops listed →
      (∀ j oj, ops[j]? = some oj → j ≠ k → ¬ LL listed j → (tab.getD j 0).testBit k = false → ok.apart ops oj = true ∧ compat (cl.getD k 0) (cl.getD j 0) = true) →
      k ∈ Region.ready .any ops listed → stepD P cs nt ops fr tab cl k T H = some (T1, H1) → AAny P cs nt ops fr tab cl G fuel (listed.setIfInBounds k true) T1 H1 → AAny P cs nt ops fr tab cl G (fuel + 1) listed T H := by
  intro fuel
  induction fuel with
  | zero =>
    intro listed T T1 H H1 _ _ _ hr hst hA
    refine ⟨fun h => (by rw [h] at hr; cases hr), fun j hj => ?_⟩
    by_cases hjk : j = k
    · subst hjk; exact ⟨T1, H1, hst, hA⟩
    · have := ready_mono hj hjk
      rw [hA.1] at this
      cases this
  | succ fuel ih =>
    intro listed T T1 H H1 hs hd hfree hr hst hA
    refine ⟨fun h => (by rw [h] at hr; cases hr), fun j hj => ?_⟩
    by_cases hjk : j = k
    · subst hjk; exact ⟨T1, H1, hst, hA⟩
    · obtain ⟨T2, H2, hst2, hA2⟩ := hA.2 j (ready_mono hj hjk)
      obtain ⟨hjlt, hjn, oj, hoj, hjall⟩ := ready_facts hs hj
      obtain ⟨hklt, hkn, ok', hok', hkall⟩ := ready_facts hs hr
      rw [hok] at hok'; cases hok'
      have bit : ∀ (i m : Nat) (oi : Oper), ops[i]? = some oi → (∀ e ∈ oi.after, Region.binds .any e = true → LL listed e.on) → ¬ LL listed m → (tab.getD i 0).testBit m = false := fun i m oi hoi hall hm => by
        cases hb : (tab.getD i 0).testBit m with
        | false => rfl
        | true =>
          exfalso
          cases ht : tab[i]? with
          | none => rw [List.getD_eq_getElem?_getD, ht] at hb; simp at hb
          | some b =>
            rw [List.getD_eq_getElem?_getD, ht] at hb
            exact hm (htab listed hd i b ht oi hoi hall m hb)
      have hbj := bit j k oj hoj hjall hkn
      have hbk := bit k j ok hok hkall hjn
      obtain ⟨hap, hc⟩ := hfree j oj hoj hjk hjn hbj
      obtain ⟨T1', H1', T2', H2', g1, g2, g3, g4⟩ := commute hok hoj (Ne.symm hjk) hap hbk hbj hc hst hst2
      refine ⟨T1', H1', g1, ?_⟩
      refine ih (listed.setIfInBounds j true) T1' T2' H1' H2' (by simpa using hs) (DC_set hs hd hj) (fun i oi hoi hik hin hbi => ?_) (ready_mono hr (Ne.symm hjk)) g2 ?_
      · refine hfree i oi hoi hik (fun h => hin ?_) hbi
        rw [LL_set (by omega)]; exact .inr h
      · rw [Array.setIfInBounds_comm _ _ hjk]
        exact AAny_ext hG fuel _ _ _ _ _ g3.symm g4.symm hA2
end
end Go.Eng
