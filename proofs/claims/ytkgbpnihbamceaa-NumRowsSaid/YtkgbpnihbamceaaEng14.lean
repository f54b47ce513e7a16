/- Engine, part 14: a region, in the order of the text or in any. -/
import Derived.Test.YtkgbpnihbamceaaEng13
namespace Go.Eng
set_option linter.unusedVariables false
set_option linter.unusedSimpArgs false
open Go

/-- The run in the order of the text, with each operation's kind. -/
def runK (P : Program) (cs : CS) (nt : Nat) (ops : Array Oper) (fr : Nat) (tab : List Nat) : List Oper → Nat → TL → HL → Option (TL × HL × List Nat)
  | [], _, T, H => some (T, H, [])
  | o :: l, k, T, H => match kindA P cs ops o T with
    | none => none
    | some e => match cond (seesO fr (tab.getD k 0) e) (stepE nt (fr + 8 * k) o e T H) none with
      | none => none
      | some (T', H') => match runK P cs nt ops fr tab l (k + 1) T' H' with
        | none => none
        | some (T'', H'', cl) => some (T'', H'', clsO e :: cl)
def laterOk (ops : Array Oper) (tab cl : List Nat) (k : Nat) (ok : Oper) : List Oper → Nat → Bool
  | [], _ => true
  | oj :: l, j => cond (cond ((tab.getD j 0).testBit k) true (ok.apart ops oj && compat (cl.getD k 0) (cl.getD j 0))) (laterOk ops tab cl k ok l (j + 1)) false
def readyOk (k : Nat) : List Edge → Bool
  | [] => true
  | e :: es => cond (cond (Region.binds .any e) (Nat.ble (e.on + 1) k) true) (readyOk k es) false
def pairsOk (ops : Array Oper) (tab cl : List Nat) : List Oper → Nat → Bool
  | [], _ => true
  | o :: l, k => cond (readyOk k o.after.toList) (cond (laterOk ops tab cl k o l (k + 1)) (pairsOk ops tab cl l (k + 1)) false) false

theorem laterOk_spec {ops : Array Oper} {tab cl : List Nat} {k : Nat} {ok : Oper} : ∀ {l : List Oper} {j : Nat}, laterOk ops tab cl k ok l j = true → ∀ i oi, l[i]? = some oi → (tab.getD (j + i) 0).testBit k = false → ok.apart ops oi = true ∧ compat (cl.getD k 0) (cl.getD (j + i) 0) = true
  | [], _, _, i, oi, hi, _ => by simp at hi
  | oj :: l, j, h, i, oi, hi, ht => by
    simp only [laterOk] at h
    cases hc : (cond ((tab.getD j 0).testBit k) true (ok.apart ops oj && compat (cl.getD k 0) (cl.getD j 0))) <;> rw [hc] at h <;> simp only [cond_true, cond_false] at h
    · cases h
    · cases i with
      | zero =>
        simp at hi ht
        subst hi
        simp only [List.getD_eq_getElem?_getD] at hc
        rw [ht] at hc
        simpa [List.getD_eq_getElem?_getD] using hc
      | succ i =>
        have := laterOk_spec h i oi (by simpa using hi) (by rw [show j + 1 + i = j + (i + 1) by omega]; exact ht)
        rw [show j + 1 + i = j + (i + 1) by omega] at this
        exact this
theorem readyOk_spec {k : Nat} : ∀ {es : List Edge}, readyOk k es = true → ∀ e ∈ es, Region.binds .any e = true → e.on < k
  | [], _, e, he, _ => by cases he
  | x :: es, h, e, he, hb => by
    simp only [readyOk] at h
    cases hc : (cond (Region.binds .any x) (Nat.ble (x.on + 1) k) true) <;> rw [hc] at h <;> simp only [cond_true, cond_false] at h
    · cases h
    · rcases List.mem_cons.1 he with rfl | he
      · rw [hb] at hc
        simp only [cond_true] at hc
        have := Nat.le_of_ble_eq_true hc; omega
      · exact readyOk_spec h e he hb

section
variable {P : Program} {cs : CS} {nt : Nat} {ops : Array Oper} {fr : Nat} {tab cl : List Nat}

theorem AAny_lex {G : TL → HL → Prop} (hG : ∀ T1 T2 H1 H2, aget T1 = aget T2 → aget H1 = aget H2 → G T1 H1 → G T2 H2) (htab : ∀ listed, DC ops listed → TabOk ops listed tab) :
    ∀ (l : List Oper) (k : Nat) (listed : Array Bool) (T T' : TL) (H H' : HL) (cl' : List Nat), (∀ j, l[j]? = ops[k + j]?) → listed.size = ops.size → (∀ i, LL listed i ↔ i < k) → k + l.length = ops.size → DC ops listed →
      runK P cs nt ops fr tab l k T H = some (T', H', cl') → (∀ j, cl'[j]? = cl[k + j]?) → pairsOk ops tab cl l k = true → G T' H' → AAny P cs nt ops fr tab cl G l.length listed T H
  | [], k, listed, T, T', H, H', cl', _, hs, hL, hk, _, hrun, _, _, hg => by
    simp only [runK, Option.some.injEq, Prod.mk.injEq] at hrun
    obtain ⟨rfl, rfl, _⟩ := hrun
    refine ⟨?_, hg⟩
    cases hr : Region.ready .any ops listed with
    | nil => rfl
    | cons i r =>
      exfalso
      have hi : i ∈ Region.ready .any ops listed := by rw [hr]; simp
      obtain ⟨h1, h2, _⟩ := ready_facts hs hi
      exact h2 ((hL i).2 (by simp at hk; omega))
  | o :: l, k, listed, T, T', H, H', cl', hl, hs, hL, hk, hd, hrun, hcl, hp, hg => by
    have ho : ops[k]? = some o := by simpa using (hl 0).symm
    simp only [runK] at hrun
    cases hkd : kindA P cs ops o T with
    | none => rw [hkd] at hrun; cases hrun
    | some e =>
      rw [hkd] at hrun
      simp only at hrun
      cases hse : seesO fr (tab.getD k 0) e with
      | false => rw [hse] at hrun; cases hrun
      | true =>
        rw [hse] at hrun
        simp only [cond_true] at hrun
        cases hst : stepE nt (fr + 8 * k) o e T H with
        | none => rw [hst] at hrun; cases hrun
        | some p =>
          obtain ⟨T1, H1⟩ := p
          rw [hst] at hrun
          simp only at hrun
          cases hrk : runK P cs nt ops fr tab l (k + 1) T1 H1 with
          | none => rw [hrk] at hrun; cases hrun
          | some q =>
            obtain ⟨T2, H2, cl2⟩ := q
            rw [hrk] at hrun
            simp only [Option.some.injEq, Prod.mk.injEq] at hrun
            obtain ⟨rfl, rfl, rfl⟩ := hrun
            have hclk : clsO e = cl.getD k 0 := by
              have := hcl 0
              simp at this
              rw [List.getD_eq_getElem?_getD, ← this]; rfl
            simp only [pairsOk] at hp
            cases hr1 : readyOk k o.after.toList with
            | false => rw [hr1] at hp; cases hp
            | true =>
              cases hr2 : laterOk ops tab cl k o l (k + 1) with
              | false => rw [hr1, hr2] at hp; cases hp
              | true =>
                rw [hr1, hr2] at hp
                simp only [cond_true] at hp
                have hklt : k < ops.size := (Array.getElem?_eq_some_iff.1 ho).1
                have hready : k ∈ Region.ready .any ops listed := by
                  refine mem_ready.2 ⟨(LL_of_getD (by omega)).2 (fun h => by have := (hL k).1 h; omega), o, ho, fun e he hb => ?_⟩
                  exact (hL e.on).2 (readyOk_spec hr1 e (by simpa using he) hb)
                refine AAny_first hG htab ho l.length listed T T1 H H1 hs hd (fun j oj hoj hjk hjn hbj => ?_) hready (stepD_of ho hkd hse hclk hst) ?_
                · have hj : k < j := by
                    have : ¬ j < k := fun h => hjn ((hL j).2 h)
                    omega
                  have := laterOk_spec hr2 (j - (k + 1)) oj (by have := hl (j - k); rw [show k + (j - k) = j by omega, hoj] at this; rw [← this, show j - k = (j - (k + 1)) + 1 by omega]; simp) (by rw [show k + 1 + (j - (k + 1)) = j by omega]; exact hbj)
                  rw [show k + 1 + (j - (k + 1)) = j by omega] at this
                  exact this
                · refine AAny_lex hG htab l (k + 1) _ T1 _ H1 _ cl2 (fun j => by have := hl (j + 1); simpa [Nat.add_assoc, Nat.add_comm 1 j] using this) (by simpa using hs) (fun i => ?_) (by simp at hk ⊢; omega) (DC_set hs hd hready) hrk (fun j => by have := hcl (j + 1); simpa [Nat.add_assoc, Nat.add_comm 1 j] using this) hp hg
                  rw [LL_set (by omega), hL]; omega

theorem wpAny_of {Q : Exit → Act → World → Prop} (hcs : CSOk P cs) {G : TL → HL → Prop} : ∀ (fuel : Nat) (listed : Array Bool) (T : TL) (H : HL) (σ : Sig) (a : Act) (w : World), AAny P cs nt ops fr tab cl G fuel listed T H → listed.size = ops.size → RRel P σ nt T H a w →
    (∀ i, i < ops.size → ¬ LL listed i → Free σ (fr + 8 * i)) → Fresh σ (fr + 8 * ops.size) →
    (∀ σ' T' H' a' w', G T' H' → RRel P σ' nt T' H' a' w' → Frm σ (aget H) w σ' (aget H') w' → Fresh σ' (fr + 8 * ops.size) → Q .normal a' w') → wpAny P .any ops Q fuel listed a w
  | 0, listed, T, H, σ, a, w, hA, _, hr, _, hfr, hQ => ⟨hA.1, hQ σ T H a w hA.2 hr (Frm.refl _ _ _) hfr⟩
  | fuel + 1, listed, T, H, σ, a, w, hA, hs, hr, hfree, hfr, hQ => by
    refine ⟨fun h0 => hQ σ T H a w (hA.1 h0) hr (Frm.refl _ _ _) hfr, fun i hi => ?_⟩
    obtain ⟨T1, H1, hst, hA1⟩ := hA.2 i hi
    obtain ⟨o, e, ho, hk, _, _, hse⟩ := stepD_some hst
    obtain ⟨hilt, hin, _⟩ := ready_facts hs hi
    have hstA : stepA P cs nt ops (fr + 8 * i) o T H = some (T1, H1) := by rw [stepA_kind, hk]; exact hse
    refine stepA_ok hcs ho hstA hr (hfree i hilt hin) fun σ' a' w' g1 g2 g3 => ?_
    refine wpAny_of hcs fuel _ T1 H1 σ' a' w' hA1 (by simpa using hs) g1 (fun m hm hmn => ?_) (fun n hn => by rw [g3 n (.inr (by omega))]; exact hfr n hn) fun σ'' T'' H'' a'' w'' q1 q2 q3 q4 => hQ σ'' T'' H'' a'' w'' q1 q2 (g2.trans q3) q4
    rw [LL_set (by omega)] at hmn
    have hmi : m ≠ i := fun e => hmn (.inl e)
    intro j hj
    rw [g3 _ (by omega)]
    exact hfree m hm (fun h => hmn (.inr h)) j hj
end

/-- A region. -/
def regA (P : Program) (cs : CS) (nt : Nat) (ops : Array Oper) (draw : Bool) (fr : Nat) (T : TL) (H : HL) : Option (TL × HL) :=
  match draw with
  | false => runA P cs nt ops ops.toList fr T H
  | true => match runK P cs nt ops fr (befs ops.toList []) ops.toList 0 T H with
    | none => none
    | some (T', H', cl) => cond (pairsOk ops (befs ops.toList []) cl ops.toList 0) (some (T', H')) none

theorem RRel.ext {P : Program} {σ : Sig} {nt : Nat} {T T' : TL} {H H' : HL} {a : Act} {w : World} (h : RRel P σ nt T H a w) (hT : aget T = aget T') (hH : aget H = aget H') : RRel P σ nt T' H' a w :=
  ⟨by rw [← hT]; exact h.tmps, h.size, h.defers, by rw [← hH]; exact h.heap, h.glob⟩

theorem regA_ok {P : Program} {cs : CS} (hcs : CSOk P cs) (hm : P.follows .mixedOrders = true) {nt : Nat} {id : Nat} {ops : Array Oper} {draw : Bool} {fr : Nat} {T T' : TL} {H H' : HL} (h : regA P cs nt ops draw fr T H = some (T', H'))
    {σ : Sig} {a : Act} {w : World} (hr : RRel P σ nt T H a w) (hfr : Fresh σ fr) {Q : Exit → Act → World → Prop}
    (hQ : ∀ σ' a' w', RRel P σ' nt T' H' a' w' → Frm σ (aget H) w σ' (aget H') w' → Fresh σ' (fr + 8 * ops.size) → Q .normal a' w') : (Code.region id ops draw).wp P Q a w := by
  unfold regA at h
  cases draw with
  | false =>
    simp only at h
    refine wp_region ?_
    have := runA_ok hcs (Q := Q) ops.toList 0 fr σ T T' H H' a w (by simp) h hr hfr (by simpa using hQ)
    rw [List.range_eq_range']
    simpa using this
  | true =>
    simp only at h
    cases hrun : runK P cs nt ops fr (befs ops.toList []) ops.toList 0 T H with
    | none => rw [hrun] at h; cases h
    | some q =>
      obtain ⟨T2, H2, cl⟩ := q
      rw [hrun] at h
      simp only at h
      cases hp : pairsOk ops (befs ops.toList []) cl ops.toList 0 with
      | false => rw [hp] at h; cases h
      | true =>
        rw [hp] at h
        simp only [cond_true, Option.some.injEq, Prod.mk.injEq] at h
        obtain ⟨rfl, rfl⟩ := h
        refine wp_region_any hm ?_
        have hall : ∀ i, ¬ LL (Array.replicate ops.size false) i := fun i h => by
          unfold LL at h
          simp only [Array.getD_eq_getD_getElem?, Array.getElem?_replicate] at h
          split at h <;> simp at h
        have hdc : DC ops (Array.replicate ops.size false) := fun i o hi _ _ _ _ => absurd hi (hall i)
        have htab : ∀ listed, DC ops listed → TabOk ops listed (befs ops.toList []) := fun listed hd => befs_ok hd ops.toList [] (by simp) (fun j b hj => by simp at hj)
        have hA := AAny_lex (P := P) (cs := cs) (nt := nt) (fr := fr) (cl := cl) (G := fun X Y => aget X = aget T2 ∧ aget Y = aget H2) (fun T1 T3 H1 H3 a1 a2 a3 => ⟨a1 ▸ a3.1, a2 ▸ a3.2⟩) htab ops.toList 0 (Array.replicate ops.size false) T T2 H H2 cl (by simp) (by simp)
          (fun i => ⟨fun h => absurd h (hall i), fun h => by omega⟩) (by simp) hdc hrun (by simp) hp ⟨rfl, rfl⟩
        refine wpAny_of (tab := befs ops.toList []) (cl := cl) hcs ops.size _ T H σ a { w with drawn := w.drawn + 1 } (by simpa using hA) (by simp) ⟨hr.tmps, hr.size, hr.defers, hr.heap.drew rfl, hr.glob⟩ (fun i _ _ j _ => hfr _ (by omega)) (fun n hn => hfr n (by omega)) ?_
        intro σ' T3 H3 a' w' g1 g2 g3 g4
        exact hQ σ' a' w' (g2.ext g1.1 g1.2) (by
          have g5 := g1.2
          rw [← g5]
          exact ⟨g3.ext, g3.size, g3.os, g3.output, g3.tape, g3.old⟩) g4
end Go.Eng
