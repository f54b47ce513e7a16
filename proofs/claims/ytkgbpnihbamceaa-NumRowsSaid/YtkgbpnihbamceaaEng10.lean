/- Engine, part 10: a step of a region; regions in the order of the text. -/
import Derived.Test.YtkgbpnihbamceaaEng9
import Derived.Orders
namespace Go.Eng
set_option linter.unusedVariables false
set_option linter.unusedSimpArgs false
open Go

abbrev TL := List (Nat × AVal)
abbrev HL := List (Nat × AObj)

/-- Is an operation to be carried out? -/
def wantA (ops : Array Oper) (τ : Nat → Option AVal) (o : Oper) : Option Bool :=
  match o.guard with
  | none => some true
  | some (j, want) => match ops[j]? with
    | none => some false
    | some g => match g.dst with
      | none => some false
      | some d => match τ d with
        | some (.bool b) => some (b == want)
        | some (.tup _) => some false
        | _ => none
def putT (nt : Nat) (T : TL) (dst : Option Tmp) (v : AVal) : Option TL :=
  match dst with
  | none => some T
  | some d => cond (Nat.ble (d + 1) nt) (some (aset T d v)) none

/-- How an abstract frame and world stand to the model's. -/
structure RRel (P : Program) (σ : Sig) (nt : Nat) (T : TL) (H : HL) (a : Act) (w : World) : Prop where
  tmps : TRel σ (aget T) a
  size : a.tmps.size = nt
  defers : a.defers = []
  heap : HRel σ (aget H) w
  glob : GRel P σ

theorem TRel.mono {σ σ' : Sig} (h : Sig.le σ σ') {T : Tmps} {a : Act} (ht : TRel σ T a) : TRel σ' T a := fun s v hv => by
  obtain ⟨v', h1, h2⟩ := ht s v hv
  exact ⟨v', h1, h2.mono h⟩
theorem RRel.env {P : Program} {σ : Sig} {nt : Nat} {T : TL} {H : HL} {a : Act} {w : World} (h : RRel P σ nt T H a w) : Env σ (opd P (aget T)) a.eval := fun _ _ hx => opd_ok hx h.tmps h.glob

theorem RRel.put {P : Program} {σ σ' : Sig} {nt : Nat} {T T' : TL} {H H' : HL} {a : Act} {w w' : World} (h : RRel P σ nt T H a w) (hl : Sig.le σ σ') (hH : HRel σ' (aget H') w') {dst : Option Tmp} {v : AVal} {v' : Value} (hv : VR σ' v v')
    (hp : putT nt T dst v = some T') : RRel P σ' nt T' H' (a.put dst v') w' := by
  cases dst with
  | none =>
    simp only [putT, Option.some.injEq] at hp
    subst hp
    exact ⟨h.tmps.mono hl, h.size, h.defers, hH, h.glob.mono hl⟩
  | some d =>
    simp only [putT] at hp
    cases hb : Nat.ble (d + 1) nt <;> rw [hb] at hp <;> simp only [cond_true, cond_false, Option.some.injEq] at hp
    · cases hp
    · subst hp
      have hd := Nat.le_of_ble_eq_true hb
      refine ⟨fun s u hu => ?_, by simp [Act.put, h.size], h.defers, hH, h.glob.mono hl⟩
      rw [aget_aset] at hu
      split at hu
      · rename_i e
        subst e; cases hu
        exact ⟨v', by simp only [Act.put]; rw [Array.getElem?_setIfInBounds_self, if_pos (by rw [h.size]; omega)], hv⟩
      · rename_i e
        obtain ⟨u', h1, h2⟩ := h.tmps s u hu
        exact ⟨u', by simp [Act.put, Array.getElem?_setIfInBounds_ne e, h1], h2.mono hl⟩

theorem wantA_ok {P : Program} {σ : Sig} {nt : Nat} {T : TL} {H : HL} {a : Act} {w : World} (h : RRel P σ nt T H a w) {ops : Array Oper} {o : Oper} {b : Bool} (hw : wantA ops (aget T) o = some b) :
    Region.wanted o (yielded ops a.tmps) = b := by
  unfold wantA at hw
  unfold Region.wanted
  split at hw
  · rename_i hg
    cases hw
    simp [hg]
  · rename_i j want hg
    simp only [hg]
    split at hw
    · rename_i hj
      cases hw
      simp [yielded, hj]
    · rename_i g hj
      split at hw
      · rename_i hd
        cases hw
        simp [yielded, hj, hd]
      · rename_i d hd
        split at hw
        · rename_i t ht
          cases hw
          obtain ⟨v', h1, h2⟩ := h.tmps d _ ht
          cases h2
          simp [yielded, hj, hd, h1]
        · rename_i vs ht
          cases hw
          obtain ⟨v', h1, h2⟩ := h.tmps d _ ht
          cases h2
          simp [yielded, hj, hd, h1]
        · cases hw

/-- An operation, taken. -/
def stepA (P : Program) (cs : CS) (nt : Nat) (ops : Array Oper) (base : Nat) (o : Oper) (T : TL) (H : HL) : Option (TL × HL) :=
  match wantA ops (aget T) o with
  | none => none
  | some false => match putT nt T o.dst (.tup []) with
    | some T' => some (T', H)
    | none => none
  | some true => match effA P cs (opd P (aget T)) o with
    | none => none
    | some e => match e.app base H with
      | none => none
      | some (v, H') => match putT nt T o.dst v with
        | some T' => some (T', H')
        | none => none

theorem stepA_ok {P : Program} {cs : CS} (hcs : CSOk P cs) {σ : Sig} {nt : Nat} {T T' : TL} {H H' : HL} {a : Act} {w : World} {ops : Array Oper} {base i : Nat} {o : Oper} (hi : ops[i]? = some o) (h : stepA P cs nt ops base o T H = some (T', H')) (hr : RRel P σ nt T H a w)
    (hf : Free σ base) {K : Act → World → Prop} {Q : Exit → Act → World → Prop}
    (hK : ∀ σ' a' w', RRel P σ' nt T' H' a' w' → Frm σ (aget H) w σ' (aget H') w' → Only σ σ' base → K a' w') : wpOp P ops Q i K a w := by
  unfold stepA at h
  unfold wpOp
  simp only [hi]
  split at h
  · cases h
  · rename_i hw
    rw [wantA_ok hr hw]
    simp only [Bool.false_eq_true, if_false]
    split at h
    · rename_i T1 hp
      cases h
      exact hK σ _ w (hr.put (Sig.le_refl σ) hr.heap (.tup rfl fun i v v' h => by simp at h) hp) (Frm.refl _ _ _) (Only.refl _ _)
    · cases h
  · rename_i hw
    rw [wantA_ok hr hw]
    simp only [if_true]
    split at h
    · cases h
    · rename_i e he
      split at h
      · cases h
      · rename_i v H1 ha
        split at h
        · rename_i T1 hp
          cases h
          refine .inl (effA_ok hcs hr.env hr.glob he H w base v H' hr.heap ha hf K Q fun σ' v' w' h1 h2 h3 h4 => ?_)
          exact hK σ' _ w' (hr.put h3.ext h2 h1 hp) h3 h4
        · cases h

/-- A region in the order of the text: operation i has the names from 'fr + 8 i' on. -/
def runA (P : Program) (cs : CS) (nt : Nat) (ops : Array Oper) : List Oper → Nat → TL → HL → Option (TL × HL)
  | [], _, T, H => some (T, H)
  | o :: l, base, T, H => match stepA P cs nt ops base o T H with
    | none => none
    | some (T', H') => runA P cs nt ops l (base + 8) T' H'

/-- The names from 'fr' on are free. -/
def Fresh (σ : Sig) (fr : Nat) : Prop := ∀ n, fr ≤ n → σ n = none
theorem Fresh.free {σ : Sig} {fr : Nat} (h : Fresh σ fr) : Free σ fr := fun j _ => h _ (by omega)
theorem Fresh.only {σ σ' : Sig} {fr : Nat} (h : Fresh σ fr) (ho : Only σ σ' fr) : Fresh σ' (fr + 8) := fun n hn => by rw [ho n (.inr (by omega))]; exact h n (by omega)

theorem runA_ok {P : Program} {cs : CS} (hcs : CSOk P cs) {nt : Nat} {ops : Array Oper} {Q : Exit → Act → World → Prop} : ∀ (l : List Oper) (k base : Nat) (σ : Sig) (T T' : TL) (H H' : HL) (a : Act) (w : World), (∀ j, l[j]? = ops[k + j]?) →
    runA P cs nt ops l base T H = some (T', H') → RRel P σ nt T H a w → Fresh σ base →
    (∀ σ' a' w', RRel P σ' nt T' H' a' w' → Frm σ (aget H) w σ' (aget H') w' → Fresh σ' (base + 8 * l.length) → Q .normal a' w') → wpOps P ops Q (List.range' k l.length) a w := by
  intro l
  induction l with
  | nil =>
    intro k base σ T T' H H' a w _ h hr hf hQ
    simp only [runA, Option.some.injEq, Prod.mk.injEq] at h
    obtain ⟨rfl, rfl⟩ := h
    exact hQ σ a w hr (Frm.refl _ _ _) (by simpa using hf)
  | cons o l ih =>
    intro k base σ T T' H H' a w hl h hr hf hQ
    simp only [runA] at h
    split at h
    · cases h
    · rename_i T1 H1 h1
      have hi : ops[k]? = some o := by simpa using (hl 0).symm
      simp only [List.length_cons, List.range'_succ, wpOps_cons]
      refine stepA_ok hcs hi h1 hr hf.free fun σ' a' w' g1 g2 g3 => ?_
      refine ih (k + 1) (base + 8) σ' T1 T' H1 H' a' w' (fun j => by have := hl (j + 1); simpa [Nat.add_assoc, Nat.add_comm 1 j] using this) h g1 (hf.only g3) fun σ'' a'' w'' q1 q2 q3 => ?_
      exact hQ σ'' a'' w'' q1 (g2.trans q2) (by simp only [List.length_cons]; rw [show base + 8 * (l.length + 1) = base + 8 + 8 * l.length by omega]; exact q3)
end Go.Eng
