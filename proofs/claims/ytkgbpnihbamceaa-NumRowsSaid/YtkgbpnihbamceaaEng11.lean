/- Engine, part 11: regions that draw their order: one run in the order of the text serves every order. -/
import Derived.Test.YtkgbpnihbamceaaEng10
namespace Go.Eng
set_option linter.unusedVariables false
set_option linter.unusedSimpArgs false
open Go

/-! ### what waits for what -/
def bef1 : List Edge → List Nat → Nat
  | [], _ => 0
  | e :: es, acc => cond (Region.binds .any e) (2 ^ e.on ||| acc.getD e.on 0 ||| bef1 es acc) (bef1 es acc)
def befs : List Oper → List Nat → List Nat
  | [], acc => acc
  | o :: l, acc => befs l (acc ++ [bef1 o.after.toList acc])

def LL (listed : Array Bool) (i : Nat) : Prop := listed.getD i false = true
/-- Whatever is listed, all that it waits for is listed. -/
def DC (ops : Array Oper) (listed : Array Bool) : Prop := ∀ i o, LL listed i → ops[i]? = some o → ∀ e ∈ o.after, Region.binds .any e = true → LL listed e.on

theorem bef1_bit {acc : List Nat} {k : Nat} : ∀ {es : List Edge}, (bef1 es acc).testBit k = true → ∃ e ∈ es, Region.binds .any e = true ∧ (e.on = k ∨ (acc.getD e.on 0).testBit k = true)
  | [], h => by simp [bef1] at h
  | e :: es, h => by
    simp only [bef1] at h
    cases hb : Region.binds .any e <;> rw [hb] at h <;> simp only [cond_true, cond_false] at h
    · obtain ⟨e', h1, h2⟩ := bef1_bit h
      exact ⟨e', by simp [h1], h2⟩
    · simp only [Nat.testBit_or, Bool.or_eq_true] at h
      rcases h with (h | h) | h
      · refine ⟨e, by simp, hb, .inl ?_⟩
        simpa [Nat.testBit_two_pow] using h
      · exact ⟨e, by simp, hb, .inr h⟩
      · obtain ⟨e', h1, h2⟩ := bef1_bit h
        exact ⟨e', by simp [h1], h2⟩

/-- The table's entries are right for what is listed. -/
def TabOk (ops : Array Oper) (listed : Array Bool) (acc : List Nat) : Prop :=
  ∀ (j b : Nat), acc[j]? = some b → ∀ (o : Oper), ops[j]? = some o → (∀ e ∈ o.after, Region.binds .any e = true → LL listed e.on) → ∀ k, b.testBit k = true → LL listed k
theorem befs_ok {ops : Array Oper} {listed : Array Bool} (hd : DC ops listed) : ∀ (l : List Oper) (acc : List Nat), (∀ j, l[j]? = ops[acc.length + j]?) → TabOk ops listed acc → TabOk ops listed (befs l acc)
  | [], acc, _, h => h
  | o :: l, acc, hl, h => by
    simp only [befs]
    refine befs_ok hd l _ (fun j => by have := hl (j + 1); simpa [Nat.add_assoc, Nat.add_comm 1 j] using this) ?_
    intro j b hj oj hoj hall k hk
    by_cases hlt : j < acc.length
    · rw [List.getElem?_append_left hlt] at hj
      exact h j b hj oj hoj hall k hk
    · rw [List.getElem?_append_right (by omega)] at hj
      have hje : j = acc.length := by
        have := (List.getElem?_eq_some_iff.1 hj).1
        simp at this; omega
      subst hje
      simp at hj
      subst hj
      have ho : ops[acc.length]? = some o := by simpa using (hl 0).symm
      rw [ho] at hoj; cases hoj
      obtain ⟨e, he, hb, hor⟩ := bef1_bit hk
      have hle := hall e (by simpa using he) hb
      rcases hor with rfl | hbit
      · exact hle
      · cases hacc : acc[e.on]? with
        | none => rw [List.getD_eq_getElem?_getD, hacc] at hbit; simp at hbit
        | some b =>
          rw [List.getD_eq_getElem?_getD, hacc] at hbit
          have hlt2 : e.on < acc.length := (List.getElem?_eq_some_iff.1 hacc).1
          cases hoo : ops[e.on]? with
          | none =>
            have h1 := Array.getElem?_eq_none_iff.1 hoo
            have h2 := (Array.getElem?_eq_some_iff.1 ho).1
            omega
          | some oe => exact h e.on b hacc oe hoo (hd e.on oe hle hoo) k hbit

/-! ### kinds of effects, and steps with what they look at -/
def EffA.cls : EffA → Nat
  | .pure _ => 0
  | .read _ _ => 1
  | .alloc _ _ => 2
  | .eff _ => 3
def compat (c d : Nat) : Bool := Nat.beq c 0 || Nat.beq d 0 || (!Nat.beq c 3 && !Nat.beq d 3)
/-- A read looks at a block that was there before the region, or that an operation made for which this one waits. -/
def sees (fr bef : Nat) : EffA → Bool
  | .read n _ => Nat.ble (n + 1) fr || bef.testBit ((n - fr) / 8)
  | _ => true

/-- What an operation does here, its kind with it (none: it is passed over). -/
def kindA (P : Program) (cs : CS) (ops : Array Oper) (o : Oper) (T : TL) : Option (Option EffA) :=
  match wantA ops (aget T) o with
  | none => none
  | some false => some none
  | some true => match effA P cs (opd P (aget T)) o with
    | none => none
    | some e => some (some e)
def stepE (nt : Nat) (base : Nat) (o : Oper) (e : Option EffA) (T : TL) (H : HL) : Option (TL × HL) :=
  match e with
  | none => match putT nt T o.dst (.tup []) with
    | some T' => some (T', H)
    | none => none
  | some e => match e.app base H with
    | none => none
    | some (v, H') => match putT nt T o.dst v with
      | some T' => some (T', H')
      | none => none
def clsO : Option EffA → Nat
  | none => 0
  | some e => e.cls
def seesO (fr bef : Nat) : Option EffA → Bool
  | none => true
  | some e => sees fr bef e
theorem stepA_kind {P : Program} {cs : CS} {nt : Nat} {ops : Array Oper} {base : Nat} {o : Oper} {T : TL} {H : HL} : stepA P cs nt ops base o T H = match kindA P cs ops o T with
    | none => none
    | some e => stepE nt base o e T H := by
  unfold stepA kindA stepE
  cases wantA ops (aget T) o with
  | none => rfl
  | some b =>
    cases b with
    | false => rfl
    | true => cases effA P cs (opd P (aget T)) o <;> rfl

/-! ### what an operation looks at -/
theorem evL_congr {ρ ρ' : Operand → Option AVal} : ∀ {l : List Operand}, (∀ x ∈ l, ρ x = ρ' x) → evL ρ l = evL ρ' l
  | [], _ => rfl
  | x :: l, h => by simp only [evL, h x (by simp), evL_congr (l := l) fun y hy => h y (by simp [hy])]
theorem evP_congr {ρ ρ' : Operand → Option AVal} : ∀ {l : List (Nat × Operand)}, (∀ p ∈ l, ρ p.2 = ρ' p.2) → evP ρ l = evP ρ' l
  | [], _ => rfl
  | (i, x) :: l, h => by
    have h1 := h (i, x) (by simp)
    simp only at h1
    simp only [evP, h1, evP_congr (l := l) fun y hy => h y (by simp [hy])]
theorem evO_congr {ρ ρ' : Operand → Option AVal} {x : Option Operand} (h : ∀ y, x = some y → ρ y = ρ' y) : evO ρ x = evO ρ' x := by
  cases x with
  | none => rfl
  | some y => simp only [evO, h y rfl]
theorem effA_congr {P : Program} {cs : CS} {ρ ρ' : Operand → Option AVal} {o : Oper} (h : ∀ x ∈ o.op.operands, ρ x = ρ' x) : effA P cs ρ o = effA P cs ρ' o := by
  obtain ⟨dst, op, type, pos, after, guard⟩ := o
  simp only [effA]
  cases op
  case move x => simp only; rw [h x (by simp [Op.operands])]
  case assign x => simp only; rw [h x (by simp [Op.operands])]
  case pick c a b => simp only; rw [h c (by simp [Op.operands]), h a (by simp [Op.operands]), h b (by simp [Op.operands])]
  case box t x => simp only; rw [h x (by simp [Op.operands])]
  case build t ps => simp only; rw [evP_congr (ρ' := ρ') fun p hp => h p.2 (by simp [Op.operands]; exact ⟨p.1, by simpa using hp⟩)]
  case buildSlice t n ps => simp only; rw [evP_congr (ρ' := ρ') fun p hp => h p.2 (by simp [Op.operands]; exact ⟨p.1, by simpa using hp⟩)]
  case load t x => simp only; rw [h x (by simp [Op.operands])]
  case store t x v => simp only; rw [h x (by simp [Op.operands]), h v (by simp [Op.operands])]
  case nilCheck x => simp only; rw [h x (by simp [Op.operands])]
  case binOp op t x y t' => simp only; rw [h x (by simp [Op.operands]), h y (by simp [Op.operands])]
  case unOp op t x => simp only; rw [h x (by simp [Op.operands])]
  case convert s d x => simp only; rw [h x (by simp [Op.operands])]
  case makeInterface t x => simp only; rw [h x (by simp [Op.operands])]
  case makeFunc fn first captured => simp only; rw [evL_congr (ρ' := ρ') fun x hx => h x (by simp [Op.operands]; exact .inr (by simpa using hx))]
  case makeSlice t l c => simp only; rw [h l (by simp [Op.operands]), h c (by simp [Op.operands])]
  case slice t x lo hi mx =>
    have h1 : ρ x = ρ' x := h x (by simp [Op.operands])
    have h2 : evO ρ lo = evO ρ' lo := evO_congr fun y hy => h y (by simp [Op.operands, hy])
    have h3 : evO ρ hi = evO ρ' hi := evO_congr fun y hy => h y (by simp [Op.operands, hy])
    simp only
    rw [h1, h2, h3]
  case fieldAddr t x k => simp only; rw [h x (by simp [Op.operands])]
  case field t x k => simp only; rw [h x (by simp [Op.operands])]
  case indexAddr t x i => simp only; rw [h x (by simp [Op.operands]), h i (by simp [Op.operands])]
  case index t x i => simp only; rw [h x (by simp [Op.operands]), h i (by simp [Op.operands])]
  case extract x k => simp only; rw [h x (by simp [Op.operands])]
  case call c =>
    have h1 : evL ρ c.args.toList = evL ρ' c.args.toList := evL_congr fun x hx => h x (by simp [Op.operands, Call.operands]; exact .inr (by simpa using hx))
    simp only
    rw [h1]
    cases hc : c.callee with
    | builtin b => rfl
    | invoke r m => rfl
    | value f =>
      have h2 : ρ f = ρ' f := h f (by simp [Op.operands, Call.operands, hc])
      simp only [h2]
  all_goals rfl
end Go.Eng
