/- Texts Eng25, Eng26, Eng30, Eng32, Eng33, Eng34: what they show stands ahead of each. -/
import Derived.Test.YthnejkbldfcpiaaV5
import Derived.OrdersIn
import Derived.LoopNIn
import Derived.ControlIn
import Derived.RangeFuncLeaves
import Derived.RangeFuncSeq
/- Engine, part 25: runs whose tests are foretold. -/
namespace Go.Eng
set_option linter.unusedVariables false
set_option linter.unusedSimpArgs false
open Go

def memN (n : Nat) : List Nat → Bool
  | [] => false
  | k :: l => cond (Nat.beq k n) true (memN n l)
def allT : List Bool → Bool
  | [] => true
  | b :: l => cond b (allT l) false
theorem allT_cons {b : Bool} {l : List Bool} (h : allT (b :: l) = true) : b = true ∧ allT l = true := by
  cases b with
  | true => exact ⟨rfl, h⟩
  | false => cases h
/-- What is foretold; what that asks, the last first. -/
structure OS where
  os : List Bool
  vs : List AVal
  ob : List Bool
/-- The sites: slots; a store's is its address's slot and 100000. -/
def isS (sy : List Nat) (o : Oper) : Bool :=
  match o.dst with
  | some d => memN d sy
  | none => match o.op with
    | .store _ (.tmp k) _ => memN (100000 + k) sy
    | _ => false
/-- The same simple value. -/
def eqS : AVal → AVal → Bool
  | .bool a, .bool b => a == b
  | .u8 a, .u8 b => a == b
  | .u32 a, .u32 b => a == b
  | .u64 a, .u64 b => a == b
  | .str a, .str b => a == b
  | .int k a, .int l b => decide (k = l) && (a == b)
  | _, _ => false
theorem eqS_eq {u v : AVal} (h : eqS u v = true) : u = v := by
  unfold eqS at h
  split at h
  · rw [eq_of_beq h]
  · rw [eq_of_beq h]
  · rw [eq_of_beq h]
  · rw [eq_of_beq h]
  · rw [eq_of_beq h]
  · simp only [Bool.and_eq_true, decide_eq_true_eq, beq_iff_eq] at h
    rw [h.1, h.2]
  · cases h
def isAt (c : List AVal) (off : Nat) (v : AVal) : Bool :=
  match c[off]? with
  | some u => eqS u v
  | none => false
theorem isAt_eq {c : List AVal} {off : Nat} {v : AVal} (h : isAt c off v = true) : c[off]? = some v := by
  unfold isAt at h
  split at h
  · rename_i u hu
    rw [hu, eqS_eq h]
  · cases h
/-- Summaries that ask something. -/
abbrev PS := FuncId → List AVal → Option (EffA × Bool)
def noPS : PS := fun _ _ => none
def PSOk (ps : PS) (cs : CS) : Prop := ∀ f args e, ps f args = some (e, true) → cs f args = some e
theorem noPS_ok (cs : CS) : PSOk noPS cs := fun _ _ _ h => by cases h
/-- What asks something, as what may not be. -/
def csP (ps : PS) : CS := fun f args => match ps f args with
  | some (e, c) => cond c (some e) none
  | none => none
theorem csP_ok {ps : PS} {cs : CS} : PSOk ps (csAlt (csP ps) cs) := fun f args v h => by
  unfold csAlt csP
  simp only [h, cond_true]
def psOne (f : FuncId) (g : List AVal → Option (EffA × Bool)) : PS := fun f' args => match Nat.beq f' f with
  | true => g args
  | false => none
def psAlt (a b : PS) : PS := fun f args => match a f args with
  | some e => some e
  | none => b f args
/-- Bounds of a slice, and that they are in order. -/
def sbI (x : Option AVal) (dflt : Int) : Option Int := match x with
  | none => some dflt
  | some v => toI v
def sbA (lo hi : Option AVal) (len : Nat) : Option (Int × Int × Bool) := match sbI lo 0, sbI hi (len : Int) with
  | some l, some h => some (l, h, decide (0 ≤ l) && (decide (l ≤ h) && decide (h ≤ (len : Int))))
  | _, _ => none
theorem sbA_ok {lo hi : Option AVal} {len : Nat} {l h : Int} (e : sbA lo hi len = some (l, h, true)) : boundsA lo hi len = some (l.toNat, h.toNat) := by
  unfold sbA at e
  split at e
  · rename_i l' h' hl hh
    simp only [Option.some.injEq, Prod.mk.injEq, Bool.and_eq_true, decide_eq_true_eq] at e
    obtain ⟨rfl, rfl, h0, h1, h2⟩ := e
    have b1 : boundA hi len len = some h'.toNat := by
      unfold boundA
      unfold sbI at hh
      cases hi with
      | none => cases hh; simp
      | some v => simp only at hh ⊢; rw [hh]; exact idx_of (by omega) (by omega)
    have b2 : boundA lo 0 h'.toNat = some l'.toNat := by
      unfold boundA
      unfold sbI at hl
      cases lo with
      | none => cases hl; simp
      | some v => simp only at hl ⊢; rw [hl]; exact idx_of (by omega) (by omega)
    unfold boundsA
    simp only [b1, b2]
  · cases e
/-- An operation at a site: what it answers, if what is asked holds. -/
def siteE (P : Program) (ps : PS) (ρ : Operand → Option AVal) (o : Oper) : Option (EffA × Bool) :=
  match o.op with
  | .call c => match c.callee, evL ρ c.args.toList with
    | .value f, some args => match ρ f with
      | some (.fn f cap) => cond (bodied P f) (ps f (args ++ cap)) none
      | _ => none
    | _, _ => none
  | .index t x i => match P.underlying t, ρ x, ρ i with
    | some .string, some (.str s), some i => match toI i with
      | some j => some (.pure (.u8 (s.getD j.toNat 0)), decide (0 ≤ j) && decide (j < (s.length : Int)))
      | none => none
    | _, _, _ => none
  | .indexAddr t x i => match P.underlying t, ρ x, ρ i with
    | some (.array len e), some (.ptr n off), some i => match szA P e, toI i with
      | some sz, some j => some (.pure (.ptr n (off + j.toNat * sz)), decide (0 ≤ j) && decide (j < (len : Int)))
      | _, _ => none
    | some (.slice e), some (.slice n off len esz), some i => match szA P e, toI i with
      | some sz, some j => cond (Nat.beq sz esz) (some (.pure (.ptr n (off + j.toNat * esz)), decide (0 ≤ j) && decide (j < (len : Int)))) none
      | _, _ => none
    | _, _, _ => none
  | .slice t x lo hi none => match P.underlying t, ρ x, evO ρ lo, evO ρ hi with
    | some .string, some (.str s), some lo, some hi => match sbA lo hi s.length with
      | some (l, h, b) => some (.pure (.str ((s.take h.toNat).drop l.toNat)), b)
      | none => none
    | some (.slice e), some (.slice n off len esz), some lo, some hi => match szA P e, sbA lo hi len with
      | some sz, some (l, h, b) => cond (Nat.beq sz esz) (some (.pure (.slice n (off + l.toNat * esz) (h.toNat - l.toNat) esz), b)) none
      | _, _ => none
    | _, _, _, _ => none
  | .binOp op _ x y _ => match op, ρ x, ρ y with
    | .add, some (.str a), some (.str b) => some (.pure (.str (a ++ b)), Nat.ble (a.length + b.length) 9223372036854775807)
    | _, _, _ => none
  | _ => none
theorem siteE_ok {P : Program} {ps : PS} {cs : CS} (hps : PSOk ps cs) {ρ : Operand → Option AVal} {o : Oper} {v : EffA} (h : siteE P ps ρ o = some (v, true)) : effA P cs ρ o = some v := by
  unfold siteE at h
  split at h
  · rename_i c ho
    split at h
    · rename_i f args hcal hargs
      split at h
      · rename_i fid cap hf
        cases hb : bodied P fid <;> rw [hb] at h <;> simp only [cond_true, cond_false] at h
        · cases h
        · simp only [effA, ho, hargs, hcal, hf, hb, cond_true]
          exact hps _ _ _ h
      · cases h
    · cases h
  · rename_i t x i ho
    split at h
    · rename_i s i' hu hx hi
      split at h
      · rename_i j hj
        simp only [Option.some.injEq, Prod.mk.injEq, Bool.and_eq_true, decide_eq_true_eq] at h
        obtain ⟨rfl, h0, h1⟩ := h
        have hlt : j.toNat < s.length := by omega
        simp only [effA, ho, hx, hi, indexA, hj, hu, idx_of h0 h1, List.getElem?_eq_getElem hlt, ofV]
        rw [List.getD_eq_getElem?_getD, List.getElem?_eq_getElem hlt]; rfl
      · cases h
    · cases h
  · rename_i t x i ho
    split at h
    · rename_i len e n off i' hu hx hi
      split at h
      · rename_i sz j hs hj
        simp only [Option.some.injEq, Prod.mk.injEq, Bool.and_eq_true, decide_eq_true_eq] at h
        obtain ⟨rfl, h0, h1⟩ := h
        simp only [effA, ho, hx, hi, indexAddrA, hj, hu, hs, idx_of h0 h1, ofV]
      · cases h
    · rename_i e n off len esz i' hu hx hi
      split at h
      · rename_i sz j hs hj
        cases hb : Nat.beq sz esz <;> rw [hb] at h <;> simp only [cond_true, cond_false] at h
        · cases h
        · simp only [Option.some.injEq, Prod.mk.injEq, Bool.and_eq_true, decide_eq_true_eq] at h
          obtain ⟨rfl, h0, h1⟩ := h
          simp only [effA, ho, hx, hi, indexAddrA, hj, hu, hs, idx_of h0 h1, hb, cond_true, ofV]
      · cases h
    · cases h
  · rename_i t x lo hi ho
    split at h
    · rename_i s lo' hi' hu hx hlo hhi
      split at h
      · rename_i l h' b hs
        simp only [Option.some.injEq, Prod.mk.injEq] at h
        obtain ⟨rfl, rfl⟩ := h
        simp only [effA, ho, hx, hlo, hhi, sliceA, hu, sbA_ok hs, ofV]
        rfl
      · cases h
    · rename_i e n off len esz lo' hi' hu hx hlo hhi
      split at h
      · rename_i sz l h' b hz hs
        cases hb : Nat.beq sz esz <;> rw [hb] at h <;> simp only [cond_true, cond_false] at h
        · cases h
        · simp only [Option.some.injEq, Prod.mk.injEq] at h
          obtain ⟨rfl, rfl⟩ := h
          simp only [effA, ho, hx, hlo, hhi, sliceA, hu, hz, hb, sbA_ok hs, cond_true, ofV]
          rfl
      · cases h
    · cases h
  · rename_i op t x y t' ho
    split at h
    · rename_i a b hx hy
      simp only [Option.some.injEq, Prod.mk.injEq] at h
      obtain ⟨rfl, h0⟩ := h
      simp only [effA, ho, hx, hy, nrm, binA, bin_s, h0, cond_true, ofV]
    · cases h
  · cases h
def kindS (P : Program) (ps : PS) (cs : CS) (sy : List Nat) (ops : Array Oper) (o : Oper) (T : TL) (q : OS) : Option (Option EffA × OS) :=
  match isS sy o with
  | false => match kindA P cs ops o T with
    | some e => some (e, q)
    | none => none
  | true => match wantA ops (aget T) o with
    | some true => match siteE P ps (opd P (aget T)) o with
      | some (e, c) => some (some e, ⟨q.os, q.vs, c :: q.ob⟩)
      | none => match kindA P cs ops o T with
        | some e => some (e, q)
        | none => none
    | _ => match kindA P cs ops o T with
      | some e => some (e, q)
      | none => none
theorem kindS_ok {P : Program} {ps : PS} {cs : CS} (hps : PSOk ps cs) {sy : List Nat} {ops : Array Oper} {o : Oper} {T : TL} {q q' : OS} {e : Option EffA} (h : kindS P ps cs sy ops o T q = some (e, q')) (ha : allT q'.ob = true) : kindA P cs ops o T = some e ∧ allT q.ob = true := by
  have key : ∀ {r : Option (Option EffA × OS)}, (match kindA P cs ops o T with | some e => some (e, q) | none => none) = some (e, q') → kindA P cs ops o T = some e ∧ allT q.ob = true := fun {r} hk => by
    split at hk
    · rename_i e' he
      simp only [Option.some.injEq, Prod.mk.injEq] at hk
      obtain ⟨rfl, rfl⟩ := hk
      exact ⟨he, ha⟩
    · cases hk
  unfold kindS at h
  split at h
  · exact key (r := none) h
  · split at h
    · rename_i hw
      split at h
      · rename_i v c hs
        simp only [Option.some.injEq, Prod.mk.injEq] at h
        obtain ⟨rfl, rfl⟩ := h
        obtain ⟨rfl, h2⟩ := allT_cons ha
        refine ⟨?_, h2⟩
        unfold kindA
        rw [hw]
        simp only [siteE_ok hps hs]
      · exact key (r := none) h
    · exact key (r := none) h
def bendT (d : Option Tmp) (T : TL) (q : OS) : TL × OS :=
  match d with
  | none => (T, q)
  | some d => match aget T d, q.os with
    | some (.bool t), b :: os => (aset T d (.bool b), ⟨os, q.vs, cond b t (!t) :: q.ob⟩)
    | _, _ => (T, q)
theorem aset_same : ∀ {T : TL} {d : Nat} {v : AVal}, aget T d = some v → aset T d v = T
  | [], d, v, h => by simp [aget] at h
  | (k, u) :: l, d, v, h => by
    simp only [aget] at h
    rcases beq_cases k d with ⟨he, hb⟩ | ⟨he, hb⟩ <;> rw [hb] at h <;> simp only [cond_true, cond_false] at h
    · subst he; cases h
      simp [aset, hb]
    · simp only [aset, hb, cond_false, aset_same h]
theorem bendT_ok {d : Option Tmp} {T T' : TL} {q q' : OS} (h : bendT d T q = (T', q')) (ha : allT q'.ob = true) : T' = T ∧ allT q.ob = true := by
  unfold bendT at h
  split at h
  · cases h; exact ⟨rfl, ha⟩
  · rename_i d
    split at h
    · rename_i t b os h1 h2
      cases h
      obtain ⟨h3, h4⟩ := allT_cons ha
      have : t = b := by cases b <;> cases t <;> first | rfl | cases h3
      subst this
      exact ⟨aset_same h1, h4⟩
    · cases h; exact ⟨rfl, ha⟩
/-- A value that is foretold: at sites from 200000 on. -/
def isV (sy : List Nat) (o : Oper) : Bool :=
  match o.dst with
  | some d => memN (200000 + d) sy
  | none => false
def bendV (d : Option Tmp) (T : TL) (q : OS) : TL × OS :=
  match d with
  | none => (T, q)
  | some d => match aget T d, q.vs with
    | some u, v :: vs => (aset T d v, ⟨q.os, vs, eqS u v :: q.ob⟩)
    | _, _ => (T, q)
theorem bendV_ok {d : Option Tmp} {T T' : TL} {q q' : OS} (h : bendV d T q = (T', q')) (ha : allT q'.ob = true) : T' = T ∧ allT q.ob = true := by
  unfold bendV at h
  split at h
  · cases h; exact ⟨rfl, ha⟩
  · rename_i d
    split at h
    · rename_i u v vs h1 h2
      cases h
      obtain ⟨h3, h4⟩ := allT_cons ha
      have := eqS_eq h3
      subst this
      exact ⟨aset_same h1, h4⟩
    · cases h; exact ⟨rfl, ha⟩
def bendS (sy : List Nat) (o : Oper) (T : TL) (q : OS) : TL × OS :=
  match isS sy o with
  | true => bendT o.dst T q
  | false => match isV sy o with
    | true => bendV o.dst T q
    | false => (T, q)
theorem bendS_ok {sy : List Nat} {o : Oper} {T T' : TL} {q q' : OS} (h : bendS sy o T q = (T', q')) (ha : allT q'.ob = true) : T' = T ∧ allT q.ob = true := by
  unfold bendS at h
  split at h
  · exact bendT_ok h ha
  · split at h
    · exact bendV_ok h ha
    · cases h; exact ⟨rfl, ha⟩
/-- A load, or a store, at a site. -/
def memS (P : Program) (ρ : Operand → Option AVal) (o : Oper) (H : HL) (q : OS) : Option (AVal × HL × OS) :=
  match o.op with
  | .load t a => match ρ a, isAggA P t, q.vs with
    | some (.ptr n off), some false, v :: vs => match aget H n with
      | some (.cells _ c) => some (v, H, ⟨q.os, vs, isAt c off v :: q.ob⟩)
      | none => none
    | _, _, _ => none
  | .store t a x => match ρ a, ρ x, szA P t with
    | some (.ptr n off), some v, some sz => match aget H n with
      | some (.cells false c) => cond (Nat.beq (cellsA v).length sz && (cellsA v).all oneA) (some (.tup [], aset H n (.cells false (putA c off (cellsA v))), ⟨q.os, q.vs, Nat.ble (off + (cellsA v).length) c.length :: q.ob⟩)) none
      | _ => none
    | _, _, _ => none
  | _ => none
theorem memS_ok {P : Program} {cs : CS} {ρ : Operand → Option AVal} {o : Oper} {H H' : HL} {q q' : OS} {v : AVal} {e : EffA} {base : Nat} (h : memS P ρ o H q = some (v, H', q')) (he : effA P cs ρ o = some e) (ha : allT q'.ob = true) : e.app base H = some (v, H') := by
  unfold memS at h
  split at h
  · rename_i t a ho
    split at h
    · rename_i n off v0 vs h1 h2 h3
      split at h
      · rename_i ro c hn
        simp only [Option.some.injEq, Prod.mk.injEq] at h
        obtain ⟨rfl, rfl, rfl⟩ := h
        have := isAt_eq (allT_cons ha).1
        simp only [effA, ho, h1, loadA, h2, Option.some.injEq] at he
        subst he
        simp only [EffA.app, hn, this]
      · cases h
    · cases h
  · rename_i t a x ho
    split at h
    · rename_i n off v0 sz h1 h2 h3
      split at h
      · rename_i c hn
        cases hb : (Nat.beq (cellsA v0).length sz && (cellsA v0).all oneA) <;> rw [hb] at h <;> simp only [cond_true, cond_false] at h
        · cases h
        · simp only [Option.some.injEq, Prod.mk.injEq] at h
          obtain ⟨rfl, rfl, rfl⟩ := h
          have := (allT_cons ha).1
          simp only [effA, ho, h1, h2, storeA, h3, hb, cond_true, Option.some.injEq] at he
          subst he
          simp only [writeA, EffA.app, hn, this, cond_true, appU]
      · cases h
    · cases h
  · cases h
theorem memS_mono {P : Program} {ρ : Operand → Option AVal} {o : Oper} {H H' : HL} {q q' : OS} {v : AVal} (h : memS P ρ o H q = some (v, H', q')) (ha : allT q'.ob = true) : allT q.ob = true := by
  unfold memS at h
  split at h
  · split at h
    · split at h
      · simp only [Option.some.injEq, Prod.mk.injEq] at h
        obtain ⟨rfl, rfl, rfl⟩ := h
        exact (allT_cons ha).2
      · cases h
    · cases h
  · split at h
    · split at h
      · rename_i v0 sz _ _ _ _ c _
        cases hb : (Nat.beq (cellsA v0).length sz && (cellsA v0).all oneA) <;> rw [hb] at h <;> simp only [cond_true, cond_false] at h
        · cases h
        · simp only [Option.some.injEq, Prod.mk.injEq] at h
          obtain ⟨rfl, rfl, rfl⟩ := h
          exact (allT_cons ha).2
      · cases h
    · cases h
  · cases h
def stepSE (P : Program) (sy : List Nat) (nt base : Nat) (o : Oper) (e : Option EffA) (T : TL) (H : HL) (q : OS) : Option (TL × HL × OS) :=
  match isS sy o, e with
  | true, some _ => match memS P (opd P (aget T)) o H q with
    | some (v, H', q') => match putT nt T o.dst v with
      | some T' => some (T', H', q')
      | none => none
    | none => match stepE nt base o e T H with
      | some (T', H') => some (T', H', q)
      | none => none
  | _, _ => match stepE nt base o e T H with
    | some (T', H') => some (T', H', q)
    | none => none
theorem stepSE_mono {P : Program} {sy : List Nat} {nt base : Nat} {o : Oper} {e : Option EffA} {T T' : TL} {H H' : HL} {q q' : OS} (h : stepSE P sy nt base o e T H q = some (T', H', q')) (ha : allT q'.ob = true) : allT q.ob = true := by
  unfold stepSE at h
  split at h
  · split at h
    · rename_i v H1 q1 hm
      split at h
      · simp only [Option.some.injEq, Prod.mk.injEq] at h
        obtain ⟨rfl, rfl, rfl⟩ := h
        exact memS_mono hm ha
      · cases h
    · split at h
      · simp only [Option.some.injEq, Prod.mk.injEq] at h
        obtain ⟨rfl, rfl, rfl⟩ := h
        exact ha
      · cases h
  · split at h
    · simp only [Option.some.injEq, Prod.mk.injEq] at h
      obtain ⟨rfl, rfl, rfl⟩ := h
      exact ha
    · cases h
theorem stepSE_ok {P : Program} {cs : CS} {sy : List Nat} {nt base : Nat} {ops : Array Oper} {o : Oper} {e : Option EffA} {T T' : TL} {H H' : HL} {q q' : OS} (h : stepSE P sy nt base o e T H q = some (T', H', q')) (hk : kindA P cs ops o T = some e) (ha : allT q'.ob = true) : stepE nt base o e T H = some (T', H') := by
  unfold stepSE at h
  split at h
  · rename_i e0 _
    split at h
    · rename_i v H1 q1 hm
      split at h
      · rename_i T1 hp
        simp only [Option.some.injEq, Prod.mk.injEq] at h
        obtain ⟨rfl, rfl, rfl⟩ := h
        have he : effA P cs (opd P (aget T)) o = some e0 := by
          unfold kindA at hk
          split at hk
          · cases hk
          · cases hk
          · split at hk
            · cases hk
            · rename_i hx
              cases hk
              exact hx
        unfold stepE
        simp only [memS_ok hm he ha, hp]
      · cases h
    · split at h
      · rename_i T1 H1 hs
        simp only [Option.some.injEq, Prod.mk.injEq] at h
        obtain ⟨rfl, rfl, rfl⟩ := h
        exact hs
      · cases h
  · split at h
    · rename_i T1 H1 hs
      simp only [Option.some.injEq, Prod.mk.injEq] at h
      obtain ⟨rfl, rfl, rfl⟩ := h
      exact hs
    · cases h
def runS (P : Program) (ps : PS) (cs : CS) (sy : List Nat) (nt : Nat) (ops : Array Oper) : List Oper → Nat → TL → HL → OS → Option (TL × HL × OS)
  | [], _, T, H, q => some (T, H, q)
  | o :: l, b, T, H, q => match kindS P ps cs sy ops o T q with
    | none => none
    | some (e, q1) => match stepSE P sy nt b o e T H q1 with
      | none => none
      | some (T1, H1, q1') => match bendS sy o T1 q1' with
        | (T2, q2) => runS P ps cs sy nt ops l (b + 8) T2 H1 q2
theorem runS_ok {P : Program} {ps : PS} {cs : CS} (hps : PSOk ps cs) {sy : List Nat} {nt : Nat} {ops : Array Oper} : ∀ {l : List Oper} {b : Nat} {T T' : TL} {H H' : HL} {q q' : OS}, runS P ps cs sy nt ops l b T H q = some (T', H', q') → allT q'.ob = true → runA P cs nt ops l b T H = some (T', H') ∧ allT q.ob = true
  | [], b, T, T', H, H', q, q', h, ha => by
    simp only [runS, Option.some.injEq, Prod.mk.injEq] at h
    obtain ⟨rfl, rfl, rfl⟩ := h
    exact ⟨rfl, ha⟩
  | o :: l, b, T, T', H, H', q, q', h, ha => by
    simp only [runS] at h
    split at h
    · cases h
    · rename_i e q1 hk
      split at h
      · cases h
      · rename_i T1 H1 q1' hs
        obtain ⟨g1, g2⟩ := runS_ok hps h ha
        generalize hb : bendS sy o T1 q1' = z at g1 g2
        obtain ⟨T2, q2⟩ := z
        obtain ⟨rfl, h3⟩ := bendS_ok hb g2
        obtain ⟨h4, h5⟩ := kindS_ok hps hk (stepSE_mono hs h3)
        refine ⟨?_, h5⟩
        simp only [runA]
        rw [stepA_kind, h4]
        simp only [stepSE_ok hs h4 h3]
        exact g1
def runKS (P : Program) (ps : PS) (cs : CS) (sy : List Nat) (nt : Nat) (ops : Array Oper) (fr : Nat) (tab : List Nat) : List Oper → Nat → TL → HL → OS → Option (TL × HL × List Nat × OS)
  | [], _, T, H, q => some (T, H, [], q)
  | o :: l, k, T, H, q => match kindS P ps cs sy ops o T q with
    | none => none
    | some (e, q1) => match cond (seesO fr (tab.getD k 0) e) (stepSE P sy nt (fr + 8 * k) o e T H q1) none with
      | none => none
      | some (T1, H1, q1') => match bendS sy o T1 q1' with
        | (T2, q2) => match runKS P ps cs sy nt ops fr tab l (k + 1) T2 H1 q2 with
          | none => none
          | some (T'', H'', cl, q3) => some (T'', H'', clsO e :: cl, q3)
theorem runKS_ok {P : Program} {ps : PS} {cs : CS} (hps : PSOk ps cs) {sy : List Nat} {nt : Nat} {ops : Array Oper} {fr : Nat} {tab : List Nat} : ∀ {l : List Oper} {k : Nat} {T T' : TL} {H H' : HL} {cl : List Nat} {q q' : OS}, runKS P ps cs sy nt ops fr tab l k T H q = some (T', H', cl, q') → allT q'.ob = true → runK P cs nt ops fr tab l k T H = some (T', H', cl) ∧ allT q.ob = true
  | [], k, T, T', H, H', cl, q, q', h, ha => by
    simp only [runKS, Option.some.injEq, Prod.mk.injEq] at h
    obtain ⟨rfl, rfl, rfl, rfl⟩ := h
    exact ⟨rfl, ha⟩
  | o :: l, k, T, T', H, H', cl, q, q', h, ha => by
    simp only [runKS] at h
    split at h
    · cases h
    · rename_i e q1 hk
      split at h
      · cases h
      · rename_i T1 H1 q1' hs
        generalize hb : bendS sy o T1 q1' = z at h
        obtain ⟨T2, q2⟩ := z
        simp only at h
        split at h
        · cases h
        · rename_i T'' H'' cl' q3 hr
          simp only [Option.some.injEq, Prod.mk.injEq] at h
          obtain ⟨rfl, rfl, rfl, rfl⟩ := h
          obtain ⟨g1, g2⟩ := runKS_ok hps hr ha
          obtain ⟨rfl, h3⟩ := bendS_ok hb g2
          cases hse : seesO fr (tab.getD k 0) e with
          | false => rw [hse] at hs; cases hs
          | true =>
            rw [hse, cond_true] at hs
            obtain ⟨h4, h5⟩ := kindS_ok hps hk (stepSE_mono hs h3)
            refine ⟨?_, h5⟩
            simp only [runK, h4, hse, cond_true, stepSE_ok hs h4 h3, g1]
def regS (P : Program) (ps : PS) (cs : CS) (sy : List Nat) (nt : Nat) (ops : Array Oper) (draw : Bool) (fr : Nat) (T : TL) (H : HL) (q : OS) : Option (TL × HL × OS) :=
  match draw with
  | false => runS P ps cs sy nt ops ops.toList fr T H q
  | true => match runKS P ps cs sy nt ops fr (befs ops.toList []) ops.toList 0 T H q with
    | none => none
    | some (T', H', cl, q') => cond (pairsOk ops (befs ops.toList []) cl ops.toList 0) (some (T', H', q')) none
theorem regS_ok {P : Program} {ps : PS} {cs : CS} (hps : PSOk ps cs) {sy : List Nat} {nt : Nat} {ops : Array Oper} {draw : Bool} {fr : Nat} {T T' : TL} {H H' : HL} {q q' : OS} (h : regS P ps cs sy nt ops draw fr T H q = some (T', H', q')) (ha : allT q'.ob = true) : regA P cs nt ops draw fr T H = some (T', H') ∧ allT q.ob = true := by
  unfold regS at h
  split at h
  · exact runS_ok hps h ha
  · split at h
    · cases h
    · rename_i T2 H2 cl q2 hr
      cases hp : pairsOk ops (befs ops.toList []) cl ops.toList 0 <;> rw [hp] at h <;> simp only [cond_true, cond_false] at h
      · cases h
      · simp only [Option.some.injEq, Prod.mk.injEq] at h
        obtain ⟨rfl, rfl, rfl⟩ := h
        obtain ⟨g1, g2⟩ := runKS_ok hps hr ha
        exact ⟨by simp only [regA, g1, hp, cond_true], g2⟩
def iterO (f : SA → OS → Option (XA × SA × OS)) (hd : SA → SA) : Nat → SA → OS → Option (XA × SA × OS)
  | 0, _, _ => none
  | n + 1, s, q => match f s q with
    | some (.normal, s', q') => iterO f hd n (hd s') q'
    | r => r
theorem iterO_ok {f : SA → OS → Option (XA × SA × OS)} {g : SA → Option (XA × SA)} {hd : SA → SA} (hf : ∀ s q x s' q', f s q = some (x, s', q') → allT q'.ob = true → g s = some (x, s') ∧ allT q.ob = true) : ∀ (n : Nat) (s : SA) (q : OS) (x : XA) (s' : SA) (q' : OS), iterO f hd n s q = some (x, s', q') → allT q'.ob = true → iterA g hd n s = some (x, s') ∧ allT q.ob = true
  | 0, s, q, x, s', q', h, ha => by cases h
  | n + 1, s, q, x, s', q', h, ha => by
    simp only [iterO] at h
    cases hs : f s q with
    | none => rw [hs] at h; cases h
    | some p =>
      obtain ⟨y, s1, q1⟩ := p
      rw [hs] at h
      cases y with
      | normal =>
        simp only at h
        obtain ⟨g1, g2⟩ := iterO_ok hf n _ _ x s' q' h ha
        obtain ⟨g3, g4⟩ := hf s q _ _ _ hs g2
        exact ⟨by simp only [iterA, g3]; exact g1, g4⟩
      | exit id =>
        simp only [Option.some.injEq, Prod.mk.injEq] at h
        obtain ⟨rfl, rfl, rfl⟩ := h
        obtain ⟨g3, g4⟩ := hf s q _ _ _ hs ha
        exact ⟨by simp only [iterA, g3], g4⟩
      | ret =>
        simp only [Option.some.injEq, Prod.mk.injEq] at h
        obtain ⟨rfl, rfl, rfl⟩ := h
        obtain ⟨g3, g4⟩ := hf s q _ _ _ hs ha
        exact ⟨by simp only [iterA, g3], g4⟩
def evT (P : Program) (ps : PS) (cs : CS) (sy : List Nat) (nt nn F bs : Nat) : Code → SA → OS → Option (XA × SA × OS)
  | .skip, s, q => some (.normal, s, q)
  | .label _, s, q => some (.normal, s, q)
  | .region _ ops d, s, q => match regS P ps cs sy nt ops d s.fr s.T s.H q with
    | some (T', H', q') => some (.normal, ⟨prune nn T', H', s.fr + 8 * ops.size⟩, q')
    | none => none
  | .seq a b, s, q => match evT P ps cs sy nt nn F bs a s q with
    | some (.normal, s', q') => evT P ps cs sy nt nn F bs b s' q'
    | r => r
  | .cond c a b, s, q => match opd P (aget s.T) c with
    | some (.bool t) => cond t (evT P ps cs sy nt nn F bs a s q) (evT P ps cs sy nt nn F bs b s q)
    | _ => none
  | .block id b, s, q => match evT P ps cs sy nt nn F bs b s q with
    | some (.exit id', s', q') => cond (Nat.beq id' id) (some (.normal, s', q')) (some (.exit id', s', q'))
    | r => r
  | .loop b, s, q => iterO (evT P ps cs sy nt nn F bs b) (headA P bs s) F s q
  | .exit id, s, q => some (.exit id, s, q)
  | .ret, s, q => some (.ret, s, q)
  | _, _, _ => none
theorem evT_ok {P : Program} {ps : PS} {cs : CS} (hps : PSOk ps cs) {sy : List Nat} {nt nn F bs : Nat} : ∀ (c : Code) (s : SA) (q : OS) (x : XA) (s' : SA) (q' : OS), evT P ps cs sy nt nn F bs c s q = some (x, s', q') → allT q'.ob = true → evC P cs nt nn F bs c s = some (x, s') ∧ allT q.ob = true
  | .skip, s, q, x, s', q', h, ha => by
    simp only [evT, Option.some.injEq, Prod.mk.injEq] at h
    obtain ⟨rfl, rfl, rfl⟩ := h
    exact ⟨rfl, ha⟩
  | .label l, s, q, x, s', q', h, ha => by
    simp only [evT, Option.some.injEq, Prod.mk.injEq] at h
    obtain ⟨rfl, rfl, rfl⟩ := h
    exact ⟨rfl, ha⟩
  | .region id ops d, s, q, x, s', q', h, ha => by
    simp only [evT] at h
    split at h
    · rename_i T' H' q1 hreg
      simp only [Option.some.injEq, Prod.mk.injEq] at h
      obtain ⟨rfl, rfl, rfl⟩ := h
      obtain ⟨g1, g2⟩ := regS_ok hps hreg ha
      exact ⟨by simp only [evC, g1], g2⟩
    · cases h
  | .seq a b, s, q, x, s', q', h, ha => by
    simp only [evT] at h
    cases hs : evT P ps cs sy nt nn F bs a s q with
    | none => rw [hs] at h; cases h
    | some p =>
      obtain ⟨y, s1, q1⟩ := p
      rw [hs] at h
      cases y with
      | normal =>
        simp only at h
        obtain ⟨g1, g2⟩ := evT_ok hps b s1 q1 x s' q' h ha
        obtain ⟨g3, g4⟩ := evT_ok hps a s q _ _ _ hs g2
        exact ⟨by simp only [evC, g3]; exact g1, g4⟩
      | exit id =>
        simp only [Option.some.injEq, Prod.mk.injEq] at h
        obtain ⟨rfl, rfl, rfl⟩ := h
        obtain ⟨g3, g4⟩ := evT_ok hps a s q _ _ _ hs ha
        exact ⟨by simp only [evC, g3], g4⟩
      | ret =>
        simp only [Option.some.injEq, Prod.mk.injEq] at h
        obtain ⟨rfl, rfl, rfl⟩ := h
        obtain ⟨g3, g4⟩ := evT_ok hps a s q _ _ _ hs ha
        exact ⟨by simp only [evC, g3], g4⟩
  | .cond c a b, s, q, x, s', q', h, ha => by
    simp only [evT] at h
    split at h
    · rename_i t ht
      cases t with
      | true =>
        obtain ⟨g1, g2⟩ := evT_ok hps a s q x s' q' h ha
        exact ⟨by simp only [evC, ht, cond_true]; exact g1, g2⟩
      | false =>
        obtain ⟨g1, g2⟩ := evT_ok hps b s q x s' q' h ha
        exact ⟨by simp only [evC, ht, cond_false]; exact g1, g2⟩
    · cases h
  | .block id b, s, q, x, s', q', h, ha => by
    simp only [evT] at h
    cases hs : evT P ps cs sy nt nn F bs b s q with
    | none => rw [hs] at h; cases h
    | some p =>
      obtain ⟨y, s1, q1⟩ := p
      rw [hs] at h
      cases y with
      | normal =>
        simp only [Option.some.injEq, Prod.mk.injEq] at h
        obtain ⟨rfl, rfl, rfl⟩ := h
        obtain ⟨g3, g4⟩ := evT_ok hps b s q _ _ _ hs ha
        exact ⟨by simp only [evC, g3], g4⟩
      | ret =>
        simp only [Option.some.injEq, Prod.mk.injEq] at h
        obtain ⟨rfl, rfl, rfl⟩ := h
        obtain ⟨g3, g4⟩ := evT_ok hps b s q _ _ _ hs ha
        exact ⟨by simp only [evC, g3], g4⟩
      | exit id' =>
        simp only at h
        cases hb : Nat.beq id' id <;> rw [hb] at h <;> simp only [cond_true, cond_false, Option.some.injEq, Prod.mk.injEq] at h
        · obtain ⟨rfl, rfl, rfl⟩ := h
          obtain ⟨g3, g4⟩ := evT_ok hps b s q _ _ _ hs ha
          exact ⟨by simp only [evC, g3, hb, cond_false], g4⟩
        · obtain ⟨rfl, rfl, rfl⟩ := h
          obtain ⟨g3, g4⟩ := evT_ok hps b s q _ _ _ hs ha
          exact ⟨by simp only [evC, g3, hb, cond_true], g4⟩
  | .loop b, s, q, x, s', q', h, ha => by
    simp only [evT] at h
    have := iterO_ok (fun s q x s' q' hs ha => evT_ok hps b s q x s' q' hs ha) F s q x s' q' h ha
    exact ⟨by simp only [evC]; exact this.1, this.2⟩
  | .exit id, s, q, x, s', q', h, ha => by
    simp only [evT, Option.some.injEq, Prod.mk.injEq] at h
    obtain ⟨rfl, rfl, rfl⟩ := h
    exact ⟨rfl, ha⟩
  | .ret, s, q, x, s', q', h, ha => by
    simp only [evT, Option.some.injEq, Prod.mk.injEq] at h
    obtain ⟨rfl, rfl, rfl⟩ := h
    exact ⟨rfl, ha⟩
  | .rangeFunc _ _ _ _, s, q, x, s', q', h, ha => by simp [evT] at h
  | .scope _, s, q, x, s', q', h, ha => by simp [evT] at h
  | .goto _, s, q, x, s', q', h, ha => by simp [evT] at h
  | .refuse _, s, q, x, s', q', h, ha => by simp [evT] at h

/-- A function, run with foretold tests; beside its answer, what that asks. -/
def run1O (P : Program) (ps : PS) (cs : CS) (sy : List Nat) (os : List Bool) (vs : List AVal) (nn F : Nat) (f : FuncId) (args : List AVal) (H : HL) (fr : Nat) : Option ((AVal × HL × Nat) × List Bool) :=
  match P.funcs[f]? with
  | none => none
  | some fn => match fn.body with
    | none => none
    | some c => cond (Nat.ble args.length fn.ntmps) (match evT P ps cs sy fn.ntmps nn F fr c ⟨startT args 0, H, fr⟩ ⟨os, vs, []⟩ with
      | none => none
      | some (.exit _, _, _) => none
      | some (_, s, q) => match resA P s.T s.H fn.results.toList with
        | none => none
        | some [v] => some ((v, s.H, s.fr), q.ob)
        | some vs => some ((.tup vs, s.H, s.fr), q.ob)) none
theorem run1O_ok {P : Program} {ps : PS} {cs : CS} (hps : PSOk ps cs) {sy : List Nat} {os : List Bool} {vs : List AVal} {nn F : Nat} {f : FuncId} {args : List AVal} {H : HL} {fr : Nat} {r : AVal × HL × Nat} {ob : List Bool} (h : run1O P ps cs sy os vs nn F f args H fr = some (r, ob)) (ha : allT ob = true) : run1 P cs nn F f args H fr = some r := by
  unfold run1O at h
  unfold run1
  split at h
  · cases h
  · rename_i fn hf
    split at h
    · cases h
    · rename_i c hb
      simp only [hf, hb]
      unfold runF
      cases hn : Nat.ble args.length fn.ntmps <;> rw [hn] at h <;> simp only [cond_true, cond_false] at h
      · cases h
      simp only [cond_true]
      split at h
      · cases h
      · cases h
      · rename_i x s q hne hev
        have hq : allT q.ob = true := by
          split at h
          · cases h
          · simp only [Option.some.injEq, Prod.mk.injEq] at h; rw [h.2]; exact ha
          · simp only [Option.some.injEq, Prod.mk.injEq] at h; rw [h.2]; exact ha
        rw [(evT_ok hps c _ _ _ _ _ hev hq).1]
        cases x with
        | exit id => exact absurd rfl (hne id)
        | normal =>
          simp only
          split at h
          · cases h
          · rename_i v hv
            simp only [Option.some.injEq, Prod.mk.injEq] at h
            rw [hv]; exact congrArg some h.1
          · rename_i vs hne2 hv
            simp only [Option.some.injEq, Prod.mk.injEq] at h
            rw [hv]
            match vs, hne2, h with
            | [], _, h => exact congrArg some h.1
            | [u], hne2, _ => exact absurd rfl (hne2 u)
            | _ :: _ :: _, _, h => exact congrArg some h.1
        | ret =>
          simp only
          split at h
          · cases h
          · rename_i v hv
            simp only [Option.some.injEq, Prod.mk.injEq] at h
            rw [hv]; exact congrArg some h.1
          · rename_i vs hne2 hv
            simp only [Option.some.injEq, Prod.mk.injEq] at h
            rw [hv]
            match vs, hne2, h with
            | [], _, h => exact congrArg some h.1
            | [u], hne2, _ => exact absurd rfl (hne2 u)
            | _ :: _ :: _, _, h => exact congrArg some h.1
/-- The answer alone. -/
def ansO (x : Option ((AVal × HL × Nat) × List Bool)) : Option (AVal × List Bool) :=
  match x with
  | some ((v, _, _), ob) => some (v, ob)
  | none => none
theorem ansO_run {P : Program} {ps : PS} {cs : CS} (hps : PSOk ps cs) {sy : List Nat} {os : List Bool} {vs : List AVal} {nn F : Nat} {f : FuncId} {args : List AVal} {H : HL} {fr : Nat} {v : AVal} {ob : List Bool} (h : ansO (run1O P ps cs sy os vs nn F f args H fr) = some (v, ob)) (ha : allT ob = true) : (run1 P cs nn F f args H fr).map (·.1) = some v := by
  unfold ansO at h
  split at h
  · rename_i v' H' fr' ob' hr
    simp only [Option.some.injEq, Prod.mk.injEq] at h
    obtain ⟨rfl, rfl⟩ := h
    rw [run1O_ok hps hr ha]; rfl
  · cases h
theorem callOk_O {P : Program} {ps : PS} {cs : CS} (hps : PSOk ps cs) (hcs : CSOk P cs) (hm : P.follows .mixedOrders = true) {sy : List Nat} {os : List Bool} {vs : List AVal} {nn F : Nat} {f : FuncId} {args : List AVal} {v : AVal} {ob : List Bool} (h : ansO (run1O P ps cs sy os vs nn F f args [] P.globals.size) = some (v, ob)) (ha : allT ob = true) (hl : allV args = true) (hv : ltV 0 v = true) : CallOk P f args (.pure v) :=
  callOk_val hcs hm (ansO_run hps h ha) hl hv
/-- A round of a loop with foretold tests, to the loop's head. -/
def roundO (P : Program) (ps : PS) (cs : CS) (sy : List Nat) (os : List Bool) (vs : List AVal) (nt nn F bs : Nat) (b : Code) (s0 s : SA) : Option (SA × List Bool) :=
  match evT P ps cs sy nt nn F bs b s ⟨os, vs, []⟩ with
  | some (.normal, s', q) => some (headA P bs s0 s', q.ob)
  | _ => none
theorem roundO_ok {P : Program} {ps : PS} {cs : CS} (hps : PSOk ps cs) {sy : List Nat} {os : List Bool} {vs : List AVal} {nt nn F bs : Nat} {b : Code} {s0 s s1 : SA} {ob : List Bool} (h : roundO P ps cs sy os vs nt nn F bs b s0 s = some (s1, ob)) (ha : allT ob = true) : roundA (evC P cs nt nn F bs b) (headA P bs s0) s = some s1 := by
  unfold roundO at h
  split at h
  · rename_i s' q hev
    simp only [Option.some.injEq, Prod.mk.injEq] at h
    obtain ⟨rfl, rfl⟩ := h
    simp only [roundA, (evT_ok hps b _ _ _ _ _ hev ha).1]
  · cases h
/-- Pieces of a sequence with foretold tests. -/
def evSO (P : Program) (ps : PS) (cs : CS) (sy : List Nat) (nt nn F bs : Nat) : List Code → SA → OS → Option (XA × SA × OS)
  | [], s, q => some (.normal, s, q)
  | c :: l, s, q => match evT P ps cs sy nt nn F bs c s q with
    | some (.normal, s', q') => evSO P ps cs sy nt nn F bs l s' q'
    | r => r
theorem evSO_ok {P : Program} {ps : PS} {cs : CS} (hps : PSOk ps cs) {sy : List Nat} {nt nn F bs : Nat} : ∀ (l : List Code) (s : SA) (q : OS) (x : XA) (s' : SA) (q' : OS), evSO P ps cs sy nt nn F bs l s q = some (x, s', q') → allT q'.ob = true → evS P cs nt nn F bs l s = some (x, s') ∧ allT q.ob = true
  | [], s, q, x, s', q', h, ha => by
    simp only [evSO, Option.some.injEq, Prod.mk.injEq] at h
    obtain ⟨rfl, rfl, rfl⟩ := h
    exact ⟨rfl, ha⟩
  | c :: l, s, q, x, s', q', h, ha => by
    simp only [evSO] at h
    cases hs : evT P ps cs sy nt nn F bs c s q with
    | none => rw [hs] at h; cases h
    | some p =>
      obtain ⟨y, s1, q1⟩ := p
      rw [hs] at h
      cases y with
      | normal =>
        simp only at h
        obtain ⟨g1, g2⟩ := evSO_ok hps l s1 q1 x s' q' h ha
        obtain ⟨g3, g4⟩ := evT_ok hps c s q _ _ _ hs g2
        exact ⟨by simp only [evS, g3]; exact g1, g4⟩
      | exit id =>
        simp only [Option.some.injEq, Prod.mk.injEq] at h
        obtain ⟨rfl, rfl, rfl⟩ := h
        obtain ⟨g3, g4⟩ := evT_ok hps c s q _ _ _ hs ha
        exact ⟨by simp only [evS, g3], g4⟩
      | ret =>
        simp only [Option.some.injEq, Prod.mk.injEq] at h
        obtain ⟨rfl, rfl, rfl⟩ := h
        obtain ⟨g3, g4⟩ := evT_ok hps c s q _ _ _ hs ha
        exact ⟨by simp only [evS, g3], g4⟩
end Go.Eng

/- Engine, part 26: functions with a loop. -/
namespace Go.Eng
set_option linter.unusedVariables false
set_option linter.unusedSimpArgs false
open Go
open Go
/-- A function with a loop among its pieces: what stands before it, its rounds, its end, what stands behind it. -/
theorem run_loop {P : Program} {cs : CS} {nn F : Nat} {f : FuncId} {fn : Func} {c : Code} {args : List AVal} {H : HL} {fr : Nat} (hf : P.funcs[f]? = some fn) (hb : fn.body = some c) (hn : Nat.ble args.length fn.ntmps = true)
    (k : Nat) {id : Nat} {b : Code} (hk : (pieces c)[k]? = some (.block id (.loop b))) (I : Nat → SA) (N : Nat)
    (hpre : evS P cs fn.ntmps nn F fr ((pieces c).take k) ⟨startT args 0, H, fr⟩ = some (.normal, I 0))
    (hstep : ∀ j, j < N → roundA (evC P cs fn.ntmps nn F fr b) (headA P fr (I 0)) (I j) = some (I (j + 1)))
    {s1 : SA} (hend : evC P cs fn.ntmps nn F fr b (I N) = some (.exit id, s1)) (hF : N < F)
    {v : AVal} (hpost : finV P fn (evS P cs fn.ntmps nn F fr ((pieces c).drop (k + 1)) s1) = some v) : (run1 P cs nn F f args H fr).map (·.1) = some v := by
  rw [run1_val hf hb hn, ← hpost]
  congr 1
  have e : pieces c = (pieces c).take k ++ (pieces c).drop k := (List.take_append_drop k (pieces c)).symm
  rw [e, evS_append hpre, evS_loop hk I N hstep hend hF, ← e]
theorem opt_eq {α : Type} {x : Option α} {y z : α} (h : x = some y) (e : y = z) : x = some z := by rw [h, e]
/-! ### whole numbers that do not wrap -/
theorem wrapI (x : Int) (h1 : -9223372036854775808 ≤ x) (h2 : x < 9223372036854775808) : IntKind.wrap .i64 x = x := by
  simp only [IntKind.wrap, IntKind.bits, IntKind.signed]
  simp
  omega
theorem ofInt_nat (n : Nat) : UInt64.ofInt (n : Int) = UInt64.ofNat n := by
  simp [UInt64.ofInt]
  apply UInt64.toNat_inj.1
  simp
  omega
end Go.Eng
namespace Go.Eng
set_option linter.unusedVariables false
set_option linter.unusedSimpArgs false
open Go
theorem csP_one {P : Program} {f : FuncId} {g : List AVal → Option (EffA × Bool)} (h : ∀ args v, g args = some (v, true) → CallOk P f args v) : CSOk P (csP (psOne f g)) := by
  intro f' args e he
  unfold csP psOne at he
  cases hb : Nat.beq f' f with
  | false => rw [hb] at he; cases he
  | true =>
    rw [hb] at he
    simp only at he
    cases hg : g args with
    | none => rw [hg] at he; cases he
    | some p =>
      obtain ⟨v, c⟩ := p
      rw [hg] at he
      cases c with
      | false => cases he
      | true =>
        cases he
        rw [Nat.eq_of_beq_eq_true hb]
        exact h args _ hg
end Go.Eng
namespace Go.Eng
set_option linter.unusedVariables false
set_option linter.unusedSimpArgs false
open Go
/-- The answer of a function's last pieces with foretold tests. -/
def ansF (P : Program) (fn : Func) (x : Option (XA × SA × OS)) : Option (AVal × List Bool) :=
  match x with
  | some (x, s, q) => match finV P fn (some (x, s)) with
    | some v => some (v, q.ob)
    | none => none
  | none => none
theorem ansF_ok {P : Program} {ps : PS} {cs : CS} (hps : PSOk ps cs) {sy : List Nat} {fn : Func} {nt nn F bs : Nat} {l : List Code} {s : SA} {os : List Bool} {vs : List AVal} {v : AVal} {ob : List Bool} (h : ansF P fn (evSO P ps cs sy nt nn F bs l s ⟨os, vs, []⟩) = some (v, ob)) (ha : allT ob = true) : finV P fn (evS P cs nt nn F bs l s) = some v := by
  unfold ansF at h
  split at h
  · rename_i x s1 q hev
    split at h
    · rename_i u hu
      simp only [Option.some.injEq, Prod.mk.injEq] at h
      obtain ⟨rfl, rfl⟩ := h
      rw [(evSO_ok hps _ _ _ _ _ _ hev ha).1]
      exact hu
    · cases h
  · cases h
/-- A stretch of pieces with foretold tests. -/
def segO (x : Option (XA × SA × OS)) : Option (SA × List Bool) :=
  match x with
  | some (.normal, s, q) => some (s, q.ob)
  | _ => none
theorem segO_ok {P : Program} {ps : PS} {cs : CS} (hps : PSOk ps cs) {sy : List Nat} {nt nn F bs : Nat} {l : List Code} {k m : Nat} {s s' : SA} {os : List Bool} {vs : List AVal} {ob : List Bool} (h : segO (evSO P ps cs sy nt nn F bs ((l.drop k).take m) s ⟨os, vs, []⟩) = some (s', ob)) (ha : allT ob = true) : evS P cs nt nn F bs (l.drop k) s = evS P cs nt nn F bs (l.drop (k + m)) s' := by
  unfold segO at h
  split at h
  · rename_i s1 q hev
    simp only [Option.some.injEq, Prod.mk.injEq] at h
    obtain ⟨rfl, rfl⟩ := h
    exact evS_seg (evSO_ok hps _ _ _ _ _ _ hev ha).1
  · cases h
end Go.Eng
namespace Go.Eng
set_option linter.unusedVariables false
set_option linter.unusedSimpArgs false
open Go
theorem csP_alt {P : Program} {a b : PS} (ha : CSOk P (csP a)) (hb : CSOk P (csP b)) : CSOk P (csP (psAlt a b)) := by
  intro f args e h
  unfold csP psAlt at h
  cases h1 : a f args with
  | some q =>
    rw [h1] at h
    exact ha f args e (by unfold csP; rw [h1]; exact h)
  | none =>
    rw [h1] at h
    exact hb f args e (by unfold csP; exact h)
end Go.Eng
namespace Go.Eng
set_option linter.unusedVariables false
set_option linter.unusedSimpArgs false
open Go
/-- A loop's head where no name of a round's own is left; that this is so is asked apart. -/
def okS (P : Program) (s : SA) : Bool := ltT s.fr s.T && ltH s.fr s.H && Nat.ble P.globals.size s.fr
def headS (P : Program) (bs : Nat) (s0 s : SA) : SA :=
  let r := renAll P bs (pairsT s0.fr 0 s0.T s.T) s
  ⟨reshape s0.T r.T, reshapeH s0.H r.H ++ extraH s0.H s0.fr r.H, s0.fr⟩
theorem headS_eq {P : Program} {bs : Nat} {s0 s s1 : SA} (h : headS P bs s0 s = s1) (ho : okS P s1 = true) : headA P bs s0 s = s1 := by
  unfold headA headB
  unfold headS at h
  simp only at h
  subst h
  unfold okS at ho
  simp only at ho
  rw [ho, cond_true]
def roundO2 (P : Program) (ps : PS) (cs : CS) (sy : List Nat) (os : List Bool) (vs : List AVal) (nt nn F bs : Nat) (b : Code) (s0 s : SA) : Option (SA × List Bool) :=
  match evT P ps cs sy nt nn F bs b s ⟨os, vs, []⟩ with
  | some (.normal, s', q) => some (headS P bs s0 s', q.ob)
  | _ => none
theorem roundO2_ok {P : Program} {ps : PS} {cs : CS} (hps : PSOk ps cs) {sy : List Nat} {os : List Bool} {vs : List AVal} {nt nn F bs : Nat} {b : Code} {s0 s s1 : SA} {ob : List Bool} (h : roundO2 P ps cs sy os vs nt nn F bs b s0 s = some (s1, ob)) (ha : allT ob = true) (ho : okS P s1 = true) : roundA (evC P cs nt nn F bs b) (headA P bs s0) s = some s1 := by
  unfold roundO2 at h
  split at h
  · rename_i s' q hev
    simp only [Option.some.injEq, Prod.mk.injEq] at h
    obtain ⟨h1, rfl⟩ := h
    simp only [roundA, (evT_ok hps b _ _ _ _ _ hev ha).1, headS_eq h1 ho]
  · cases h
end Go.Eng

/- Engine, part 30: functions with a loop, tests foretold from the beginning to the end. -/
namespace Go.Eng
set_option linter.unusedVariables false
set_option linter.unusedSimpArgs false
open Go
/-- A loop's end and what stands behind it. -/
def endO (P : Program) (ps : PS) (cs : CS) (sy : List Nat) (fn : Func) (nn F bs id : Nat) (b : Code) (l : List Code) (s : SA) (q : OS) : Option (AVal × List Bool) :=
  match evT P ps cs sy fn.ntmps nn F bs b s q with
  | some (.exit id', s1, q1) => cond (Nat.beq id' id) (ansF P fn (evSO P ps cs sy fn.ntmps nn F bs l s1 q1)) none
  | _ => none
theorem ansF_ok2 {P : Program} {ps : PS} {cs : CS} (hps : PSOk ps cs) {sy : List Nat} {fn : Func} {nt nn F bs : Nat} {l : List Code} {s : SA} {q : OS} {v : AVal} {ob : List Bool} (h : ansF P fn (evSO P ps cs sy nt nn F bs l s q) = some (v, ob)) (ha : allT ob = true) : finV P fn (evS P cs nt nn F bs l s) = some v ∧ allT q.ob = true := by
  cases hx : evSO P ps cs sy nt nn F bs l s q with
  | none => rw [hx] at h; cases h
  | some r =>
    obtain ⟨x, s', q'⟩ := r
    rw [hx] at h
    have hq : q'.ob = ob := by
      unfold ansF at h
      cases hv : finV P fn (some (x, s')) with
      | none => simp only [hv] at h; cases h
      | some u =>
        simp only [hv, Option.some.injEq, Prod.mk.injEq] at h
        exact h.2
    have h2 := evSO_ok hps l s q x s' q' hx (by rw [hq]; exact ha)
    refine ⟨?_, h2.2⟩
    rw [h2.1]
    unfold ansF at h
    cases hv : finV P fn (some (x, s')) with
    | none => simp only [hv] at h; cases h
    | some u =>
      simp only [hv, Option.some.injEq, Prod.mk.injEq] at h
      rw [h.1]
theorem endO_ok {P : Program} {ps : PS} {cs : CS} (hps : PSOk ps cs) {sy : List Nat} {fn : Func} {nn F bs id : Nat} {b : Code} {l : List Code} {s : SA} {os : List Bool} {vs : List AVal} {v : AVal} {ob : List Bool} (h : endO P ps cs sy fn nn F bs id b l s ⟨os, vs, []⟩ = some (v, ob)) (ha : allT ob = true) :
    ∃ s1, evC P cs fn.ntmps nn F bs b s = some (.exit id, s1) ∧ finV P fn (evS P cs fn.ntmps nn F bs l s1) = some v := by
  unfold endO at h
  split at h
  · rename_i id' s1 q1 he
    cases hb : Nat.beq id' id with
    | false => rw [hb] at h; cases h
    | true =>
      rw [hb, cond_true] at h
      have := Nat.eq_of_beq_eq_true hb
      subst this
      obtain ⟨h1, h2⟩ := ansF_ok2 hps h ha
      exact ⟨s1, (evT_ok hps b _ _ _ _ _ he h2).1, h1⟩
  · cases h
theorem segO_pre {P : Program} {ps : PS} {cs : CS} (hps : PSOk ps cs) {sy : List Nat} {nt nn F bs : Nat} {l : List Code} {s s' : SA} {os : List Bool} {vs : List AVal} {ob : List Bool} (h : segO (evSO P ps cs sy nt nn F bs l s ⟨os, vs, []⟩) = some (s', ob)) (ha : allT ob = true) : evS P cs nt nn F bs l s = some (.normal, s') := by
  unfold segO at h
  split at h
  · rename_i s1 q he
    simp only [Option.some.injEq, Prod.mk.injEq] at h
    obtain ⟨rfl, rfl⟩ := h
    exact (evSO_ok hps _ _ _ _ _ _ he ha).1
  · cases h
theorem run_loopO {P : Program} {ps : PS} {cs : CS} (hps : PSOk ps cs) {nn F : Nat} {f : FuncId} {fn : Func} {c : Code} {args : List AVal} {H : HL} {fr : Nat} (hf : P.funcs[f]? = some fn) (hb : fn.body = some c) (hn : Nat.ble args.length fn.ntmps = true)
    (k : Nat) {id : Nat} {b : Code} (hk : (pieces c)[k]? = some (.block id (.loop b))) (I : Nat → SA) (N : Nat) {sy0 sy1 : List Nat} {os0 os1 : List Bool} {vs0 vs1 : List AVal} {ob0 ob1 : List Bool}
    (hpre : segO (evSO P ps cs sy0 fn.ntmps nn F fr ((pieces c).take k) ⟨startT args 0, H, fr⟩ ⟨os0, vs0, []⟩) = some (I 0, ob0)) (ha0 : allT ob0 = true)
    (hstep : ∀ j, j < N → roundA (evC P cs fn.ntmps nn F fr b) (headA P fr (I 0)) (I j) = some (I (j + 1)))
    {v : AVal} (hend : endO P ps cs sy1 fn nn F fr id b ((pieces c).drop (k + 1)) (I N) ⟨os1, vs1, []⟩ = some (v, ob1)) (ha1 : allT ob1 = true) (hF : N < F) : (run1 P cs nn F f args H fr).map (·.1) = some v := by
  obtain ⟨s1, h1, h2⟩ := endO_ok hps hend ha1
  exact run_loop hf hb hn k hk I N (segO_pre hps hpre ha0) hstep h1 hF h2
theorem flatMap_at {α β : Type} {f : α → List β} {k : Nat} (hf : ∀ x, (f x).length = k) : ∀ {l : List α} {i : Nat} {x : α} {j : Nat}, l[i]? = some x → j < k → (l.flatMap f)[i * k + j]? = (f x)[j]?
  | [], i, x, j, h, _ => by simp at h
  | y :: l, 0, x, j, h, hj => by
    simp only [List.getElem?_cons_zero, Option.some.injEq] at h
    subst h
    rw [List.flatMap_cons, Nat.zero_mul, Nat.zero_add, List.getElem?_append_left (by rw [hf]; exact hj)]
  | y :: l, i + 1, x, j, h, hj => by
    rw [List.getElem?_cons_succ] at h
    have := flatMap_at hf (i := i) h hj
    rw [List.flatMap_cons, List.getElem?_append_right (by rw [hf, Nat.succ_mul]; omega), hf, ← this]
    congr 1
    rw [Nat.succ_mul]; omega
theorem isAt_of {c : List AVal} {off : Nat} {v : AVal} (h : c[off]? = some v) (hv : eqS v v = true) : isAt c off v = true := by
  unfold isAt
  rw [h]; exact hv
end Go.Eng

/- Engine, part 32: code inside a round of a range over a function, or with a mark among the deferred calls. -/
namespace Go.Eng
set_option linter.unusedVariables false
set_option linter.unusedSimpArgs false
open Go
/-- The wide fence, in a round or in none. -/
def Fw (ro : Option Nat) : Fence := { Fence.wide with round := ro }
theorem callsIn_Fw {ro : Option Nat} {n : Nat} {P : Program} {f : FuncId} {args : Array Value} {w : World} {R : Ending → World → Prop} (h : Calls P f args w R) : CallsIn (Fw ro) n P f args w R :=
  (callsIn_wide (n := n)).2 h
theorem rowsIn_Fw {ro : Option Nat} {n : Nat} {P : Program} {row : String} {args : Array Value} {w : World} {R : Value → World → Prop} (h : Rows P row args w R) : RowsIn (Fw ro) n P row args w R :=
  fun c cs _ => by
    obtain ⟨v, w', r, s⟩ := h c cs
    exact ⟨v, w', r, stepsIn_wide.2 s⟩
/-- An activation, whatever is deferred. -/
def bare (a : Act) : Act := { a with defers := [] }
def dressed (D : List Deferred) (a : Act) : Act := { a with defers := D }
theorem bare_put (a : Act) (d : Option Tmp) (v : Value) : dressed a.defers ((bare a).put d v) = a.put d v := by cases d <;> rfl
theorem effA_nd {P : Program} {cs : CS} {ρ : Operand → Option AVal} {o : Oper} {e : EffA} (h : effA P cs ρ o = some e) : ∀ c, o.op ≠ .defer c := by
  intro c hc
  unfold effA at h
  rw [hc] at h
  cases h
theorem wpIn_of_wp {P : Program} {o : Oper} {a : Act} {w : World} {ro : Option Nat} {n : Nat} {K : Act → World → Prop} {Q : Exit → Act → World → Prop} (hnd : ∀ c, o.op ≠ .defer c)
    (h : o.wp P (bare a) w (fun a' w' => a'.defers = [] ∧ K (dressed a.defers a') w') (fun _ _ _ => False)) : o.wpIn (Fw ro) n P a w K Q := by
  refine ⟨fun _ _ => trivial, ?_⟩
  unfold Oper.wp at h
  rw [Oper.semAt_eq _ _ _ hnd]
  have he : (bare a).eval = a.eval := rfl
  rw [he] at h
  generalize (execOp a.eval o).run P w = r at h ⊢
  have hd : (Fw ro).depth.isSome = true → 1 ≤ n := fun h => by cases h
  unfold Oper.upon at h
  unfold Oper.uponIn
  split at h
  · have := h.2
    rw [bare_put] at this
    exact this
  · have := h.2
    rw [bare_put] at this
    exact this
  · have := h.1
    cases hdst : o.dst <;> rw [hdst] at this <;> cases this
  · refine ⟨hd, callsIn_Fw (Calls.mono h fun e w'' he => ?_)⟩
    cases e with
    | returned v =>
      have := he.2
      rw [bare_put] at this
      exact this
    | panicked ch => exact he.elim
    | outgrown =>
      obtain ⟨_, _, h⟩ := he
      exact h.elim
  · refine ⟨hd, rowsIn_Fw ?_⟩
    intro c cs
    obtain ⟨v, w2, h1, h2⟩ := h c cs
    have := h1.2
    rw [bare_put] at this
    exact ⟨v, w2, this, h2⟩
  · exact h.elim
  · exact h.elim
/-- An abstract frame and world, whatever is deferred. -/
structure RD (P : Program) (σ : Sig) (nt : Nat) (T : TL) (H : HL) (D : List Deferred) (pin : List (Tmp × Value)) (a : Act) (w : World) : Prop where
  rel : RRel P σ nt T H (bare a) w
  defers : a.defers = D
  pins : ∀ s v, (s, v) ∈ pin → a.tmps[s]? = some v
theorem RD.of {P : Program} {σ : Sig} {nt : Nat} {T : TL} {H : HL} {a : Act} {w : World} (h : RRel P σ nt T H a w) : RD P σ nt T H [] [] a w := ⟨⟨h.tmps, h.size, rfl, h.heap, h.glob⟩, h.defers, fun _ _ h => by cases h⟩
/-- An operation leaves these slots alone. -/
def pinO (ss : List Tmp) (o : Oper) : Bool := match o.dst with
  | none => true
  | some d => !memN d ss
def pinL (ss : List Tmp) : List Oper → Bool
  | [] => true
  | o :: l => pinO ss o && pinL ss l
def pinB (ss : List Tmp) : Code → Bool
  | .region _ ops _ => pinL ss ops.toList
  | .seq a b => pinB ss a && pinB ss b
  | .cond _ a b => pinB ss a && pinB ss b
  | .block _ b => pinB ss b
  | .loop b => pinB ss b
  | _ => true
theorem pinO_nil (o : Oper) : pinO [] o = true := by
  unfold pinO
  split <;> rfl
theorem pinL_nil : ∀ l, pinL [] l = true
  | [] => rfl
  | o :: l => by unfold pinL; rw [pinO_nil, pinL_nil l]; rfl
theorem pinB_nil : ∀ c, pinB [] c = true
  | .region _ ops _ => pinL_nil _
  | .seq a b => by unfold pinB; rw [pinB_nil a, pinB_nil b]; rfl
  | .cond _ a b => by unfold pinB; rw [pinB_nil a, pinB_nil b]; rfl
  | .block _ b => by unfold pinB; exact pinB_nil b
  | .loop b => by unfold pinB; exact pinB_nil b
  | .skip => rfl
  | .label _ => rfl
  | .exit _ => rfl
  | .ret => rfl
  | .goto _ => rfl
  | .rangeFunc _ _ _ _ => rfl
  | .scope _ => rfl
  | .refuse _ => rfl
theorem pinL_mem {ss : List Tmp} : ∀ {l : List Oper}, pinL ss l = true → ∀ o ∈ l, pinO ss o = true
  | [], _, o, h => by cases h
  | x :: l, h, o, ho => by
    simp only [pinL, Bool.and_eq_true] at h
    rcases List.mem_cons.1 ho with rfl | ho
    · exact h.1
    · exact pinL_mem h.2 o ho
theorem memN_iff : ∀ {l : List Nat} {n : Nat}, n ∈ l → memN n l = true
  | x :: l, n, h => by
    simp only [memN]
    rcases List.mem_cons.1 h with rfl | h
    · rw [Nat.beq_refl]; rfl
    · rw [memN_iff h]
      cases Nat.beq n x <;> cases Nat.beq x n <;> rfl
theorem pin_put {pin : List (Tmp × Value)} {o : Oper} (ho : pinO (pin.map (·.1)) o = true) {a : Act} (h : ∀ s v, (s, v) ∈ pin → a.tmps[s]? = some v) (u : Value) : ∀ s v, (s, v) ∈ pin → (a.put o.dst u).tmps[s]? = some v := fun s v hs => by
  cases hd : o.dst with
  | none => exact h s v hs
  | some d =>
    unfold pinO at ho
    rw [hd] at ho
    have hne : d ≠ s := fun e => by
      subst e
      have := memN_iff (List.mem_map.2 ⟨(d, v), hs, rfl⟩ : d ∈ pin.map (·.1))
      simp only [this] at ho
      cases ho
    show (a.tmps.setIfInBounds d u)[s]? = some v
    rw [Array.getElem?_setIfInBounds_ne hne]
    exact h s v hs
theorem dressed_bare (D : List Deferred) (a : Act) (h : a.defers = []) : bare (dressed D a) = a := by
  cases a
  subst h
  rfl
section
variable {P : Program} {cs : CS} {nt : Nat} {ro : Option Nat} {n : Nat} {D : List Deferred} {pin : List (Tmp × Value)}
theorem stepA_okI (hcs : CSOk P cs) {σ : Sig} {T T' : TL} {H H' : HL} {a : Act} {w : World} {ops : Array Oper} {base i : Nat} {o : Oper} (hi : ops[i]? = some o) (h : stepA P cs nt ops base o T H = some (T', H')) (hr : RD P σ nt T H D pin a w) (hpo : pinO (pin.map (·.1)) o = true)
    (hf : Free σ base) {K : Act → World → Prop} {Q : Exit → Act → World → Prop}
    (hK : ∀ σ' a' w', RD P σ' nt T' H' D pin a' w' → Frm σ (aget H) w σ' (aget H') w' → Only σ σ' base → K a' w') : wpOpIn (Fw ro) n P ops Q i K a w := by
  have hput : ∀ u, (a.put o.dst u).defers = a.defers := fun u => by cases o.dst <;> rfl
  have hbp : ∀ u, bare (a.put o.dst u) = (bare a).put o.dst u := fun u => by cases o.dst <;> rfl
  unfold stepA at h
  unfold wpOpIn
  simp only [hi]
  have hy : yielded ops (bare a).tmps = yielded ops a.tmps := rfl
  split at h
  · cases h
  · rename_i hw
    have hwant := wantA_ok hr.rel hw
    rw [hy] at hwant
    rw [hwant]
    simp only [Bool.false_eq_true, if_false]
    refine ⟨fun _ _ => trivial, ?_⟩
    split at h
    · rename_i T1 hp
      cases h
      refine hK σ _ w ⟨?_, (hput _).trans hr.defers, pin_put hpo hr.pins _⟩ (Frm.refl _ _ _) (Only.refl _ _)
      rw [hbp]
      exact hr.rel.put (Sig.le_refl σ) hr.rel.heap (.tup rfl fun i v v' h => by simp at h) hp
    · cases h
  · rename_i hw
    have hwant := wantA_ok hr.rel hw
    rw [hy] at hwant
    rw [hwant]
    simp only [if_true]
    split at h
    · cases h
    · rename_i e he
      split at h
      · cases h
      · rename_i v H1 ha
        split at h
        · rename_i T1 hp
          cases h
          refine wpIn_of_wp (effA_nd he) (effA_ok hcs hr.rel.env hr.rel.glob he H w base v H' hr.rel.heap ha hf _ _ fun σ' v' w' h1 h2 h3 h4 => ?_)
          refine ⟨by cases o.dst <;> rfl, ?_⟩
          rw [bare_put]
          refine hK σ' _ w' ⟨?_, (hput _).trans hr.defers, pin_put hpo hr.pins _⟩ h3 h4
          rw [hbp]
          exact hr.rel.put h3.ext h2 h1 hp
        · cases h
theorem runA_okI (hcs : CSOk P cs) {ops : Array Oper} {Q : Exit → Act → World → Prop} : ∀ (l : List Oper) (k base : Nat) (σ : Sig) (T T' : TL) (H H' : HL) (a : Act) (w : World), (∀ j, l[j]? = ops[k + j]?) → pinL (pin.map (·.1)) l = true →
    runA P cs nt ops l base T H = some (T', H') → RD P σ nt T H D pin a w → Fresh σ base →
    (∀ σ' a' w', RD P σ' nt T' H' D pin a' w' → Frm σ (aget H) w σ' (aget H') w' → Fresh σ' (base + 8 * l.length) → Q .normal a' w') → wpOpsIn (Fw ro) n P ops Q (List.range' k l.length) a w := by
  intro l
  induction l with
  | nil =>
    intro k base σ T T' H H' a w _ _ h hr hf hQ
    simp only [runA, Option.some.injEq, Prod.mk.injEq] at h
    obtain ⟨rfl, rfl⟩ := h
    exact hQ σ a w hr (Frm.refl _ _ _) (by simpa using hf)
  | cons o l ih =>
    intro k base σ T T' H H' a w hl hpl h hr hf hQ
    simp only [pinL, Bool.and_eq_true] at hpl
    simp only [runA] at h
    split at h
    · cases h
    · rename_i T1 H1 h1
      have hi : ops[k]? = some o := by simpa using (hl 0).symm
      simp only [List.length_cons, List.range'_succ, wpOpsIn_cons]
      refine stepA_okI hcs hi h1 hr hpl.1 hf.free fun σ' a' w' g1 g2 g3 => ?_
      refine ih (k + 1) (base + 8) σ' T1 T' H1 H' a' w' (fun j => by have := hl (j + 1); simpa [Nat.add_assoc, Nat.add_comm 1 j] using this) hpl.2 h g1 (hf.only g3) fun σ'' a'' w'' q1 q2 q3 => ?_
      exact hQ σ'' a'' w'' q1 (g2.trans q2) (by simp only [List.length_cons]; rw [show base + 8 * (l.length + 1) = base + 8 + 8 * l.length by omega]; exact q3)
theorem wpAny_ofI {ops : Array Oper} {fr : Nat} {tab cl : List Nat} {Q : Exit → Act → World → Prop} (hpl : pinL (pin.map (·.1)) ops.toList = true) (hcs : CSOk P cs) {G : TL → HL → Prop} : ∀ (fuel : Nat) (listed : Array Bool) (T : TL) (H : HL) (σ : Sig) (a : Act) (w : World), AAny P cs nt ops fr tab cl G fuel listed T H → listed.size = ops.size → RD P σ nt T H D pin a w →
    (∀ i, i < ops.size → ¬ LL listed i → Free σ (fr + 8 * i)) → Fresh σ (fr + 8 * ops.size) →
    (∀ σ' T' H' a' w', G T' H' → RD P σ' nt T' H' D pin a' w' → Frm σ (aget H) w σ' (aget H') w' → Fresh σ' (fr + 8 * ops.size) → Q .normal a' w') → wpAnyIn (Fw ro) n P .any ops Q fuel listed a w
  | 0, listed, T, H, σ, a, w, hA, _, hr, _, hfr, hQ => ⟨hA.1, hQ σ T H a w hA.2 hr (Frm.refl _ _ _) hfr⟩
  | fuel + 1, listed, T, H, σ, a, w, hA, hs, hr, hfree, hfr, hQ => by
    refine ⟨fun h0 => hQ σ T H a w (hA.1 h0) hr (Frm.refl _ _ _) hfr, fun i hi => ?_⟩
    obtain ⟨T1, H1, hst, hA1⟩ := hA.2 i hi
    obtain ⟨o, e, ho, hk, _, _, hse⟩ := stepD_some hst
    obtain ⟨hilt, hin, _⟩ := ready_facts hs hi
    have hstA : stepA P cs nt ops (fr + 8 * i) o T H = some (T1, H1) := by rw [stepA_kind, hk]; exact hse
    refine stepA_okI hcs ho hstA hr (pinL_mem hpl o (by rw [Array.mem_toList_iff]; exact Array.mem_of_getElem? ho)) (hfree i hilt hin) fun σ' a' w' g1 g2 g3 => ?_
    refine wpAny_ofI hpl hcs fuel _ T1 H1 σ' a' w' hA1 (by simpa using hs) g1 (fun m hm hmn => ?_) (fun n hn => by rw [g3 n (.inr (by omega))]; exact hfr n hn) fun σ'' T'' H'' a'' w'' q1 q2 q3 q4 => hQ σ'' T'' H'' a'' w'' q1 q2 (g2.trans q3) q4
    rw [LL_set (by omega)] at hmn
    have hmi : m ≠ i := fun e => hmn (.inl e)
    intro j hj
    rw [g3 _ (by omega)]
    exact hfree m hm (fun h => hmn (.inr h)) j hj
theorem RD.ext {σ : Sig} {T T' : TL} {H H' : HL} {a : Act} {w : World} (h : RD P σ nt T H D pin a w) (hT : aget T = aget T') (hH : aget H = aget H') : RD P σ nt T' H' D pin a w := ⟨h.rel.ext hT hH, h.defers, h.pins⟩
theorem RD.less {σ : Sig} {T T' : TL} {H H' : HL} {a : Act} {w : World} (h : RD P σ nt T H D pin a w) (hT : ∀ s v, aget T' s = some v → aget T s = some v) (hH : ∀ n o, aget H' n = some o → aget H n = some o) : RD P σ nt T' H' D pin a w := ⟨h.rel.less hT hH, h.defers, h.pins⟩
theorem regA_okI (hcs : CSOk P cs) (hm : P.follows .mixedOrders = true) {id : Nat} {ops : Array Oper} (hpl : pinL (pin.map (·.1)) ops.toList = true) {draw : Bool} {fr : Nat} {T T' : TL} {H H' : HL} (h : regA P cs nt ops draw fr T H = some (T', H'))
    {σ : Sig} {a : Act} {w : World} (hr : RD P σ nt T H D pin a w) (hfr : Fresh σ fr) {Q : Exit → Act → World → Prop}
    (hQ : ∀ σ' a' w', RD P σ' nt T' H' D pin a' w' → Frm σ (aget H) w σ' (aget H') w' → Fresh σ' (fr + 8 * ops.size) → Q .normal a' w') : (Code.region id ops draw).wpIn (Fw ro) n P Q a w := by
  unfold regA at h
  cases draw with
  | false =>
    simp only at h
    refine wpIn_region ?_
    have := runA_okI (ro := ro) (n := n) hcs (Q := Q) ops.toList 0 fr σ T T' H H' a w (by simp) hpl h hr hfr (by simpa using hQ)
    rw [List.range_eq_range']
    simpa using this
  | true =>
    simp only at h
    cases hrun : runK P cs nt ops fr (befs ops.toList []) ops.toList 0 T H with
    | none => rw [hrun] at h; cases h
    | some q =>
      obtain ⟨T2, H2, cl⟩ := q
      rw [hrun] at h
      simp only at h
      cases hp : pairsOk ops (befs ops.toList []) cl ops.toList 0 with
      | false => rw [hp] at h; cases h
      | true =>
        rw [hp] at h
        simp only [cond_true, Option.some.injEq, Prod.mk.injEq] at h
        obtain ⟨rfl, rfl⟩ := h
        refine wpIn_region_any hm ?_
        have hall : ∀ i, ¬ LL (Array.replicate ops.size false) i := fun i h => by
          unfold LL at h
          simp only [Array.getD_eq_getD_getElem?, Array.getElem?_replicate] at h
          split at h <;> simp at h
        have hdc : DC ops (Array.replicate ops.size false) := fun i o hi _ _ _ _ => absurd hi (hall i)
        have htab : ∀ listed, DC ops listed → TabOk ops listed (befs ops.toList []) := fun listed hd => befs_ok hd ops.toList [] (by simp) (fun j b hj => by simp at hj)
        have hA := AAny_lex (P := P) (cs := cs) (nt := nt) (fr := fr) (cl := cl) (G := fun X Y => aget X = aget T2 ∧ aget Y = aget H2) (fun T1 T3 H1 H3 a1 a2 a3 => ⟨a1 ▸ a3.1, a2 ▸ a3.2⟩) htab ops.toList 0 (Array.replicate ops.size false) T T2 H H2 cl (by simp) (by simp)
          (fun i => ⟨fun h => absurd h (hall i), fun h => by omega⟩) (by simp) hdc hrun (by simp) hp ⟨rfl, rfl⟩
        refine wpAny_ofI hpl (tab := befs ops.toList []) (cl := cl) hcs ops.size _ T H σ a { w with drawn := w.drawn + 1 } (by simpa using hA) (by simp) ⟨⟨hr.rel.tmps, hr.rel.size, hr.rel.defers, hr.rel.heap.drew rfl, hr.rel.glob⟩, hr.defers, hr.pins⟩ (fun i _ _ j _ => hfr _ (by omega)) (fun n hn => hfr n (by omega)) ?_
        intro σ' T3 H3 a' w' g1 g2 g3 g4
        refine hQ σ' a' w' (g2.ext g1.1 g1.2) ?_ g4
        rw [← g1.2]
        exact ⟨g3.ext, g3.size, g3.os, g3.output, g3.tape, g3.old⟩
end
/-- Code does so, in a round or in none, whatever is deferred. -/
def SimI (P : Program) (bs nt : Nat) (c : Code) (s : SA) (x : XA) (s' : SA) : Prop :=
  ∀ (ro : Option Nat) (n : Nat) (D : List Deferred) (pin : List (Tmp × Value)) (_ : pinB (pin.map (·.1)) c = true) (σ : Sig) (a : Act) (w : World) (Q : Exit → Act → World → Prop), RD P σ nt s.T s.H D pin a w → Fresh σ s.fr →
    (∀ σ' a' w', RD P σ' nt s'.T s'.H D pin a' w' → FrmB bs σ (aget s.H) w σ' (aget s'.H) w' → Fresh σ' s'.fr → Q x.out a' w') → c.wpIn (Fw ro) n P Q a w
theorem iterA_okI {P : Program} {bs nt : Nat} {b : Code} {f : SA → Option (XA × SA)} (hf : ∀ s x s', f s = some (x, s') → SimI P bs nt b s x s') (s0 : SA) : ∀ (m : Nat) (s : SA) (x : XA) (s' : SA), iterA f (headA P bs s0) m s = some (x, s') →
    ∀ (ro : Option Nat) (n : Nat) (D : List Deferred) (pin : List (Tmp × Value)) (_ : pinB (pin.map (·.1)) b = true) (σ0 : Sig) (w0 : World), Fresh σ0 s0.fr → ∀ (σ : Sig) (a : Act) (w : World) (Q : Exit → Act → World → Prop), RD P σ nt s.T s.H D pin a w → Fresh σ s.fr → FrmB bs σ0 (aget s0.H) w0 σ (aget s.H) w →
    (∀ σ' a' w', RD P σ' nt s'.T s'.H D pin a' w' → FrmB bs σ0 (aget s0.H) w0 σ' (aget s'.H) w' → Fresh σ' s'.fr → Q x.out a' w') → Code.roundsIn (Fw ro) n P b Q m a w
  | 0, s, x, s', h, _, _, _, _, _, _, _, _, _, _, _, _, _, _, _, _ => by cases h
  | m + 1, s, x, s', h, ro, n, D, pin, hpb, σ0, w0, hf0, σ, a, w, Q, hr, hfr, hfm, hQ => by
    rw [roundsIn_succ]
    simp only [iterA] at h
    cases hs : f s with
    | none => rw [hs] at h; cases h
    | some p =>
      obtain ⟨y, s1⟩ := p
      rw [hs] at h
      refine hf s y s1 hs ro n D pin hpb σ a w _ hr hfr fun σ1 a1 w1 g1 g2 g3 => ?_
      cases y with
      | normal =>
        simp only at h
        obtain ⟨σ2, q1, q2, q3⟩ := headA_ok (bs := bs) s0 s1 g1.rel g3 hf0 (hfm.trans g2)
        exact iterA_okI hf s0 m _ x s' h ro n D pin hpb σ0 w0 hf0 σ2 a1 w1 Q ⟨q1, g1.defers, g1.pins⟩ q2 q3 hQ
      | exit id =>
        simp only [Option.some.injEq, Prod.mk.injEq] at h
        obtain ⟨rfl, rfl⟩ := h
        exact hQ σ1 a1 w1 g1 (hfm.trans g2) g3
      | ret =>
        simp only [Option.some.injEq, Prod.mk.injEq] at h
        obtain ⟨rfl, rfl⟩ := h
        exact hQ σ1 a1 w1 g1 (hfm.trans g2) g3
theorem evC_okI {P : Program} {cs : CS} (hcs : CSOk P cs) (hm : P.follows .mixedOrders = true) {nt nn F bs : Nat} : ∀ (c : Code) (s : SA) (x : XA) (s' : SA), evC P cs nt nn F bs c s = some (x, s') → SimI P bs nt c s x s'
  | .skip, s, x, s', h => by
    simp only [evC, Option.some.injEq, Prod.mk.injEq] at h
    obtain ⟨rfl, rfl⟩ := h
    exact fun ro n D pin hpb σ a w Q hr hf hQ => wpIn_skip (hQ σ a w hr (FrmB.refl _ _ _ _) hf)
  | .label l, s, x, s', h => by
    simp only [evC, Option.some.injEq, Prod.mk.injEq] at h
    obtain ⟨rfl, rfl⟩ := h
    exact fun ro n D pin hpb σ a w Q hr hf hQ => wpIn_label (hQ σ a w hr (FrmB.refl _ _ _ _) hf)
  | .region id ops d, s, x, s', h => by
    simp only [evC] at h
    split at h
    · rename_i T' H' hreg
      cases h
      exact fun ro n D pin hpb σ a w Q hr hf hQ => regA_okI hcs hm hpb hreg hr hf fun σ' a' w' g1 g2 g3 => hQ σ' a' w' (g1.less (fun _ _ => prune_get) (fun _ _ h => h)) (g2.b bs) g3
    · cases h
  | .seq a b, s, x, s', h => by
    simp only [evC] at h
    cases hs : evC P cs nt nn F bs a s with
    | none => rw [hs] at h; cases h
    | some p =>
      obtain ⟨y, s1⟩ := p
      rw [hs] at h
      have ha := evC_okI hcs hm a s y s1 hs
      intro ro n D pin hpb σ ac w Q hr hf hQ
      simp only [pinB, Bool.and_eq_true] at hpb
      refine wpIn_seq (ha ro n D pin hpb.1 σ ac w _ hr hf fun σ1 a1 w1 g1 g2 g3 => ?_)
      cases y with
      | normal =>
        simp only at h
        exact evC_okI hcs hm b s1 x s' h ro n D pin hpb.2 σ1 a1 w1 Q g1 g3 fun σ2 a2 w2 q1 q2 q3 => hQ σ2 a2 w2 q1 (g2.trans q2) q3
      | exit id => simp only [Option.some.injEq, Prod.mk.injEq] at h; obtain ⟨rfl, rfl⟩ := h; exact hQ σ1 a1 w1 g1 g2 g3
      | ret => simp only [Option.some.injEq, Prod.mk.injEq] at h; obtain ⟨rfl, rfl⟩ := h; exact hQ σ1 a1 w1 g1 g2 g3
  | .cond c a b, s, x, s', h => by
    simp only [evC] at h
    split at h
    · rename_i t ht
      intro ro n D pin hpb σ ac w Q hr hf hQ
      have hv := hr.rel.env c _ ht
      have hb : ac.eval c = .bool t := by
        have he : (bare ac).eval c = ac.eval c := rfl
        rw [he] at hv
        generalize ac.eval c = z at hv; cases hv; rfl
      simp only [pinB, Bool.and_eq_true] at hpb
      refine wpIn_cond hb ?_
      cases t with
      | true => exact evC_okI hcs hm a s x s' h ro n D pin hpb.1 σ ac w Q hr hf hQ
      | false => exact evC_okI hcs hm b s x s' h ro n D pin hpb.2 σ ac w Q hr hf hQ
    · cases h
  | .block id b, s, x, s', h => by
    simp only [evC] at h
    cases hs : evC P cs nt nn F bs b s with
    | none => rw [hs] at h; cases h
    | some p =>
      obtain ⟨y, s1⟩ := p
      rw [hs] at h
      have hb := evC_okI hcs hm b s y s1 hs
      intro ro n D pin hpb σ ac w Q hr hf hQ
      refine wpIn_block (hb ro n D pin hpb σ ac w _ hr hf fun σ1 a1 w1 g1 g2 g3 => ?_)
      cases y with
      | normal => simp only [Option.some.injEq, Prod.mk.injEq] at h; obtain ⟨rfl, rfl⟩ := h; exact hQ σ1 a1 w1 g1 g2 g3
      | ret => simp only [Option.some.injEq, Prod.mk.injEq] at h; obtain ⟨rfl, rfl⟩ := h; exact hQ σ1 a1 w1 g1 g2 g3
      | exit id' =>
        simp only at h
        simp only [XA.out, Exit.inBlock]
        rcases beq_cases id' id with ⟨he, hbe⟩ | ⟨he, hbe⟩ <;> rw [hbe] at h <;> simp only [cond_true, cond_false, Option.some.injEq, Prod.mk.injEq] at h
        · obtain ⟨rfl, rfl⟩ := h
          rw [if_pos he]; exact hQ σ1 a1 w1 g1 g2 g3
        · obtain ⟨rfl, rfl⟩ := h
          rw [if_neg he]; exact hQ σ1 a1 w1 g1 g2 g3
  | .loop b, s, x, s', h => by
    simp only [evC] at h
    intro ro n D pin hpb σ ac w Q hr hf hQ
    exact wpIn_loop_rounds F (iterA_okI (fun s x s' hs => evC_okI hcs hm b s x s' hs) s F s x s' h ro n D pin hpb σ w hf σ ac w Q hr hf (FrmB.refl _ _ _ _) hQ)
  | .exit id, s, x, s', h => by
    simp only [evC, Option.some.injEq, Prod.mk.injEq] at h
    obtain ⟨rfl, rfl⟩ := h
    exact fun ro n D pin hpb σ a w Q hr hf hQ => wpIn_exit (hQ σ a w hr (FrmB.refl _ _ _ _) hf)
  | .ret, s, x, s', h => by
    simp only [evC, Option.some.injEq, Prod.mk.injEq] at h
    obtain ⟨rfl, rfl⟩ := h
    exact fun ro n D pin hpb σ a w Q hr hf hQ => wpIn_ret (hQ σ a w hr (FrmB.refl _ _ _ _) hf)
  | .rangeFunc _ _ _ _, s, x, s', h => by simp [evC] at h
  | .scope _, s, x, s', h => by simp [evC] at h
end Go.Eng

/- Engine, part 33: a range over a function. -/
namespace Go.Eng
set_option linter.unusedVariables false
set_option linter.unusedSimpArgs false
open Go Go.RowKit
/-- New blocks at most. -/
structure Grown (A B : World) : Prop where
  size : A.heap.size ≤ B.heap.size
  old : ∀ b, b < A.heap.size → B.heap[b]? = A.heap[b]?
  os : B.os = A.os
  output : B.output = A.output
  tape : B.tape = A.tape
theorem Grown.refl (A : World) : Grown A A := ⟨Nat.le_refl _, fun _ _ => rfl, rfl, rfl, rfl⟩
theorem Grown.trans {A B C : World} (h : Grown A B) (k : Grown B C) : Grown A C :=
  ⟨Nat.le_trans h.size k.size, fun b hb => (k.old b (Nat.lt_of_lt_of_le hb h.size)).trans (h.old b hb), k.os.trans h.os, k.output.trans h.output, k.tape.trans h.tape⟩
theorem HRel.grown {σ : Sig} {H : Heap} {A B : World} (h : HRel σ H A) (g : Grown A B) : HRel σ H B :=
  ⟨fun n o hn => by
    obtain ⟨p, hp, ho⟩ := h.obj n o hn
    exact ⟨p, hp, ho.mono (Sig.le_refl σ) (g.old _ ho.lt)⟩, h.inj⟩
theorem Frm.grown {σ σ' : Sig} {H H' : Heap} {w A B : World} (h : Frm σ H w σ' H' A) (g : Grown A B) : Frm σ H w σ' H' B :=
  ⟨h.ext, Nat.le_trans h.size g.size, g.os.trans h.os, g.output.trans h.output, g.tape.trans h.tape, fun b hb hn => by
    obtain ⟨h1, h2⟩ := h.old b hb hn
    exact ⟨(g.old b (Nat.lt_of_lt_of_le hb h.size)).trans h1, h2⟩⟩
/-- Some blocks of a memory, to be read alone. -/
def LessRo (Hc H : HL) : Prop := ∀ n o, aget Hc n = some o → ∃ ro c, o = .cells true c ∧ aget H n = some (.cells ro c)
theorem HRel.lessRo {σ : Sig} {Hc H : HL} {w : World} (h : HRel σ (aget H) w) (hl : LessRo Hc H) : HRel σ (aget Hc) w :=
  ⟨fun n o hn => by
    obtain ⟨ro, c, rfl, h2⟩ := hl n o hn
    obtain ⟨p, hp, d, t, fz, e1, e2, e3, e4⟩ := h.obj n _ h2
    exact ⟨p, hp, d, t, fz, e1, e2, e3, fun e => by cases e⟩, fun n m o o' p q h1 h2 _ _ _ => by
    obtain ⟨_, _, rfl, _⟩ := hl n o h1
    obtain ⟨_, _, rfl, _⟩ := hl m o' h2
    exact .inr ⟨rfl, rfl⟩⟩
/-- A block that holds no cells is nobody's. -/
theorem not_own {σ : Sig} {H : Heap} {w : World} (h : HRel σ H w) {b : Nat} {ob : Obj} (hb : w.heap[b]? = some ob) (hc : ∀ c t fz, ob ≠ .cells c t fz) : ¬ Own σ H b := by
  rintro ⟨n, o, p, h1, h2, h3, h4⟩
  obtain ⟨q, hq, ho⟩ := h.obj n o h1
  rw [h3] at hq
  cases hq
  cases o with
  | cells ro c =>
    obtain ⟨c', t, fz, h5, _⟩ := ho
    rw [h4, hb] at h5
    cases h5
    exact hc _ _ _ rfl
theorem HRel.putObj {σ : Sig} {H : Heap} {w : World} (h : HRel σ H w) {l : Nat} {o o' : Obj} (hl : w.heap[l]? = some o) (hc : ∀ c t fz, o ≠ .cells c t fz) : HRel σ H (w.putObj l o') :=
  ⟨fun n ob hn => by
    obtain ⟨p, hp, ho⟩ := h.obj n ob hn
    refine ⟨p, hp, ho.mono (Sig.le_refl σ) (World.putObj_heap_other fun e => ?_)⟩
    cases ob with
    | cells ro c =>
      obtain ⟨c', t, fz, h5, _⟩ := ho
      rw [e, hl] at h5
      cases h5
      exact hc _ _ _ rfl, h.inj⟩
theorem Frm.putObj {σ σ' : Sig} {H H' : Heap} {w w' : World} (h : Frm σ H w σ' H' w') {l : Nat} {o : Obj} (hl : w.heap.size ≤ l) : Frm σ H w σ' H' (w'.putObj l o) :=
  ⟨h.ext, by rw [show (w'.putObj l o).heap.size = w'.heap.size by simp [World.putObj]]; exact h.size, h.os, h.output, h.tape, fun b hb hn => by
    obtain ⟨h1, h2⟩ := h.old b hb hn
    exact ⟨(World.putObj_heap_other (by omega)).trans h1, h2⟩⟩
theorem FrmB.full {bs : Nat} {σ σ' : Sig} {H H' : Heap} {w w' : World} (h : FrmB bs σ H w σ' H' w') (hf : Fresh σ bs) : Frm σ H w σ' H' w' :=
  ⟨fun n p hp => h.ext n p (Nat.lt_of_not_le fun hle => by rw [hf n hle] at hp; cases hp) hp, h.size, h.os, h.output, h.tape, h.old⟩
/-! ### what yield hands over -/
def putPs : TL → List Tmp → List AVal → TL
  | T, p :: ps, v :: vs => putPs (aset T p v) ps vs
  | T, _, _ => T
theorem putPs_ok {σ : Sig} {nt : Nat} : ∀ (ps : List Tmp) (vs : List AVal) (vs' : List Value) (T : TL) (t : Array Value), (∀ p ∈ ps, p < nt) → LR σ vs vs'.toArray → (∀ s v, aget T s = some v → ∃ v', t[s]? = some v' ∧ VR σ v v') → t.size = nt →
    (∀ s v, aget (putPs T ps vs) s = some v → ∃ v', ((ps.zip vs').foldl (fun (t : Array Value) (p : Tmp × Value) => t.setIfInBounds p.1 p.2) t)[s]? = some v' ∧ VR σ v v') ∧ ((ps.zip vs').foldl (fun (t : Array Value) (p : Tmp × Value) => t.setIfInBounds p.1 p.2) t).size = nt
  | [], _, _, T, t, _, _, hT, hs => by simpa [putPs] using ⟨hT, hs⟩
  | p :: ps, [], vs', T, t, _, hl, hT, hs => by
    have : vs' = [] := by
      have := hl.1
      simpa using this.symm
    subst this
    simpa [putPs] using ⟨hT, hs⟩
  | p :: ps, v :: vs, [], T, t, _, hl, hT, hs => by
    have := hl.1
    simp at this
  | p :: ps, v :: vs, v' :: vs', T, t, hp, hl, hT, hs => by
    have hv : VR σ v v' := hl.2 0 v v' rfl rfl
    have hl2 : LR σ vs vs'.toArray := ⟨by have := hl.1; simpa using this, fun i x x' h1 h2 => hl.2 (i + 1) x x' (by simpa using h1) (by simpa using h2)⟩
    have hpn : p < nt := hp p (by simp)
    simp only [putPs, List.zip_cons_cons, List.foldl_cons]
    refine putPs_ok ps vs vs' _ _ (fun q hq => hp q (by simp [hq])) hl2 (fun s u hu => ?_) (by simp [hs])
    rw [aget_aset] at hu
    split at hu
    · rename_i e
      subst e
      cases hu
      exact ⟨v', by rw [Array.getElem?_setIfInBounds_self, if_pos (by rw [hs]; exact hpn)], hv⟩
    · rename_i e
      obtain ⟨u', h1, h2⟩ := hT s u hu
      exact ⟨u', by rw [Array.getElem?_setIfInBounds_ne e]; exact h1, h2⟩
/-! ### the function that is ranged over -/
/-- A function that is handed yield calls it with these, one behind the other, till there are no more or it is told to stop. -/
def ItOk (P : Program) (gf : FuncId) (cap : List AVal) (Hc : HL) (X : Nat → List AVal) (N : Nat) (fin : Bool) : Prop :=
  ∀ (lb : Array Value) (l : Nat) (J : Nat → World → Prop) (Jx : World → Prop) (W : World),
    (∀ k A B, J k A → Grown A B → J k B) → (∀ A B, Jx A → Grown A B → Jx B) →
    (∀ k W1, J k W1 → k ≤ N ∧ ∃ σ1, GRel P σ1 ∧ HRel σ1 (aget Hc) W1 ∧ LR σ1 cap lb ∧ ((k < N ∨ fin = false) → ∀ xs, LR σ1 (X k) xs → ∀ m, YieldAt Fence.wide m P l xs W1 fun e W' => (e = .returned (.bool true) ∧ J (k + 1) W') ∨ (e = .returned (.bool false) ∧ Jx W'))) →
    J 0 W → Calls P gf (#[.func (.yield l) #[] #[]] ++ lb) W fun e W' => (∃ v, e = .returned v) ∧ ((fin = true ∧ J N W') ∨ Jx W')
def outX (fin : Bool) (id : Nat) : Exit := cond fin .normal (.exit id)
theorem rangeFunc_okI {P : Program} {cs : CS} (hcs : CSOk P cs) (hm : P.follows .mixedOrders = true) {nt nn F : Nat} {g : Operand} {ps : Array Tmp} {assign body : Code} {s : SA} {gf : FuncId} {cap : List AVal} {Hc : HL} {X : Nat → List AVal} {N : Nat} {fin : Bool}
    (hg : opd P (aget s.T) g = some (.fn gf cap)) (hent : ∀ args w, (callFunc gf args).run P w = .ok (.enter gf args) w) (hit : ItOk P gf cap Hc X N fin) (hgl : P.globals.size ≤ s.fr)
    (HH : Nat → HL) (h0 : ∀ n o, aget (HH 0) n = some o → aget s.H n = some o) (hlt : ∀ k, k ≤ N → ltH s.fr (HH k) = true) (hHc : ∀ k, k ≤ N → LessRo Hc (HH k))
    (hX : ∀ k, (X k).length = ps.size) (hps : ∀ p ∈ ps.toList, p < nt)
    (hround : ∀ k, k < N → ∃ sa s', evC P cs nt nn F s.fr assign ⟨putPs s.T ps.toList (X k), HH k, s.fr⟩ = some (.normal, sa) ∧ evC P cs nt nn F s.fr body sa = some (.normal, s') ∧ ∀ n o, aget (HH (k + 1)) n = some o → aget s'.H n = some o)
    {id : Nat} {Hf : HL} (hfin : fin = true → Hf = HH N) (hltf : ltH s.fr Hf = true)
    (hlast : fin = false → ∃ sa s', evC P cs nt nn F s.fr assign ⟨putPs s.T ps.toList (X N), HH N, s.fr⟩ = some (.normal, sa) ∧ evC P cs nt nn F s.fr body sa = some (.exit id, s') ∧ ∀ n o, aget Hf n = some o → aget s'.H n = some o)
    {n : Nat} {D : List Deferred} {σ : Sig} {a : Act} {w : World} {Q : Exit → Act → World → Prop} (hr : RD P σ nt s.T s.H D [] a w) (hf : Fresh σ s.fr)
    (hQ : ∀ σ' a' w' B, RD P σ' nt s.T Hf ({ target := .collected B, args := #[] } :: D) [] a' w' → Frm σ (aget s.H) w σ' (aget Hf) w' → Fresh σ' s.fr → w'.heap[B]? = some (.deferred (some [])) → w.heap.size ≤ B → Q (outX fin id) a' w') :
    (Code.rangeFunc g ps assign body).wpIn (Fw none) n P Q a w := by
  refine wpIn_rangeFunc ?_
  intro fnn hfn
  have hgv := hr.rel.env g _ hg
  have hgv2 : VR σ (.fn gf cap) (a.eval g) := hgv
  obtain ⟨cap', hge, hcap⟩ : ∃ cap', a.eval g = .func (.func gf) #[] cap' ∧ LR σ cap cap' := by
    generalize a.eval g = z at hgv2
    cases hgv2 with
    | fn h1 h2 => exact ⟨_, rfl, h1, h2⟩
  obtain ⟨rec, hrec⟩ : ∃ rec : LoopState → Option Code → Loop, rec = fun st pe => { state := st, pending := pe, fn := fnn, tmps := a.tmps, params := ps, assign, body, defers := w.heap.size } := ⟨_, rfl⟩
  obtain ⟨W1, hW1⟩ : ∃ W1, (w.alloc (.deferred (some []))).alloc (.loop (rec .ready none)) = W1 := ⟨_, rfl⟩
  have hL1 : W1.heap[w.heap.size + 1]? = some (.loop (rec .ready none)) := by
    rw [← hW1]; have := World.alloc_heap_new (w.alloc (.deferred (some []))) (.loop (rec .ready none)); rwa [World.size_alloc] at this
  have hK1 : W1.heap[w.heap.size]? = some (.deferred (some [])) := by
    rw [← hW1]; exact (Below.heap_alloc _ _ _ (by simp)).trans (World.alloc_heap_new w _)
  have hGr : Grown w W1 := by
    rw [← hW1]
    exact ⟨by simp; omega, fun b hb => (Below.heap_alloc _ _ _ (by simp; omega)).trans (Below.heap_alloc w _ b hb), rfl, rfl, rfl⟩
  -- what holds between two rounds
  obtain ⟨J, hJ⟩ : ∃ J : Nat → World → Prop, J = fun k W => k ≤ N ∧ (∃ σ', HRel σ' (aget (HH k)) W ∧ Frm σ (aget s.H) w σ' (aget (HH k)) W ∧ Fresh σ' s.fr) ∧ W.heap[w.heap.size + 1]? = some (.loop (rec .ready none)) ∧ W.heap[w.heap.size]? = some (.deferred (some [])) := ⟨_, rfl⟩
  obtain ⟨Jx, hJx⟩ : ∃ Jx : World → Prop, Jx = fun W => fin = false ∧ (∃ σ', HRel σ' (aget Hf) W ∧ Frm σ (aget s.H) w σ' (aget Hf) W ∧ Fresh σ' s.fr) ∧ W.heap[w.heap.size + 1]? = some (.loop (rec .done (some (.exit id)))) ∧ W.heap[w.heap.size]? = some (.deferred (some [])) := ⟨_, rfl⟩
  have hlp : ∀ st pe, ∀ c t fz, Obj.loop (rec st pe) ≠ .cells c t fz := fun _ _ _ _ _ h => by cases h
  have hdf : ∀ c t fz, Obj.deferred (some []) ≠ .cells c t fz := fun _ _ _ h => by cases h
  have keep : ∀ {A B : World} {b : Nat} {o : Obj}, A.heap[b]? = some o → Grown A B → B.heap[b]? = some o := fun h g => (g.old _ (Array.getElem?_eq_some_iff.1 h).1).trans h
  refine ⟨w.heap.size + 1, [{ target := .collected w.heap.size, args := #[] }], W1, { target := .fn (.func gf) cap', args := #[.func (.yield (w.heap.size + 1)) #[] #[]] }, W1, gf,
    #[.func (.yield (w.heap.size + 1)) #[] #[]] ++ cap', W1, ?_, ?_, ?_, ?_, (fun h => by cases h), ?_⟩
  · rw [← hW1, hrec]; exact run_enterLoop_outer _ _ _ _ _
  · simp only [resolve, hge]
    simp [go_sem]
  · intro f' hf'; trivial
  · simp [invoke, go_sem, hent]
  · refine callsIn_Fw ((hit cap' (w.heap.size + 1) J Jx W1 ?_ ?_ ?_ ?_).mono ?_)
    · rw [hJ]
      rintro k A B ⟨hk, ⟨σ', q1, q2, q3⟩, q4, q5⟩ gr
      exact ⟨hk, ⟨σ', q1.grown gr, q2.grown gr, q3⟩, keep q4 gr, keep q5 gr⟩
    · rw [hJx]
      rintro A B ⟨hk, ⟨σ', q1, q2, q3⟩, q4, q5⟩ gr
      exact ⟨hk, ⟨σ', q1.grown gr, q2.grown gr, q3⟩, keep q4 gr, keep q5 gr⟩
    · rw [hJ]
      rintro k W ⟨hk, ⟨σ1, q1, q2, q3⟩, hl, hd⟩
      refine ⟨hk, σ1, hr.rel.glob.mono q2.ext, q1.lessRo (hHc k hk), hcap.mono q2.ext, fun hkN xs hxs m => ?_⟩
      have hlW : w.heap.size + 1 < W.heap.size := (Array.getElem?_eq_some_iff.1 hl).1
      have hsz : xs.size = (rec .ready none).params.size := by rw [← hxs.1, hX k, hrec]
      have hy := run_yield (P := P) hl hsz
      refine ⟨fnn, _, assign, body, by rw [hrec] at hy; exact hy, roundIn_of_wpIn hfn ?_⟩
      -- the round's own activation
      obtain ⟨xl⟩ := xs
      have hput := putPs_ok (σ := σ1) (nt := nt) ps.toList (X k) xl s.T a.tmps hps hxs (fun t v hv => by
        obtain ⟨v', e1, e2⟩ := hr.rel.tmps t v hv
        exact ⟨v', e1, e2.mono q2.ext⟩) hr.rel.size
      have harr : (ps.zip xl.toArray).foldl (fun tmps (p : Tmp × Value) => tmps.setIfInBounds p.1 p.2) a.tmps = (ps.toList.zip xl).foldl (fun (t : Array Value) (p : Tmp × Value) => t.setIfInBounds p.1 p.2) a.tmps := by
        rw [← Array.foldl_toList, Array.toList_zip]
      have hr1 : RD P σ1 nt (putPs s.T ps.toList (X k)) (HH k) [] [] { tmps := (ps.zip xl.toArray).foldl (fun tmps (p : Tmp × Value) => tmps.setIfInBounds p.1 p.2) a.tmps, defers := [] } W := by
        refine ⟨⟨fun t v hv => ?_, ?_, rfl, q1, hr.rel.glob.mono q2.ext⟩, rfl, fun _ _ h => by cases h⟩
        · obtain ⟨v', e1, e2⟩ := hput.1 t v hv
          exact ⟨v', by show ((ps.zip xl.toArray).foldl _ a.tmps)[t]? = some v'; rw [harr]; exact e1, e2⟩
        · show ((ps.zip xl.toArray).foldl _ a.tmps).size = nt
          rw [harr]; exact hput.2
      have go : ∀ (x : XA) (sa s' : SA), evC P cs nt nn F s.fr assign ⟨putPs s.T ps.toList (X k), HH k, s.fr⟩ = some (.normal, sa) → evC P cs nt nn F s.fr body sa = some (x, s') → ∀ R : Ending → World → Prop,
          (∀ σ3 a3 w3, RD P σ3 nt s'.T s'.H [] [] a3 w3 → Frm σ (aget s.H) w σ3 (aget s'.H) w3 → w3.heap[w.heap.size + 1]? = some (.loop (rec .busy none)) → w3.heap[w.heap.size]? = some (.deferred (some [])) → roundPost P (w.heap.size + 1) R x.out a3 w3) →
          assign.wpIn (Fence.wide.inRound (w.heap.size + 1)) m P (Exit.then (fun a₁ w₁ => ∃ w₂, (Instr.beginRound (w.heap.size + 1)).run P w₁ = .ok () w₂ ∧ body.wpIn (Fence.wide.inRound (w.heap.size + 1)) m P (roundPost P (w.heap.size + 1) R) a₁ w₂) (fun _ _ _ => False))
            { tmps := (ps.zip xl.toArray).foldl (fun tmps (p : Tmp × Value) => tmps.setIfInBounds p.1 p.2) a.tmps, defers := [] } W := fun x sa s' ha hb R hR => by
        refine evC_okI hcs hm assign _ _ _ ha (some (w.heap.size + 1)) m [] [] (pinB_nil _) σ1 _ W _ hr1 q3 fun σ2 a1 w1 g1 g2 g3 => ?_
        have G2 := g2.full q3
        have hl1 := (G2.old _ hlW (not_own q1 hl (hlp _ _))).1.trans hl
        have hd1 := (G2.old _ (by omega) (not_own q1 hd hdf)).1.trans hd
        have hb1 := run_beginRound (P := P) hl1 (by rw [hrec])
        have hrb : ({ rec .ready none with state := .busy } : Loop) = rec .busy none := by rw [hrec]
        rw [hrb] at hb1
        refine ⟨_, hb1, ?_⟩
        have hw1 : w.heap.size + 1 < w1.heap.size := (Array.getElem?_eq_some_iff.1 hl1).1
        have A := (q2.trans G2).putObj (l := w.heap.size + 1) (o := .loop (rec .busy none)) (by omega)
        have hh2 := g1.rel.heap.putObj (o' := .loop (rec .busy none)) hl1 (hlp _ _)
        have hl2 : (w1.putObj (w.heap.size + 1) (.loop (rec .busy none))).heap[w.heap.size + 1]? = some (.loop (rec .busy none)) := World.putObj_heap_same hw1
        have hd2 : (w1.putObj (w.heap.size + 1) (.loop (rec .busy none))).heap[w.heap.size]? = some (.deferred (some [])) := (World.putObj_heap_other (by omega)).trans hd1
        refine evC_okI hcs hm body sa x s' hb (some (w.heap.size + 1)) m [] [] (pinB_nil _) σ2 a1 _ _ ⟨⟨g1.rel.tmps, g1.rel.size, g1.rel.defers, hh2, g1.rel.glob⟩, g1.defers, g1.pins⟩ g3 fun σ3 a3 w3 k1 k2 k3 => ?_
        have B := ((A.b s.fr).trans k2).full hf
        exact hR σ3 a3 w3 k1 B ((k2.old _ (Array.getElem?_eq_some_iff.1 hl2).1 (not_own hh2 hl2 (hlp _ _))).1.trans hl2) ((k2.old _ (Array.getElem?_eq_some_iff.1 hd2).1 (not_own hh2 hd2 hdf)).1.trans hd2)
      have next : ∀ {σ3 : Sig} {a3 : Act} {w3 : World} {s' : SA} {H' : HL} {o : Obj}, RD P σ3 nt s'.T s'.H [] [] a3 w3 → Frm σ (aget s.H) w σ3 (aget s'.H) w3 → w3.heap[w.heap.size + 1]? = some (.loop (rec .busy none)) → (∀ n o, aget H' n = some o → aget s'.H n = some o) → ltH s.fr H' = true →
          ∃ σ', HRel σ' (aget H') (w3.putObj (w.heap.size + 1) o) ∧ Frm σ (aget s.H) w σ' (aget H') (w3.putObj (w.heap.size + 1) o) ∧ Fresh σ' s.fr := fun {σ3 a3 w3 s' H' o} k1 B hl3 hs hlt' => by
        have c1 := (k1.rel.less (T' := []) (fun _ _ h => by simp [aget] at h) hs).cut (m := s.fr) rfl hlt' hgl
        have c2 := ((B.less hs).b s.fr).cut hf
        exact ⟨_, c1.heap.putObj hl3 (hlp _ _), (c2.full hf).putObj (by omega), cut_fresh _ _⟩
      by_cases hkn : k < N
      · obtain ⟨sa, s', ha, hb, hs⟩ := hround k hkn
        refine go _ sa s' ha hb _ fun σ3 a3 w3 k1 B hl3 hd3 => ?_
        have he := run_endRound (P := P) none hl3
        have hrb : ({ rec .busy none with state := if (none : Option Code).isNone then .ready else .done, pending := none } : Loop) = rec .ready none := by rw [hrec]; rfl
        rw [hrb] at he
        refine ⟨_, _, he, .inl ⟨rfl, hkn, next k1 B hl3 hs (hlt (k + 1) hkn), World.putObj_heap_same (Array.getElem?_eq_some_iff.1 hl3).1, (World.putObj_heap_other (by omega)).trans hd3⟩⟩
      · have hk2 : k = N := by omega
        subst hk2
        have hff := hkN.resolve_left hkn
        obtain ⟨sa, s', ha, hb, hs⟩ := hlast hff
        refine go _ sa s' ha hb _ fun σ3 a3 w3 k1 B hl3 hd3 => ?_
        have he := run_endRound (P := P) (some (.exit id)) hl3
        have hrb : ({ rec .busy none with state := if (some (Code.exit id)).isNone then .ready else .done, pending := some (.exit id) } : Loop) = rec .done (some (.exit id)) := by rw [hrec]; rfl
        rw [hrb] at he
        refine ⟨_, _, he, .inr ⟨rfl, ?_⟩⟩
        rw [hJx]
        exact ⟨hff, next k1 B hl3 hs hltf, World.putObj_heap_same (Array.getElem?_eq_some_iff.1 hl3).1, (World.putObj_heap_other (by omega)).trans hd3⟩
    · rw [hJ]
      exact ⟨Nat.zero_le _, ⟨σ, (hr.rel.heap.less h0).grown hGr, ((Frm.refl σ (aget s.H) w).less h0).grown hGr, hf⟩, hL1, hK1⟩
    · rintro e W3 ⟨⟨v, rfl⟩, ⟨hfn1, hj⟩ | hj⟩
      · rw [hJ] at hj
        obtain ⟨hk, ⟨σ', q1, q2, q3⟩, hl, hd⟩ := hj
        have hend := run_endLoop (P := P) hl (by rw [hrec]; simp)
        have hp : (rec .ready none).pending = none := by rw [hrec]
        rw [hp] at hend
        refine ⟨none, _, hend, ?_⟩
        subst hfn1
        rw [hfin rfl] at hQ
        refine hQ σ' _ _ w.heap.size ⟨⟨fun t v hv => ?_, hr.rel.size, rfl, q1.putObj hl (hlp _ _), hr.rel.glob.mono q2.ext⟩, ?_, fun _ _ h => by cases h⟩ (q2.putObj (by omega)) q3 ?_ (Nat.le_refl _)
        · obtain ⟨v', e1, e2⟩ := hr.rel.tmps t v hv
          exact ⟨v', e1, e2.mono q2.ext⟩
        · show [_] ++ a.defers = _
          rw [hr.defers]; rfl
        · rw [World.putObj_heap_other (by omega)]; exact hd
      · rw [hJx] at hj
        obtain ⟨hk, ⟨σ', q1, q2, q3⟩, hl, hd⟩ := hj
        have hend := run_endLoop (P := P) hl (by rw [hrec]; simp)
        have hp : (rec .done (some (.exit id))).pending = some (.exit id) := by rw [hrec]
        rw [hp] at hend
        refine ⟨some (.exit id), _, hend, wpIn_exit ?_⟩
        subst hk
        refine hQ σ' _ _ w.heap.size ⟨⟨fun t v hv => ?_, hr.rel.size, rfl, q1.putObj hl (hlp _ _), hr.rel.glob.mono q2.ext⟩, ?_, fun _ _ h => by cases h⟩ (q2.putObj (by omega)) q3 ?_ (Nat.le_refl _)
        · obtain ⟨v', e1, e2⟩ := hr.rel.tmps t v hv
          exact ⟨v', e1, e2.mono q2.ext⟩
        · show [_] ++ a.defers = _
          rw [hr.defers]; rfl
        · rw [World.putObj_heap_other (by omega)]; exact hd
end Go.Eng

/- Engine, part 34: functions in which a range over a function stands. -/
namespace Go.Eng
set_option linter.unusedVariables false
set_option linter.unusedSimpArgs false
open Go Go.RowKit
def wpS (ro : Option Nat) (n : Nat) (P : Program) : List Code → (Exit → Act → World → Prop) → Act → World → Prop
  | [], Q => Q .normal
  | c :: l, Q => c.wpIn (Fw ro) n P (Exit.then (wpS ro n P l Q) Q)
section
variable {P : Program} {ro : Option Nat} {n : Nat}
theorem wpS_mono : ∀ (l : List Code) {Q Q' : Exit → Act → World → Prop} {a : Act} {w : World}, wpS ro n P l Q a w → (∀ e a w, Q e a w → Q' e a w) → wpS ro n P l Q' a w
  | [], _, _, _, _, h, hq => hq _ _ _ h
  | c :: l, Q, Q', a, w, h, hq => wpIn_mono h fun e a w he => by
    cases e with
    | normal => exact wpS_mono l he hq
    | exit id => exact hq _ _ _ he
    | goto t => exact hq _ _ _ he
    | ret => exact hq _ _ _ he
    | panic ch => exact hq _ _ _ he
    | outgrown => exact hq _ _ _ he
theorem wpS_app : ∀ (l m : List Code) {Q : Exit → Act → World → Prop} {a : Act} {w : World}, wpS ro n P (l ++ m) Q a w → wpS ro n P l (Exit.then (wpS ro n P m Q) Q) a w
  | [], m, Q, a, w, h => h
  | c :: l, m, Q, a, w, h => wpIn_mono h fun e a w he => by
    cases e with
    | normal => exact wpS_app l m he
    | exit id => exact he
    | goto t => exact he
    | ret => exact he
    | panic ch => exact he
    | outgrown => exact he
theorem wpS_app' : ∀ (l m : List Code) {Q : Exit → Act → World → Prop} {a : Act} {w : World}, wpS ro n P l (Exit.then (wpS ro n P m Q) Q) a w → wpS ro n P (l ++ m) Q a w
  | [], m, Q, a, w, h => h
  | c :: l, m, Q, a, w, h => wpIn_mono h fun e a w he => by
    cases e with
    | normal => exact wpS_app' l m he
    | exit id => exact he
    | goto t => exact he
    | ret => exact he
    | panic ch => exact he
    | outgrown => exact he
theorem wpS_pieces : ∀ (c : Code) {Q : Exit → Act → World → Prop} {a : Act} {w : World}, wpS ro n P (pieces c) Q a w → c.wpIn (Fw ro) n P Q a w := by
  have one : ∀ (c : Code) {Q : Exit → Act → World → Prop} {a : Act} {w : World}, wpS ro n P [c] Q a w → c.wpIn (Fw ro) n P Q a w := fun c Q a w h => wpIn_mono h fun e a w he => by cases e <;> exact he
  intro c
  induction c with
  | seq a b iha ihb =>
    intro Q ac w h
    refine wpIn_seq (iha (wpS_mono _ (wpS_app _ _ h) fun e a w he => ?_))
    cases e with
    | normal => exact ihb he
    | exit id => exact he
    | goto t => exact he
    | ret => exact he
    | panic ch => exact he
    | outgrown => exact he
  | _ => intro Q ac w h; exact one _ h
end
def pinS (ss : List Tmp) : List Code → Bool
  | [] => true
  | c :: l => pinB ss c && pinS ss l
theorem pinS_nil : ∀ l, pinS [] l = true
  | [] => rfl
  | c :: l => by unfold pinS; rw [pinB_nil, pinS_nil l]; rfl
theorem evS_okI {P : Program} {cs : CS} (hcs : CSOk P cs) (hm : P.follows .mixedOrders = true) {nt nn F bs : Nat} : ∀ (l : List Code) (s : SA) (x : XA) (s' : SA), evS P cs nt nn F bs l s = some (x, s') →
    ∀ (ro : Option Nat) (n : Nat) (D : List Deferred) (pin : List (Tmp × Value)) (_ : pinS (pin.map (·.1)) l = true) (σ : Sig) (a : Act) (w : World) (Q : Exit → Act → World → Prop), RD P σ nt s.T s.H D pin a w → Fresh σ s.fr →
    (∀ σ' a' w', RD P σ' nt s'.T s'.H D pin a' w' → FrmB bs σ (aget s.H) w σ' (aget s'.H) w' → Fresh σ' s'.fr → Q x.out a' w') → wpS ro n P l Q a w
  | [], s, x, s', h, ro, n, D, pin, hpb, σ, a, w, Q, hr, hf, hQ => by
    simp only [evS, Option.some.injEq, Prod.mk.injEq] at h
    obtain ⟨rfl, rfl⟩ := h
    exact hQ σ a w hr (FrmB.refl _ _ _ _) hf
  | c :: l, s, x, s', h, ro, n, D, pin, hpb, σ, a, w, Q, hr, hf, hQ => by
    simp only [pinS, Bool.and_eq_true] at hpb
    simp only [evS] at h
    cases hs : evC P cs nt nn F bs c s with
    | none => rw [hs] at h; cases h
    | some p =>
      obtain ⟨y, s1⟩ := p
      rw [hs] at h
      refine evC_okI hcs hm c s y s1 hs ro n D pin hpb.1 σ a w _ hr hf fun σ1 a1 w1 g1 g2 g3 => ?_
      cases y with
      | normal =>
        simp only at h
        exact evS_okI hcs hm l s1 x s' h ro n D pin hpb.2 σ1 a1 w1 Q g1 g3 fun σ2 a2 w2 q1 q2 q3 => hQ σ2 a2 w2 q1 (g2.trans q2) q3
      | exit id => simp only [Option.some.injEq, Prod.mk.injEq] at h; obtain ⟨rfl, rfl⟩ := h; exact hQ σ1 a1 w1 g1 g2 g3
      | ret => simp only [Option.some.injEq, Prod.mk.injEq] at h; obtain ⟨rfl, rfl⟩ := h; exact hQ σ1 a1 w1 g1 g2 g3
/-- What a function hands back. -/
def finR (P : Program) (fn : Func) (s : SA) : Option (AVal × HL × Nat) := match resA P s.T s.H fn.results.toList with
  | none => none
  | some [v] => some (v, s.H, s.fr)
  | some vs => some (.tup vs, s.H, s.fr)
theorem finR_ok {P : Program} {fn : Func} {s : SA} {v : AVal} {H' : HL} {fr' : Nat} (h : finR P fn s = some (v, H', fr')) {σ : Sig} {nt : Nat} {a : Act} {w : World} (g1 : RRel P σ nt s.T s.H a w) :
    H' = s.H ∧ fr' = s.fr ∧ ∃ u, (results fn a.tmps).run P w = .ok u w ∧ VR σ v u := by
  unfold finR at h
  cases hres : resA P s.T s.H fn.results.toList with
  | none => rw [hres] at h; cases h
  | some vs =>
    rw [hres] at h
    obtain ⟨vs', k1, k2⟩ := resA_ok g1 hres
    have hrun : (fn.results.mapM (m := Sem) fun
        | .tmp t => pure (a.tmps.getD t undef)
        | .cell b t => do loadVar t (← asAddr (a.tmps.getD b undef))).run P w = .ok vs'.toArray w := by
      rw [Array.mapM_eq_mapM_toList]
      simp only [Sem.run_map]
      exact congrArg (fun r => Result.andThen r fun (a : List Value) w' => Result.ok a.toArray w') k1
    have hres2 : (results fn a.tmps).run P w = .ok (if h : vs'.toArray.size = 1 then vs'.toArray[0] else .tuple vs'.toArray) w := by
      unfold results
      simp only [Sem.run_bind]
      exact congrArg (fun r => Result.andThen r fun (vs : Array Value) w'' => (pure (if h : vs.size = 1 then vs[0] else .tuple vs) : Sem Value).run P w'') hrun
    match vs, k2, h with
    | [u], k2, h =>
      simp only [Option.some.injEq, Prod.mk.injEq] at h
      obtain ⟨rfl, rfl, rfl⟩ := h
      obtain ⟨x', e1, e2⟩ := k2.inv1
      have : vs' = [x'] := by simpa using e1
      subst this
      exact ⟨rfl, rfl, x', hres2, e2⟩
    | [], k2, h =>
      simp only [Option.some.injEq, Prod.mk.injEq] at h
      obtain ⟨rfl, rfl, rfl⟩ := h
      have hl : vs'.toArray.size ≠ 1 := by have := k2.1; simp at this ⊢; omega
      rw [dif_neg hl] at hres2
      exact ⟨rfl, rfl, _, hres2, .tup k2.1 k2.2⟩
    | x :: y :: l, k2, h =>
      simp only [Option.some.injEq, Prod.mk.injEq] at h
      obtain ⟨rfl, rfl, rfl⟩ := h
      have hl : vs'.toArray.size ≠ 1 := by have := k2.1; simp at this ⊢; omega
      rw [dif_neg hl] at hres2
      exact ⟨rfl, rfl, _, hres2, .tup k2.1 k2.2⟩
theorem runR_ok {P : Program} {cs : CS} (hcs : CSOk P cs) (hm : P.follows .mixedOrders = true) {nn F : Nat} {f : FuncId} {fn : Func} {c : Code} (hfn : P.funcs[f]? = some fn) (hb : fn.body = some c) {args : List AVal} {H : HL} {fr : Nat} (hn : Nat.ble args.length fn.ntmps = true)
    {l1 l2 : List Code} {rid : Nat} {g : Operand} {ps : Array Tmp} {assign body : Code} (hp : pieces c = l1 ++ .block rid (.rangeFunc g ps assign body) :: l2) {s : SA} (h1 : evS P cs fn.ntmps nn F fr l1 ⟨startT args 0, H, fr⟩ = some (.normal, s))
    {gf : FuncId} {cap : List AVal} {Hc : HL} {X : Nat → List AVal} {N : Nat} {fin : Bool}
    (hg : opd P (aget s.T) g = some (.fn gf cap)) (hent : ∀ args w, (callFunc gf args).run P w = .ok (.enter gf args) w) (hit : ItOk P gf cap Hc X N fin) (hgl : P.globals.size ≤ s.fr)
    (HH : Nat → HL) (h0 : ∀ n o, aget (HH 0) n = some o → aget s.H n = some o) (hlt : ∀ k, k ≤ N → ltH s.fr (HH k) = true) (hHc : ∀ k, k ≤ N → LessRo Hc (HH k))
    (hX : ∀ k, (X k).length = ps.size) (hps : ∀ p ∈ ps.toList, p < fn.ntmps)
    (hround : ∀ k, k < N → ∃ sa s', evC P cs fn.ntmps nn F s.fr assign ⟨putPs s.T ps.toList (X k), HH k, s.fr⟩ = some (.normal, sa) ∧ evC P cs fn.ntmps nn F s.fr body sa = some (.normal, s') ∧ ∀ n o, aget (HH (k + 1)) n = some o → aget s'.H n = some o)
    {Hf : HL} (hfin : fin = true → Hf = HH N) (hltf : ltH s.fr Hf = true)
    (hlast : fin = false → ∃ sa s', evC P cs fn.ntmps nn F s.fr assign ⟨putPs s.T ps.toList (X N), HH N, s.fr⟩ = some (.normal, sa) ∧ evC P cs fn.ntmps nn F s.fr body sa = some (.exit rid, s') ∧ ∀ n o, aget Hf n = some o → aget s'.H n = some o)
    {x : XA} {s2 : SA} (h2 : evS P cs fn.ntmps nn F fr l2 ⟨s.T, Hf, s.fr⟩ = some (x, s2)) (hx : x = .normal ∨ x = .ret) {v : AVal} {H' : HL} {fr' : Nat} (hres : finR P fn s2 = some (v, H', fr'))
    {σ : Sig} {args' : Array Value} {w : World} (ha : LR σ args args') (hH : HRel σ (aget H) w) (hgr : GRel P σ) (hfr : Fresh σ fr) :
    Calls P f args' w fun r w' => ∃ σ' v', r = .returned v' ∧ VR σ' v v' ∧ HRel σ' (aget H') w' ∧ Frm σ (aget H) w σ' (aget H') w' ∧ Fresh σ' fr' := by
  have hn := Nat.le_of_ble_eq_true hn
  have hr0 : RRel P σ fn.ntmps (startT args 0) H { tmps := args' ++ Array.replicate (fn.ntmps - args'.size) undef, defers := [] } w := by
    refine ⟨fun s v hv => ?_, by simp [← ha.1]; omega, rfl, hH, hgr⟩
    obtain ⟨_, h1⟩ := startT_get hv
    obtain ⟨v', g1, g2⟩ := ha.get (by simpa using h1)
    refine ⟨v', ?_, g2⟩
    simp only
    rw [Array.getElem?_append_left (Array.getElem?_eq_some_iff.1 g1).1]
    exact g1
  refine (callsIn_wide (n := 0)).1 (callsIn_of_wp_marks (F := Fence.wide) hfn hb trivial ?_ rfl)
  refine wpS_pieces (ro := none) (n := 0) c ?_
  rw [hp]
  refine wpS_app' _ _ (evS_okI hcs hm l1 _ _ _ h1 none 0 [] [] (pinS_nil _) σ _ w _ (.of hr0) hfr fun σ1 a1 w1 g1 g2 g3 => ?_)
  have G2 := g2.full hfr
  show (Code.block rid (.rangeFunc g ps assign body)).wpIn (Fw none) 0 P _ a1 w1
  refine wpIn_block (rangeFunc_okI hcs hm hg hent hit hgl HH h0 hlt hHc hX hps hround hfin hltf hlast g1 g3 fun σ2 a2 w2 B q1 q2 q3 q4 q5 => ?_)
  have goal : wpS none 0 P l2 (bodyPostM Fence.wide 0 P fn fun r w' => ∃ σ' v', r = .returned v' ∧ VR σ' v v' ∧ HRel σ' (aget H') w' ∧ Frm σ (aget H) w σ' (aget H') w' ∧ Fresh σ' fr') a2 w2 := by
    refine evS_okI hcs hm l2 _ _ _ h2 none 0 _ [] (pinS_nil _) σ2 a2 w2 _ q1 q3 fun σ3 a3 w3 k1 k2 k3 => ?_
    have hB := (k2.old B (Array.getElem?_eq_some_iff.1 q4).1 (not_own q1.rel.heap q4 (fun _ _ _ h => by cases h))).1.trans q4
    have hBw : w.heap.size ≤ B := Nat.le_trans G2.size q5
    have fin : LeavesInM Fence.wide 0 P fn a3.tmps (fun r w' => ∃ σ' v', r = .returned v' ∧ VR σ' v v' ∧ HRel σ' (aget H') w' ∧ Frm σ (aget H) w σ' (aget H') w' ∧ Fresh σ' fr') a3.defers .returning w3 := by
      rw [k1.defers]
      refine ⟨by simp, .inl ⟨B, _, rfl, run_takeDeferred hB, ?_⟩⟩
      have hh := k1.rel.heap.putObj (o' := .deferred none) hB (fun _ _ _ h => by cases h)
      have rr : RRel P σ3 fn.ntmps s2.T s2.H (bare a3) (w3.putObj B (.deferred none)) := ⟨k1.rel.tmps, k1.rel.size, k1.rel.defers, hh, k1.rel.glob⟩
      obtain ⟨rfl, rfl, u, e1, e2⟩ := finR_ok hres rr
      refine ⟨u, e1, σ3, u, rfl, e2, hh, ?_, k3⟩
      exact ((((G2.trans q2).b fr).trans k2).full hfr).putObj hBw
    rcases hx with rfl | rfl
    · exact fin
    · exact fin
  unfold outX
  cases fin with
  | true => exact goal
  | false =>
    simp only [cond_false, Exit.inBlock, if_true]
    exact goal
/-- What is shown of a run in an empty memory, as what is said of the call. -/
theorem callOk_of {P : Program} {f : FuncId} {args : List AVal} {v : AVal} {H' : HL} {fr' : Nat}
    (h : ∀ (σ : Sig) (args' : Array Value) (w : World), LR σ args args' → HRel σ (aget []) w → GRel P σ → Fresh σ P.globals.size → Calls P f args' w fun r w' => ∃ σ' v', r = .returned v' ∧ VR σ' v v' ∧ HRel σ' (aget H') w' ∧ Frm σ (aget []) w σ' (aget H') w' ∧ Fresh σ' fr')
    (ha : allV args = true) (hv : ltV 0 v = true) : CallOk P f args (.pure v) := by
  intro σ args' H w base v0 H0 hl hg hH happ hfree
  simp only [EffA.app, Option.some.injEq, Prod.mk.injEq] at happ
  obtain ⟨rfl, rfl⟩ := happ
  have hl0 : LR (cut P.globals.size σ) args args' := hl.cut0 (allV_mem ha) _
  have hg0 : GRel P (cut P.globals.size σ) := fun g hgl => by
    obtain ⟨sz, hs⟩ := hg g hgl
    exact ⟨sz, cut_of hs hgl⟩
  refine (h _ _ _ hl0 ⟨fun n o hn => by simp [aget] at hn, fun n m o o' p q hn => by simp [aget] at hn⟩ hg0 (cut_fresh _ _)).mono fun r w' hrw => ?_
  obtain ⟨σ', v', rfl, g1, g2, g3, g4⟩ := hrw
  have hold : ∀ b, b < w.heap.size → w'.heap[b]? = w.heap[b]? := fun b hb => (g3.old b hb fun ⟨n, o, p, a1, _⟩ => by simp [aget] at a1).1
  refine ⟨σ, v', rfl, g1.cut0 hv σ, ⟨fun n o hn => ?_, hH.inj⟩, ⟨Sig.le_refl σ, g3.size, g3.os, g3.output, g3.tape, fun b hb hn => ⟨hold b hb, hn⟩⟩, Only.refl σ base⟩
  obtain ⟨p, hp, ho⟩ := hH.obj n o hn
  exact ⟨p, hp, ho.mono (Sig.le_refl σ) (hold _ ho.lt)⟩
end Go.Eng
