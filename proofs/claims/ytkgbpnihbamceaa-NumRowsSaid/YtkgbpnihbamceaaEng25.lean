/- Engine, part 25: runs whose tests are foretold. -/
import Derived.Test.YtkgbpnihbamceaaEng22
namespace Go.Eng
set_option linter.unusedVariables false
set_option linter.unusedSimpArgs false
open Go

def memN (n : Nat) : List Nat → Bool
  | [] => false
  | k :: l => cond (Nat.beq k n) true (memN n l)
def allT : List Bool → Bool
  | [] => true
  | b :: l => cond b (allT l) false
theorem allT_cons {b : Bool} {l : List Bool} (h : allT (b :: l) = true) : b = true ∧ allT l = true := by
  cases b with
  | true => exact ⟨rfl, h⟩
  | false => cases h
/-- What is foretold; what that asks, the last first. -/
structure OS where
  os : List Bool
  vs : List AVal
  ob : List Bool
/-- The sites: slots; a store's is its address's slot and 100000. -/
def isS (sy : List Nat) (o : Oper) : Bool :=
  match o.dst with
  | some d => memN d sy
  | none => match o.op with
    | .store _ (.tmp k) _ => memN (100000 + k) sy
    | _ => false
/-- The same simple value. -/
def eqS : AVal → AVal → Bool
  | .bool a, .bool b => a == b
  | .u8 a, .u8 b => a == b
  | .u32 a, .u32 b => a == b
  | .u64 a, .u64 b => a == b
  | .str a, .str b => a == b
  | .int k a, .int l b => decide (k = l) && (a == b)
  | _, _ => false
theorem eqS_eq {u v : AVal} (h : eqS u v = true) : u = v := by
  unfold eqS at h
  split at h
  · rw [eq_of_beq h]
  · rw [eq_of_beq h]
  · rw [eq_of_beq h]
  · rw [eq_of_beq h]
  · rw [eq_of_beq h]
  · simp only [Bool.and_eq_true, decide_eq_true_eq, beq_iff_eq] at h
    rw [h.1, h.2]
  · cases h
def isAt (c : List AVal) (off : Nat) (v : AVal) : Bool :=
  match c[off]? with
  | some u => eqS u v
  | none => false
theorem isAt_eq {c : List AVal} {off : Nat} {v : AVal} (h : isAt c off v = true) : c[off]? = some v := by
  unfold isAt at h
  split at h
  · rename_i u hu
    rw [hu, eqS_eq h]
  · cases h
/-- Summaries that ask something. -/
abbrev PS := FuncId → List AVal → Option (EffA × Bool)
def noPS : PS := fun _ _ => none
def PSOk (ps : PS) (cs : CS) : Prop := ∀ f args e, ps f args = some (e, true) → cs f args = some e
theorem noPS_ok (cs : CS) : PSOk noPS cs := fun _ _ _ h => by cases h
/-- What asks something, as what may not be. -/
def csP (ps : PS) : CS := fun f args => match ps f args with
  | some (e, c) => cond c (some e) none
  | none => none
theorem csP_ok {ps : PS} {cs : CS} : PSOk ps (csAlt (csP ps) cs) := fun f args v h => by
  unfold csAlt csP
  simp only [h, cond_true]
def psOne (f : FuncId) (g : List AVal → Option (EffA × Bool)) : PS := fun f' args => match Nat.beq f' f with
  | true => g args
  | false => none
def psAlt (a b : PS) : PS := fun f args => match a f args with
  | some e => some e
  | none => b f args
/-- An operation at a site: what it answers, if what is asked holds. -/
def siteE (P : Program) (ps : PS) (ρ : Operand → Option AVal) (o : Oper) : Option (EffA × Bool) :=
  match o.op with
  | .call c => match c.callee, evL ρ c.args.toList with
    | .value f, some args => match ρ f with
      | some (.fn f cap) => cond (bodied P f) (ps f (args ++ cap)) none
      | _ => none
    | _, _ => none
  | .index t x i => match P.underlying t, ρ x, ρ i with
    | some .string, some (.str s), some i => match toI i with
      | some j => some (.pure (.u8 (s.getD j.toNat 0)), decide (0 ≤ j) && decide (j < (s.length : Int)))
      | none => none
    | _, _, _ => none
  | .indexAddr t x i => match P.underlying t, ρ x, ρ i with
    | some (.array len e), some (.ptr n off), some i => match szA P e, toI i with
      | some sz, some j => some (.pure (.ptr n (off + j.toNat * sz)), decide (0 ≤ j) && decide (j < (len : Int)))
      | _, _ => none
    | some (.slice e), some (.slice n off len esz), some i => match szA P e, toI i with
      | some sz, some j => cond (Nat.beq sz esz) (some (.pure (.ptr n (off + j.toNat * esz)), decide (0 ≤ j) && decide (j < (len : Int)))) none
      | _, _ => none
    | _, _, _ => none
  | .binOp op _ x y _ => match op, ρ x, ρ y with
    | .add, some (.str a), some (.str b) => some (.pure (.str (a ++ b)), Nat.ble (a.length + b.length) 9223372036854775807)
    | _, _, _ => none
  | _ => none
theorem siteE_ok {P : Program} {ps : PS} {cs : CS} (hps : PSOk ps cs) {ρ : Operand → Option AVal} {o : Oper} {v : EffA} (h : siteE P ps ρ o = some (v, true)) : effA P cs ρ o = some v := by
  unfold siteE at h
  split at h
  · rename_i c ho
    split at h
    · rename_i f args hcal hargs
      split at h
      · rename_i fid cap hf
        cases hb : bodied P fid <;> rw [hb] at h <;> simp only [cond_true, cond_false] at h
        · cases h
        · simp only [effA, ho, hargs, hcal, hf, hb, cond_true]
          exact hps _ _ _ h
      · cases h
    · cases h
  · rename_i t x i ho
    split at h
    · rename_i s i' hu hx hi
      split at h
      · rename_i j hj
        simp only [Option.some.injEq, Prod.mk.injEq, Bool.and_eq_true, decide_eq_true_eq] at h
        obtain ⟨rfl, h0, h1⟩ := h
        have hlt : j.toNat < s.length := by omega
        simp only [effA, ho, hx, hi, indexA, hj, hu, idx_of h0 h1, List.getElem?_eq_getElem hlt, ofV]
        rw [List.getD_eq_getElem?_getD, List.getElem?_eq_getElem hlt]; rfl
      · cases h
    · cases h
  · rename_i t x i ho
    split at h
    · rename_i len e n off i' hu hx hi
      split at h
      · rename_i sz j hs hj
        simp only [Option.some.injEq, Prod.mk.injEq, Bool.and_eq_true, decide_eq_true_eq] at h
        obtain ⟨rfl, h0, h1⟩ := h
        simp only [effA, ho, hx, hi, indexAddrA, hj, hu, hs, idx_of h0 h1, ofV]
      · cases h
    · rename_i e n off len esz i' hu hx hi
      split at h
      · rename_i sz j hs hj
        cases hb : Nat.beq sz esz <;> rw [hb] at h <;> simp only [cond_true, cond_false] at h
        · cases h
        · simp only [Option.some.injEq, Prod.mk.injEq, Bool.and_eq_true, decide_eq_true_eq] at h
          obtain ⟨rfl, h0, h1⟩ := h
          simp only [effA, ho, hx, hi, indexAddrA, hj, hu, hs, idx_of h0 h1, hb, cond_true, ofV]
      · cases h
    · cases h
  · rename_i op t x y t' ho
    split at h
    · rename_i a b hx hy
      simp only [Option.some.injEq, Prod.mk.injEq] at h
      obtain ⟨rfl, h0⟩ := h
      simp only [effA, ho, hx, hy, nrm, binA, bin_s, h0, cond_true, ofV]
    · cases h
  · cases h
def kindS (P : Program) (ps : PS) (cs : CS) (sy : List Nat) (ops : Array Oper) (o : Oper) (T : TL) (q : OS) : Option (Option EffA × OS) :=
  match isS sy o with
  | false => match kindA P cs ops o T with
    | some e => some (e, q)
    | none => none
  | true => match wantA ops (aget T) o with
    | some true => match siteE P ps (opd P (aget T)) o with
      | some (e, c) => some (some e, ⟨q.os, q.vs, c :: q.ob⟩)
      | none => match kindA P cs ops o T with
        | some e => some (e, q)
        | none => none
    | _ => match kindA P cs ops o T with
      | some e => some (e, q)
      | none => none
theorem kindS_ok {P : Program} {ps : PS} {cs : CS} (hps : PSOk ps cs) {sy : List Nat} {ops : Array Oper} {o : Oper} {T : TL} {q q' : OS} {e : Option EffA} (h : kindS P ps cs sy ops o T q = some (e, q')) (ha : allT q'.ob = true) : kindA P cs ops o T = some e ∧ allT q.ob = true := by
  have key : ∀ {r : Option (Option EffA × OS)}, (match kindA P cs ops o T with | some e => some (e, q) | none => none) = some (e, q') → kindA P cs ops o T = some e ∧ allT q.ob = true := fun {r} hk => by
    split at hk
    · rename_i e' he
      simp only [Option.some.injEq, Prod.mk.injEq] at hk
      obtain ⟨rfl, rfl⟩ := hk
      exact ⟨he, ha⟩
    · cases hk
  unfold kindS at h
  split at h
  · exact key (r := none) h
  · split at h
    · rename_i hw
      split at h
      · rename_i v c hs
        simp only [Option.some.injEq, Prod.mk.injEq] at h
        obtain ⟨rfl, rfl⟩ := h
        obtain ⟨rfl, h2⟩ := allT_cons ha
        refine ⟨?_, h2⟩
        unfold kindA
        rw [hw]
        simp only [siteE_ok hps hs]
      · exact key (r := none) h
    · exact key (r := none) h
def bendT (d : Option Tmp) (T : TL) (q : OS) : TL × OS :=
  match d with
  | none => (T, q)
  | some d => match aget T d, q.os with
    | some (.bool t), b :: os => (aset T d (.bool b), ⟨os, q.vs, cond b t (!t) :: q.ob⟩)
    | _, _ => (T, q)
theorem aset_same : ∀ {T : TL} {d : Nat} {v : AVal}, aget T d = some v → aset T d v = T
  | [], d, v, h => by simp [aget] at h
  | (k, u) :: l, d, v, h => by
    simp only [aget] at h
    rcases beq_cases k d with ⟨he, hb⟩ | ⟨he, hb⟩ <;> rw [hb] at h <;> simp only [cond_true, cond_false] at h
    · subst he; cases h
      simp [aset, hb]
    · simp only [aset, hb, cond_false, aset_same h]
theorem bendT_ok {d : Option Tmp} {T T' : TL} {q q' : OS} (h : bendT d T q = (T', q')) (ha : allT q'.ob = true) : T' = T ∧ allT q.ob = true := by
  unfold bendT at h
  split at h
  · cases h; exact ⟨rfl, ha⟩
  · rename_i d
    split at h
    · rename_i t b os h1 h2
      cases h
      obtain ⟨h3, h4⟩ := allT_cons ha
      have : t = b := by cases b <;> cases t <;> first | rfl | cases h3
      subst this
      exact ⟨aset_same h1, h4⟩
    · cases h; exact ⟨rfl, ha⟩
def bendS (sy : List Nat) (o : Oper) (T : TL) (q : OS) : TL × OS :=
  match isS sy o with
  | true => bendT o.dst T q
  | false => (T, q)
theorem bendS_ok {sy : List Nat} {o : Oper} {T T' : TL} {q q' : OS} (h : bendS sy o T q = (T', q')) (ha : allT q'.ob = true) : T' = T ∧ allT q.ob = true := by
  unfold bendS at h
  split at h
  · exact bendT_ok h ha
  · cases h; exact ⟨rfl, ha⟩
/-- A load, or a store, at a site. -/
def memS (P : Program) (ρ : Operand → Option AVal) (o : Oper) (H : HL) (q : OS) : Option (AVal × HL × OS) :=
  match o.op with
  | .load t a => match ρ a, isAggA P t, q.vs with
    | some (.ptr n off), some false, v :: vs => match aget H n with
      | some (.cells _ c) => some (v, H, ⟨q.os, vs, isAt c off v :: q.ob⟩)
      | none => none
    | _, _, _ => none
  | .store t a x => match ρ a, ρ x, szA P t with
    | some (.ptr n off), some v, some sz => match aget H n with
      | some (.cells false c) => cond (Nat.beq (cellsA v).length sz && (cellsA v).all oneA) (some (.tup [], aset H n (.cells false (putA c off (cellsA v))), ⟨q.os, q.vs, Nat.ble (off + (cellsA v).length) c.length :: q.ob⟩)) none
      | _ => none
    | _, _, _ => none
  | _ => none
theorem memS_ok {P : Program} {cs : CS} {ρ : Operand → Option AVal} {o : Oper} {H H' : HL} {q q' : OS} {v : AVal} {e : EffA} {base : Nat} (h : memS P ρ o H q = some (v, H', q')) (he : effA P cs ρ o = some e) (ha : allT q'.ob = true) : e.app base H = some (v, H') := by
  unfold memS at h
  split at h
  · rename_i t a ho
    split at h
    · rename_i n off v0 vs h1 h2 h3
      split at h
      · rename_i ro c hn
        simp only [Option.some.injEq, Prod.mk.injEq] at h
        obtain ⟨rfl, rfl, rfl⟩ := h
        have := isAt_eq (allT_cons ha).1
        simp only [effA, ho, h1, loadA, h2, Option.some.injEq] at he
        subst he
        simp only [EffA.app, hn, this]
      · cases h
    · cases h
  · rename_i t a x ho
    split at h
    · rename_i n off v0 sz h1 h2 h3
      split at h
      · rename_i c hn
        cases hb : (Nat.beq (cellsA v0).length sz && (cellsA v0).all oneA) <;> rw [hb] at h <;> simp only [cond_true, cond_false] at h
        · cases h
        · simp only [Option.some.injEq, Prod.mk.injEq] at h
          obtain ⟨rfl, rfl, rfl⟩ := h
          have := (allT_cons ha).1
          simp only [effA, ho, h1, h2, storeA, h3, hb, cond_true, Option.some.injEq] at he
          subst he
          simp only [writeA, EffA.app, hn, this, cond_true, appU]
      · cases h
    · cases h
  · cases h
theorem memS_mono {P : Program} {ρ : Operand → Option AVal} {o : Oper} {H H' : HL} {q q' : OS} {v : AVal} (h : memS P ρ o H q = some (v, H', q')) (ha : allT q'.ob = true) : allT q.ob = true := by
  unfold memS at h
  split at h
  · split at h
    · split at h
      · simp only [Option.some.injEq, Prod.mk.injEq] at h
        obtain ⟨rfl, rfl, rfl⟩ := h
        exact (allT_cons ha).2
      · cases h
    · cases h
  · split at h
    · split at h
      · rename_i v0 sz _ _ _ _ c _
        cases hb : (Nat.beq (cellsA v0).length sz && (cellsA v0).all oneA) <;> rw [hb] at h <;> simp only [cond_true, cond_false] at h
        · cases h
        · simp only [Option.some.injEq, Prod.mk.injEq] at h
          obtain ⟨rfl, rfl, rfl⟩ := h
          exact (allT_cons ha).2
      · cases h
    · cases h
  · cases h
def stepSE (P : Program) (sy : List Nat) (nt base : Nat) (o : Oper) (e : Option EffA) (T : TL) (H : HL) (q : OS) : Option (TL × HL × OS) :=
  match isS sy o, e with
  | true, some _ => match memS P (opd P (aget T)) o H q with
    | some (v, H', q') => match putT nt T o.dst v with
      | some T' => some (T', H', q')
      | none => none
    | none => match stepE nt base o e T H with
      | some (T', H') => some (T', H', q)
      | none => none
  | _, _ => match stepE nt base o e T H with
    | some (T', H') => some (T', H', q)
    | none => none
theorem stepSE_mono {P : Program} {sy : List Nat} {nt base : Nat} {o : Oper} {e : Option EffA} {T T' : TL} {H H' : HL} {q q' : OS} (h : stepSE P sy nt base o e T H q = some (T', H', q')) (ha : allT q'.ob = true) : allT q.ob = true := by
  unfold stepSE at h
  split at h
  · split at h
    · rename_i v H1 q1 hm
      split at h
      · simp only [Option.some.injEq, Prod.mk.injEq] at h
        obtain ⟨rfl, rfl, rfl⟩ := h
        exact memS_mono hm ha
      · cases h
    · split at h
      · simp only [Option.some.injEq, Prod.mk.injEq] at h
        obtain ⟨rfl, rfl, rfl⟩ := h
        exact ha
      · cases h
  · split at h
    · simp only [Option.some.injEq, Prod.mk.injEq] at h
      obtain ⟨rfl, rfl, rfl⟩ := h
      exact ha
    · cases h
theorem stepSE_ok {P : Program} {cs : CS} {sy : List Nat} {nt base : Nat} {ops : Array Oper} {o : Oper} {e : Option EffA} {T T' : TL} {H H' : HL} {q q' : OS} (h : stepSE P sy nt base o e T H q = some (T', H', q')) (hk : kindA P cs ops o T = some e) (ha : allT q'.ob = true) : stepE nt base o e T H = some (T', H') := by
  unfold stepSE at h
  split at h
  · rename_i e0 _
    split at h
    · rename_i v H1 q1 hm
      split at h
      · rename_i T1 hp
        simp only [Option.some.injEq, Prod.mk.injEq] at h
        obtain ⟨rfl, rfl, rfl⟩ := h
        have he : effA P cs (opd P (aget T)) o = some e0 := by
          unfold kindA at hk
          split at hk
          · cases hk
          · cases hk
          · split at hk
            · cases hk
            · rename_i hx
              cases hk
              exact hx
        unfold stepE
        simp only [memS_ok hm he ha, hp]
      · cases h
    · split at h
      · rename_i T1 H1 hs
        simp only [Option.some.injEq, Prod.mk.injEq] at h
        obtain ⟨rfl, rfl, rfl⟩ := h
        exact hs
      · cases h
  · split at h
    · rename_i T1 H1 hs
      simp only [Option.some.injEq, Prod.mk.injEq] at h
      obtain ⟨rfl, rfl, rfl⟩ := h
      exact hs
    · cases h
def runS (P : Program) (ps : PS) (cs : CS) (sy : List Nat) (nt : Nat) (ops : Array Oper) : List Oper → Nat → TL → HL → OS → Option (TL × HL × OS)
  | [], _, T, H, q => some (T, H, q)
  | o :: l, b, T, H, q => match kindS P ps cs sy ops o T q with
    | none => none
    | some (e, q1) => match stepSE P sy nt b o e T H q1 with
      | none => none
      | some (T1, H1, q1') => match bendS sy o T1 q1' with
        | (T2, q2) => runS P ps cs sy nt ops l (b + 8) T2 H1 q2
theorem runS_ok {P : Program} {ps : PS} {cs : CS} (hps : PSOk ps cs) {sy : List Nat} {nt : Nat} {ops : Array Oper} : ∀ {l : List Oper} {b : Nat} {T T' : TL} {H H' : HL} {q q' : OS}, runS P ps cs sy nt ops l b T H q = some (T', H', q') → allT q'.ob = true → runA P cs nt ops l b T H = some (T', H') ∧ allT q.ob = true
  | [], b, T, T', H, H', q, q', h, ha => by
    simp only [runS, Option.some.injEq, Prod.mk.injEq] at h
    obtain ⟨rfl, rfl, rfl⟩ := h
    exact ⟨rfl, ha⟩
  | o :: l, b, T, T', H, H', q, q', h, ha => by
    simp only [runS] at h
    split at h
    · cases h
    · rename_i e q1 hk
      split at h
      · cases h
      · rename_i T1 H1 q1' hs
        obtain ⟨g1, g2⟩ := runS_ok hps h ha
        generalize hb : bendS sy o T1 q1' = z at g1 g2
        obtain ⟨T2, q2⟩ := z
        obtain ⟨rfl, h3⟩ := bendS_ok hb g2
        obtain ⟨h4, h5⟩ := kindS_ok hps hk (stepSE_mono hs h3)
        refine ⟨?_, h5⟩
        simp only [runA]
        rw [stepA_kind, h4]
        simp only [stepSE_ok hs h4 h3]
        exact g1
def runKS (P : Program) (ps : PS) (cs : CS) (sy : List Nat) (nt : Nat) (ops : Array Oper) (fr : Nat) (tab : List Nat) : List Oper → Nat → TL → HL → OS → Option (TL × HL × List Nat × OS)
  | [], _, T, H, q => some (T, H, [], q)
  | o :: l, k, T, H, q => match kindS P ps cs sy ops o T q with
    | none => none
    | some (e, q1) => match cond (seesO fr (tab.getD k 0) e) (stepSE P sy nt (fr + 8 * k) o e T H q1) none with
      | none => none
      | some (T1, H1, q1') => match bendS sy o T1 q1' with
        | (T2, q2) => match runKS P ps cs sy nt ops fr tab l (k + 1) T2 H1 q2 with
          | none => none
          | some (T'', H'', cl, q3) => some (T'', H'', clsO e :: cl, q3)
theorem runKS_ok {P : Program} {ps : PS} {cs : CS} (hps : PSOk ps cs) {sy : List Nat} {nt : Nat} {ops : Array Oper} {fr : Nat} {tab : List Nat} : ∀ {l : List Oper} {k : Nat} {T T' : TL} {H H' : HL} {cl : List Nat} {q q' : OS}, runKS P ps cs sy nt ops fr tab l k T H q = some (T', H', cl, q') → allT q'.ob = true → runK P cs nt ops fr tab l k T H = some (T', H', cl) ∧ allT q.ob = true
  | [], k, T, T', H, H', cl, q, q', h, ha => by
    simp only [runKS, Option.some.injEq, Prod.mk.injEq] at h
    obtain ⟨rfl, rfl, rfl, rfl⟩ := h
    exact ⟨rfl, ha⟩
  | o :: l, k, T, T', H, H', cl, q, q', h, ha => by
    simp only [runKS] at h
    split at h
    · cases h
    · rename_i e q1 hk
      split at h
      · cases h
      · rename_i T1 H1 q1' hs
        generalize hb : bendS sy o T1 q1' = z at h
        obtain ⟨T2, q2⟩ := z
        simp only at h
        split at h
        · cases h
        · rename_i T'' H'' cl' q3 hr
          simp only [Option.some.injEq, Prod.mk.injEq] at h
          obtain ⟨rfl, rfl, rfl, rfl⟩ := h
          obtain ⟨g1, g2⟩ := runKS_ok hps hr ha
          obtain ⟨rfl, h3⟩ := bendS_ok hb g2
          cases hse : seesO fr (tab.getD k 0) e with
          | false => rw [hse] at hs; cases hs
          | true =>
            rw [hse, cond_true] at hs
            obtain ⟨h4, h5⟩ := kindS_ok hps hk (stepSE_mono hs h3)
            refine ⟨?_, h5⟩
            simp only [runK, h4, hse, cond_true, stepSE_ok hs h4 h3, g1]
def regS (P : Program) (ps : PS) (cs : CS) (sy : List Nat) (nt : Nat) (ops : Array Oper) (draw : Bool) (fr : Nat) (T : TL) (H : HL) (q : OS) : Option (TL × HL × OS) :=
  match draw with
  | false => runS P ps cs sy nt ops ops.toList fr T H q
  | true => match runKS P ps cs sy nt ops fr (befs ops.toList []) ops.toList 0 T H q with
    | none => none
    | some (T', H', cl, q') => cond (pairsOk ops (befs ops.toList []) cl ops.toList 0) (some (T', H', q')) none
theorem regS_ok {P : Program} {ps : PS} {cs : CS} (hps : PSOk ps cs) {sy : List Nat} {nt : Nat} {ops : Array Oper} {draw : Bool} {fr : Nat} {T T' : TL} {H H' : HL} {q q' : OS} (h : regS P ps cs sy nt ops draw fr T H q = some (T', H', q')) (ha : allT q'.ob = true) : regA P cs nt ops draw fr T H = some (T', H') ∧ allT q.ob = true := by
  unfold regS at h
  split at h
  · exact runS_ok hps h ha
  · split at h
    · cases h
    · rename_i T2 H2 cl q2 hr
      cases hp : pairsOk ops (befs ops.toList []) cl ops.toList 0 <;> rw [hp] at h <;> simp only [cond_true, cond_false] at h
      · cases h
      · simp only [Option.some.injEq, Prod.mk.injEq] at h
        obtain ⟨rfl, rfl, rfl⟩ := h
        obtain ⟨g1, g2⟩ := runKS_ok hps hr ha
        exact ⟨by simp only [regA, g1, hp, cond_true], g2⟩
def iterO (f : SA → OS → Option (XA × SA × OS)) (hd : SA → SA) : Nat → SA → OS → Option (XA × SA × OS)
  | 0, _, _ => none
  | n + 1, s, q => match f s q with
    | some (.normal, s', q') => iterO f hd n (hd s') q'
    | r => r
theorem iterO_ok {f : SA → OS → Option (XA × SA × OS)} {g : SA → Option (XA × SA)} {hd : SA → SA} (hf : ∀ s q x s' q', f s q = some (x, s', q') → allT q'.ob = true → g s = some (x, s') ∧ allT q.ob = true) : ∀ (n : Nat) (s : SA) (q : OS) (x : XA) (s' : SA) (q' : OS), iterO f hd n s q = some (x, s', q') → allT q'.ob = true → iterA g hd n s = some (x, s') ∧ allT q.ob = true
  | 0, s, q, x, s', q', h, ha => by cases h
  | n + 1, s, q, x, s', q', h, ha => by
    simp only [iterO] at h
    cases hs : f s q with
    | none => rw [hs] at h; cases h
    | some p =>
      obtain ⟨y, s1, q1⟩ := p
      rw [hs] at h
      cases y with
      | normal =>
        simp only at h
        obtain ⟨g1, g2⟩ := iterO_ok hf n _ _ x s' q' h ha
        obtain ⟨g3, g4⟩ := hf s q _ _ _ hs g2
        exact ⟨by simp only [iterA, g3]; exact g1, g4⟩
      | exit id =>
        simp only [Option.some.injEq, Prod.mk.injEq] at h
        obtain ⟨rfl, rfl, rfl⟩ := h
        obtain ⟨g3, g4⟩ := hf s q _ _ _ hs ha
        exact ⟨by simp only [iterA, g3], g4⟩
      | ret =>
        simp only [Option.some.injEq, Prod.mk.injEq] at h
        obtain ⟨rfl, rfl, rfl⟩ := h
        obtain ⟨g3, g4⟩ := hf s q _ _ _ hs ha
        exact ⟨by simp only [iterA, g3], g4⟩
def evT (P : Program) (ps : PS) (cs : CS) (sy : List Nat) (nt nn F bs : Nat) : Code → SA → OS → Option (XA × SA × OS)
  | .skip, s, q => some (.normal, s, q)
  | .label _, s, q => some (.normal, s, q)
  | .region _ ops d, s, q => match regS P ps cs sy nt ops d s.fr s.T s.H q with
    | some (T', H', q') => some (.normal, ⟨prune nn T', H', s.fr + 8 * ops.size⟩, q')
    | none => none
  | .seq a b, s, q => match evT P ps cs sy nt nn F bs a s q with
    | some (.normal, s', q') => evT P ps cs sy nt nn F bs b s' q'
    | r => r
  | .cond c a b, s, q => match opd P (aget s.T) c with
    | some (.bool t) => cond t (evT P ps cs sy nt nn F bs a s q) (evT P ps cs sy nt nn F bs b s q)
    | _ => none
  | .block id b, s, q => match evT P ps cs sy nt nn F bs b s q with
    | some (.exit id', s', q') => cond (Nat.beq id' id) (some (.normal, s', q')) (some (.exit id', s', q'))
    | r => r
  | .loop b, s, q => iterO (evT P ps cs sy nt nn F bs b) (headA P bs s) F s q
  | .exit id, s, q => some (.exit id, s, q)
  | .ret, s, q => some (.ret, s, q)
  | _, _, _ => none
theorem evT_ok {P : Program} {ps : PS} {cs : CS} (hps : PSOk ps cs) {sy : List Nat} {nt nn F bs : Nat} : ∀ (c : Code) (s : SA) (q : OS) (x : XA) (s' : SA) (q' : OS), evT P ps cs sy nt nn F bs c s q = some (x, s', q') → allT q'.ob = true → evC P cs nt nn F bs c s = some (x, s') ∧ allT q.ob = true
  | .skip, s, q, x, s', q', h, ha => by
    simp only [evT, Option.some.injEq, Prod.mk.injEq] at h
    obtain ⟨rfl, rfl, rfl⟩ := h
    exact ⟨rfl, ha⟩
  | .label l, s, q, x, s', q', h, ha => by
    simp only [evT, Option.some.injEq, Prod.mk.injEq] at h
    obtain ⟨rfl, rfl, rfl⟩ := h
    exact ⟨rfl, ha⟩
  | .region id ops d, s, q, x, s', q', h, ha => by
    simp only [evT] at h
    split at h
    · rename_i T' H' q1 hreg
      simp only [Option.some.injEq, Prod.mk.injEq] at h
      obtain ⟨rfl, rfl, rfl⟩ := h
      obtain ⟨g1, g2⟩ := regS_ok hps hreg ha
      exact ⟨by simp only [evC, g1], g2⟩
    · cases h
  | .seq a b, s, q, x, s', q', h, ha => by
    simp only [evT] at h
    cases hs : evT P ps cs sy nt nn F bs a s q with
    | none => rw [hs] at h; cases h
    | some p =>
      obtain ⟨y, s1, q1⟩ := p
      rw [hs] at h
      cases y with
      | normal =>
        simp only at h
        obtain ⟨g1, g2⟩ := evT_ok hps b s1 q1 x s' q' h ha
        obtain ⟨g3, g4⟩ := evT_ok hps a s q _ _ _ hs g2
        exact ⟨by simp only [evC, g3]; exact g1, g4⟩
      | exit id =>
        simp only [Option.some.injEq, Prod.mk.injEq] at h
        obtain ⟨rfl, rfl, rfl⟩ := h
        obtain ⟨g3, g4⟩ := evT_ok hps a s q _ _ _ hs ha
        exact ⟨by simp only [evC, g3], g4⟩
      | ret =>
        simp only [Option.some.injEq, Prod.mk.injEq] at h
        obtain ⟨rfl, rfl, rfl⟩ := h
        obtain ⟨g3, g4⟩ := evT_ok hps a s q _ _ _ hs ha
        exact ⟨by simp only [evC, g3], g4⟩
  | .cond c a b, s, q, x, s', q', h, ha => by
    simp only [evT] at h
    split at h
    · rename_i t ht
      cases t with
      | true =>
        obtain ⟨g1, g2⟩ := evT_ok hps a s q x s' q' h ha
        exact ⟨by simp only [evC, ht, cond_true]; exact g1, g2⟩
      | false =>
        obtain ⟨g1, g2⟩ := evT_ok hps b s q x s' q' h ha
        exact ⟨by simp only [evC, ht, cond_false]; exact g1, g2⟩
    · cases h
  | .block id b, s, q, x, s', q', h, ha => by
    simp only [evT] at h
    cases hs : evT P ps cs sy nt nn F bs b s q with
    | none => rw [hs] at h; cases h
    | some p =>
      obtain ⟨y, s1, q1⟩ := p
      rw [hs] at h
      cases y with
      | normal =>
        simp only [Option.some.injEq, Prod.mk.injEq] at h
        obtain ⟨rfl, rfl, rfl⟩ := h
        obtain ⟨g3, g4⟩ := evT_ok hps b s q _ _ _ hs ha
        exact ⟨by simp only [evC, g3], g4⟩
      | ret =>
        simp only [Option.some.injEq, Prod.mk.injEq] at h
        obtain ⟨rfl, rfl, rfl⟩ := h
        obtain ⟨g3, g4⟩ := evT_ok hps b s q _ _ _ hs ha
        exact ⟨by simp only [evC, g3], g4⟩
      | exit id' =>
        simp only at h
        cases hb : Nat.beq id' id <;> rw [hb] at h <;> simp only [cond_true, cond_false, Option.some.injEq, Prod.mk.injEq] at h
        · obtain ⟨rfl, rfl, rfl⟩ := h
          obtain ⟨g3, g4⟩ := evT_ok hps b s q _ _ _ hs ha
          exact ⟨by simp only [evC, g3, hb, cond_false], g4⟩
        · obtain ⟨rfl, rfl, rfl⟩ := h
          obtain ⟨g3, g4⟩ := evT_ok hps b s q _ _ _ hs ha
          exact ⟨by simp only [evC, g3, hb, cond_true], g4⟩
  | .loop b, s, q, x, s', q', h, ha => by
    simp only [evT] at h
    have := iterO_ok (fun s q x s' q' hs ha => evT_ok hps b s q x s' q' hs ha) F s q x s' q' h ha
    exact ⟨by simp only [evC]; exact this.1, this.2⟩
  | .exit id, s, q, x, s', q', h, ha => by
    simp only [evT, Option.some.injEq, Prod.mk.injEq] at h
    obtain ⟨rfl, rfl, rfl⟩ := h
    exact ⟨rfl, ha⟩
  | .ret, s, q, x, s', q', h, ha => by
    simp only [evT, Option.some.injEq, Prod.mk.injEq] at h
    obtain ⟨rfl, rfl, rfl⟩ := h
    exact ⟨rfl, ha⟩
  | .rangeFunc _ _ _ _, s, q, x, s', q', h, ha => by simp [evT] at h
  | .scope _, s, q, x, s', q', h, ha => by simp [evT] at h
  | .goto _, s, q, x, s', q', h, ha => by simp [evT] at h
  | .refuse _, s, q, x, s', q', h, ha => by simp [evT] at h

/-- A function, run with foretold tests; beside its answer, what that asks. -/
def run1O (P : Program) (ps : PS) (cs : CS) (sy : List Nat) (os : List Bool) (vs : List AVal) (nn F : Nat) (f : FuncId) (args : List AVal) (H : HL) (fr : Nat) : Option ((AVal × HL × Nat) × List Bool) :=
  match P.funcs[f]? with
  | none => none
  | some fn => match fn.body with
    | none => none
    | some c => cond (Nat.ble args.length fn.ntmps) (match evT P ps cs sy fn.ntmps nn F fr c ⟨startT args 0, H, fr⟩ ⟨os, vs, []⟩ with
      | none => none
      | some (.exit _, _, _) => none
      | some (_, s, q) => match resA P s.T s.H fn.results.toList with
        | none => none
        | some [v] => some ((v, s.H, s.fr), q.ob)
        | some vs => some ((.tup vs, s.H, s.fr), q.ob)) none
theorem run1O_ok {P : Program} {ps : PS} {cs : CS} (hps : PSOk ps cs) {sy : List Nat} {os : List Bool} {vs : List AVal} {nn F : Nat} {f : FuncId} {args : List AVal} {H : HL} {fr : Nat} {r : AVal × HL × Nat} {ob : List Bool} (h : run1O P ps cs sy os vs nn F f args H fr = some (r, ob)) (ha : allT ob = true) : run1 P cs nn F f args H fr = some r := by
  unfold run1O at h
  unfold run1
  split at h
  · cases h
  · rename_i fn hf
    split at h
    · cases h
    · rename_i c hb
      simp only [hf, hb]
      unfold runF
      cases hn : Nat.ble args.length fn.ntmps <;> rw [hn] at h <;> simp only [cond_true, cond_false] at h
      · cases h
      simp only [cond_true]
      split at h
      · cases h
      · cases h
      · rename_i x s q hne hev
        have hq : allT q.ob = true := by
          split at h
          · cases h
          · simp only [Option.some.injEq, Prod.mk.injEq] at h; rw [h.2]; exact ha
          · simp only [Option.some.injEq, Prod.mk.injEq] at h; rw [h.2]; exact ha
        rw [(evT_ok hps c _ _ _ _ _ hev hq).1]
        cases x with
        | exit id => exact absurd rfl (hne id)
        | normal =>
          simp only
          split at h
          · cases h
          · rename_i v hv
            simp only [Option.some.injEq, Prod.mk.injEq] at h
            rw [hv]; exact congrArg some h.1
          · rename_i vs hne2 hv
            simp only [Option.some.injEq, Prod.mk.injEq] at h
            rw [hv]
            match vs, hne2, h with
            | [], _, h => exact congrArg some h.1
            | [u], hne2, _ => exact absurd rfl (hne2 u)
            | _ :: _ :: _, _, h => exact congrArg some h.1
        | ret =>
          simp only
          split at h
          · cases h
          · rename_i v hv
            simp only [Option.some.injEq, Prod.mk.injEq] at h
            rw [hv]; exact congrArg some h.1
          · rename_i vs hne2 hv
            simp only [Option.some.injEq, Prod.mk.injEq] at h
            rw [hv]
            match vs, hne2, h with
            | [], _, h => exact congrArg some h.1
            | [u], hne2, _ => exact absurd rfl (hne2 u)
            | _ :: _ :: _, _, h => exact congrArg some h.1
/-- The answer alone. -/
def ansO (x : Option ((AVal × HL × Nat) × List Bool)) : Option (AVal × List Bool) :=
  match x with
  | some ((v, _, _), ob) => some (v, ob)
  | none => none
theorem ansO_run {P : Program} {ps : PS} {cs : CS} (hps : PSOk ps cs) {sy : List Nat} {os : List Bool} {vs : List AVal} {nn F : Nat} {f : FuncId} {args : List AVal} {H : HL} {fr : Nat} {v : AVal} {ob : List Bool} (h : ansO (run1O P ps cs sy os vs nn F f args H fr) = some (v, ob)) (ha : allT ob = true) : (run1 P cs nn F f args H fr).map (·.1) = some v := by
  unfold ansO at h
  split at h
  · rename_i v' H' fr' ob' hr
    simp only [Option.some.injEq, Prod.mk.injEq] at h
    obtain ⟨rfl, rfl⟩ := h
    rw [run1O_ok hps hr ha]; rfl
  · cases h
theorem callOk_O {P : Program} {ps : PS} {cs : CS} (hps : PSOk ps cs) (hcs : CSOk P cs) (hm : P.follows .mixedOrders = true) {sy : List Nat} {os : List Bool} {vs : List AVal} {nn F : Nat} {f : FuncId} {args : List AVal} {v : AVal} {ob : List Bool} (h : ansO (run1O P ps cs sy os vs nn F f args [] P.globals.size) = some (v, ob)) (ha : allT ob = true) (hl : allV args = true) (hv : ltV 0 v = true) : CallOk P f args (.pure v) :=
  callOk_val hcs hm (ansO_run hps h ha) hl hv
/-- A round of a loop with foretold tests, to the loop's head. -/
def roundO (P : Program) (ps : PS) (cs : CS) (sy : List Nat) (os : List Bool) (vs : List AVal) (nt nn F bs : Nat) (b : Code) (s0 s : SA) : Option (SA × List Bool) :=
  match evT P ps cs sy nt nn F bs b s ⟨os, vs, []⟩ with
  | some (.normal, s', q) => some (headA P bs s0 s', q.ob)
  | _ => none
theorem roundO_ok {P : Program} {ps : PS} {cs : CS} (hps : PSOk ps cs) {sy : List Nat} {os : List Bool} {vs : List AVal} {nt nn F bs : Nat} {b : Code} {s0 s s1 : SA} {ob : List Bool} (h : roundO P ps cs sy os vs nt nn F bs b s0 s = some (s1, ob)) (ha : allT ob = true) : roundA (evC P cs nt nn F bs b) (headA P bs s0) s = some s1 := by
  unfold roundO at h
  split at h
  · rename_i s' q hev
    simp only [Option.some.injEq, Prod.mk.injEq] at h
    obtain ⟨rfl, rfl⟩ := h
    simp only [roundA, (evT_ok hps b _ _ _ _ _ hev ha).1]
  · cases h
/-- Pieces of a sequence with foretold tests. -/
def evSO (P : Program) (ps : PS) (cs : CS) (sy : List Nat) (nt nn F bs : Nat) : List Code → SA → OS → Option (XA × SA × OS)
  | [], s, q => some (.normal, s, q)
  | c :: l, s, q => match evT P ps cs sy nt nn F bs c s q with
    | some (.normal, s', q') => evSO P ps cs sy nt nn F bs l s' q'
    | r => r
theorem evSO_ok {P : Program} {ps : PS} {cs : CS} (hps : PSOk ps cs) {sy : List Nat} {nt nn F bs : Nat} : ∀ (l : List Code) (s : SA) (q : OS) (x : XA) (s' : SA) (q' : OS), evSO P ps cs sy nt nn F bs l s q = some (x, s', q') → allT q'.ob = true → evS P cs nt nn F bs l s = some (x, s') ∧ allT q.ob = true
  | [], s, q, x, s', q', h, ha => by
    simp only [evSO, Option.some.injEq, Prod.mk.injEq] at h
    obtain ⟨rfl, rfl, rfl⟩ := h
    exact ⟨rfl, ha⟩
  | c :: l, s, q, x, s', q', h, ha => by
    simp only [evSO] at h
    cases hs : evT P ps cs sy nt nn F bs c s q with
    | none => rw [hs] at h; cases h
    | some p =>
      obtain ⟨y, s1, q1⟩ := p
      rw [hs] at h
      cases y with
      | normal =>
        simp only at h
        obtain ⟨g1, g2⟩ := evSO_ok hps l s1 q1 x s' q' h ha
        obtain ⟨g3, g4⟩ := evT_ok hps c s q _ _ _ hs g2
        exact ⟨by simp only [evS, g3]; exact g1, g4⟩
      | exit id =>
        simp only [Option.some.injEq, Prod.mk.injEq] at h
        obtain ⟨rfl, rfl, rfl⟩ := h
        obtain ⟨g3, g4⟩ := evT_ok hps c s q _ _ _ hs ha
        exact ⟨by simp only [evS, g3], g4⟩
      | ret =>
        simp only [Option.some.injEq, Prod.mk.injEq] at h
        obtain ⟨rfl, rfl, rfl⟩ := h
        obtain ⟨g3, g4⟩ := evT_ok hps c s q _ _ _ hs ha
        exact ⟨by simp only [evS, g3], g4⟩
end Go.Eng
