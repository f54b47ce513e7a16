/- Engine, part 6: the operations that read, make and write memory. -/
import Derived.Test.YtkgbpnihbamceaaEng5
namespace Go.Eng
set_option linter.unusedVariables false
set_option linter.unusedSimpArgs false
open Go

/-! ### worlds that part in the heap alone -/
/-- 'w'' is 'w' with another heap, and perhaps more draws. -/
structure HeapTo (w w' : World) : Prop where
  os : w'.os = w.os
  output : w'.output = w.output
  tape : w'.tape = w.tape

theorem HRel.alloc' {σ : Sig} {H : Heap} {w w' : World} (h : HRel σ H w) {n : Nat} (hn : σ n = none) {o : AObj} {ob : Obj} {sz : Nat} (hw : w'.heap = w.heap.push ob)
    (ho : ORel (σ.set n ⟨w.heap.size, 0, sz⟩) w' ⟨w.heap.size, 0, sz⟩ o) : HRel (σ.set n ⟨w.heap.size, 0, sz⟩) (upd H n o) w' := by
  have h1 : HRel (σ.set n ⟨w.heap.size, 0, sz⟩) (upd H n o) (w.alloc ob) := h.alloc hn (ho.mono (Sig.le_refl _) (by rw [hw]; rfl))
  exact h1.drew hw
theorem Frm.heap {σ σ' : Sig} {H H' : Heap} {w w' w'' : World} (h : Frm σ H w σ' H' w') (e : w''.heap = w'.heap) (h2 : HeapTo w w'') : Frm σ H w σ' H' w'' :=
  ⟨h.ext, by rw [e]; exact h.size, h2.os, h2.output, h2.tape, fun b hb hn => by rw [e]; exact h.old b hb hn⟩
theorem Frm.alloc' {σ : Sig} {H : Heap} {w w' : World} (hr : HRel σ H w) {n : Nat} (hn : σ n = none) {o : AObj} {ob : Obj} {sz : Nat} (hw : w'.heap = w.heap.push ob) (h2 : HeapTo w w') :
    Frm σ H w (σ.set n ⟨w.heap.size, 0, sz⟩) (upd H n o) w' :=
  (Frm.alloc (o := o) (ob := ob) (sz := sz) hn fun m o' hm => (hr.obj m o' hm).imp fun _ h => h.1).heap hw h2

/-! ### rows of cells -/
theorem cell_at {w : World} {b : Nat} {c : Array Value} {t : TypeId} {fz : Nat × Nat} (h : w.heap[b]? = some (.cells c t fz)) (i : Nat) : w.cell? ⟨b, i, none⟩ = c[i]? := by
  simp [World.cell?, h]

/-- Loading a row. -/
theorem loadRow {P : Program} {σ : Sig} {w : World} {p : Place} {ro : Bool} {c : List AVal} (ho : ORel σ w p (.cells ro c)) {off n : Nat} (hb : off + n ≤ c.length) :
    ∃ vs', (loadCells ⟨p.blk, p.sh + off, none⟩ n).run P w = .ok vs' w ∧ LR σ ((c.drop off).take n) vs' := by
  obtain ⟨c', t, fz, h1, h2, h3, _⟩ := ho
  have hc : ∀ j, j < n → ∃ v', c'[p.sh + off + j]? = some v' := fun j hj => by
    obtain ⟨v', a, _⟩ := h3 (off + j) c[off + j] (List.getElem?_eq_getElem (by omega))
    exact ⟨v', by rw [← a]; congr 1; omega⟩
  have hload := run_loadCells (P := P) (w := w) ⟨p.blk, p.sh + off, none⟩ n (fun j => (c'[p.sh + off + j]?).getD undef) (fun j hj => by
    rw [add_mk, cell_at h1]
    obtain ⟨v', hv⟩ := hc j hj
    rw [hv]; rfl)
  refine ⟨_, hload, ?_⟩
  refine ⟨by simp; omega, fun i v v' g1 g2 => ?_⟩
  rw [List.getElem?_take] at g1
  split at g1
  · rename_i hi
    rw [List.getElem?_drop] at g1
    obtain ⟨u', a, b⟩ := h3 (off + i) v g1
    simp only [List.getElem?_toArray, List.getElem?_map] at g2
    have e : c'[p.sh + off + i]? = some u' := by rw [← a]; congr 1; omega
    simp [hi, e] at g2
    first
      | (subst g2; exact b)
      | (obtain ⟨_, g2⟩ := g2; subst g2; exact b)
  · cases g1

def setRow (cur : Array Value) (o : Nat) (vs : List Value) : Array Value := (vs.zipIdx).foldl (fun cs (c, j) => cs.setIfInBounds (o + j) c) cur
theorem storeRow {P : Program} (b o : Nat) (t : TypeId) (fz : Nat × Nat) : ∀ (vs : List Value) (i : Nat) (cur : Array Value) (w : World), w.heap[b]? = some (.cells cur t fz) → (∀ v ∈ vs, v.oneCell' = true) → o + i + vs.length ≤ cur.size → (cur.size ≤ fz.1 ∨ fz.2 ≤ fz.1) →
    ∃ w', (storeCells ⟨b, o, none⟩ vs i).run P w = .ok () w' ∧ w'.heap[b]? = some (.cells ((vs.zipIdx i).foldl (fun cs (c, j) => cs.setIfInBounds (o + j) c) cur) t fz) ∧
      (∀ k, k ≠ b → w'.heap[k]? = w.heap[k]?) ∧ w'.heap.size = w.heap.size ∧ HeapTo w w' := by
  intro vs
  induction vs with
  | nil => intro i cur w h _ _ _; exact ⟨w, rfl, by simpa using h, fun _ _ => rfl, rfl, ⟨rfl, rfl, rfl⟩⟩
  | cons v vs ih =>
    intro i cur w h h1 hs hf
    simp only [List.length_cons] at hs
    have hlt : o + i < cur.size := by omega
    have hcell : w.cell? ⟨b, o + i, none⟩ = some cur[o + i] := by rw [cell_at h]; simp [hlt]
    have hfr : w.frozen? ⟨b, o + i, none⟩ = false := by
      simp only [World.frozen?, h, Bool.and_eq_false_iff, decide_eq_false_iff_not]
      omega
    have hst : (store (⟨b, o + i, none⟩ : Addr) v).run P w = .ok () (w.setCell ⟨b, o + i, none⟩ v) := by
      rw [run_store P w _ v .plain (h1 v (by simp))]
      simp [hcell, hfr]
    have hw1 : (w.setCell ⟨b, o + i, none⟩ v).heap[b]? = some (.cells (cur.setIfInBounds (o + i) v) t fz) := by
      simp [World.setCell, Array.getElem?_modify, h]
    obtain ⟨w', a1, a2, a3, a4, a5⟩ := ih (i + 1) (cur.setIfInBounds (o + i) v) (w.setCell ⟨b, o + i, none⟩ v) hw1 (fun u hu => h1 u (by simp [hu])) (by simp; omega) (by simpa using hf)
    refine ⟨w', ?_, ?_, fun k hk => ?_, by rw [a4]; simp, ⟨a5.os, a5.output, a5.tape⟩⟩
    · simp only [storeCells, add_mk, Sem.run_bind, hst, Result.andThen_ok]
      exact a1
    · rw [a2]; simp [List.zipIdx_cons]
    · rw [a3 k hk]
      simp only [World.setCell, Array.getElem?_modify]
      rw [if_neg (by omega)]

def oneA : AVal → Bool
  | .agg _ => false
  | .tup _ => false
  | _ => true
theorem oneA_ok {σ : Sig} {v : AVal} {v' : Value} (h : VR σ v v') (ho : oneA v = true) : v'.oneCell' = true := by
  cases h <;> first | rfl | cases ho

/-! ### what an operation does -/
/-- The kinds of what an operation does: a value alone; a value that hangs on one block; a new block; whatever else. -/
inductive EffA where
  | pure (v : AVal)
  | read (n : Nat) (f : AObj → Option AVal)
  | alloc (o : AObj) (v : Nat → AVal)
  | eff (f : Nat → (Nat → Option AObj) → Option (AVal × List (Nat × Option AObj)))

/-- A heap with changes. -/
def appU (H : List (Nat × AObj)) : List (Nat × Option AObj) → List (Nat × AObj)
  | [] => H
  | (n, some o) :: us => appU (aset H n o) us
  | (n, none) :: us => appU (adel H n) us

/-- ('undef': what an operation that hands back nothing leaves in its slot.) -/
def EffA.app (e : EffA) (base : Nat) (H : List (Nat × AObj)) : Option (AVal × List (Nat × AObj)) :=
  match e with
  | .pure v => some (v, H)
  | .read n f => match aget H n with
    | some ob => match f ob with
      | some v => some (v, H)
      | none => none
    | none => none
  | .alloc ob v => some (v base, aset H base ob)
  | .eff f => match f base (aget H) with
    | some (v, us) => some (v, appU H us)
    | none => none

/-- The names from 'base' on are free. -/
def Free (σ : Sig) (base : Nat) : Prop := ∀ j, j < 8 → σ (base + j) = none
/-- What a step may do to the names: give places to those from 'base' on. -/
def Only (σ σ' : Sig) (base : Nat) : Prop := ∀ n, n < base ∨ base + 8 ≤ n → σ' n = σ n

/-- An effect, carried out in a world: 'K' of whatever may come of it. -/
def Brings (σ : Sig) (H : List (Nat × AObj)) (w : World) (base : Nat) (v : AVal) (H' : List (Nat × AObj)) (K : Value → World → Prop) : Prop :=
  ∀ σ' v' w', VR σ' v v' → HRel σ' (aget H') w' → Frm σ (aget H) w σ' (aget H') w' → Only σ σ' base → K v' w'

theorem Only.refl (σ : Sig) (base : Nat) : Only σ σ base := fun _ _ => rfl

/-! ### load, store -/
def loadA (P : Program) (t : TypeId) (x : AVal) : Option EffA :=
  match x with
  | .ptr n off => match isAggA P t with
    | some true => match szA P t with
      | some sz => some (.read n fun ob => match ob with
        | .cells _ c => cond (Nat.ble (off + sz) c.length) (some (.agg ((c.drop off).take sz))) none)
      | none => none
    | some false => some (.read n fun ob => match ob with
      | .cells _ c => c[off]?)
    | none => none
  | _ => none
theorem loadA_ok {P : Program} {t : TypeId} {x : AVal} {e : EffA} (h : loadA P t x = some e) {σ : Sig} {x' : Value} (hx : VR σ x x') {H H' : List (Nat × AObj)} {w : World} {base : Nat} {v : AVal}
    (ha : e.app base H = some (v, H')) (hr : HRel σ (aget H) w) : H' = H ∧ ∃ v', (Instr.loadAt t x').run P w = .ok v' w ∧ VR σ v v' := by
  unfold loadA at h
  split at h
  · rename_i n off
    split at h
    · rename_i hagg
      split at h
      · rename_i sz hz
        cases h
        simp only [EffA.app] at ha
        cases hb : aget H n with
        | none => rw [hb] at ha; cases ha
        | some ob =>
          rw [hb] at ha
          cases ob with
          | cells ro c =>
            simp only at ha
            cases hbl : Nat.ble (off + sz) c.length <;> rw [hbl] at ha <;> simp only [cond_true, cond_false, Option.some.injEq, Prod.mk.injEq] at ha
            · cases ha
            · obtain ⟨rfl, rfl⟩ := ha
              refine ⟨rfl, ?_⟩
              cases hx with
              | @ptr _ _ p hp =>
                obtain ⟨q, hq, ho⟩ := hr.obj n _ hb
                rw [hp] at hq; cases hq
                obtain ⟨vs', h1, h2⟩ := loadRow (P := P) ho (off := off) (n := sz) (Nat.le_of_ble_eq_true hbl)
                refine ⟨.agg vs', ?_, .agg h2.1 h2.2⟩
                simp only [Instr.loadAt, Instr.sureAddr, loadVar, Sem.run_bind, Sem.run_pure, Result.andThen_ok, run_isAggA hagg, if_true, run_szA hz, h1]
      · cases h
    · rename_i hagg
      cases h
      simp only [EffA.app] at ha
      cases hb : aget H n with
      | none => rw [hb] at ha; cases ha
      | some ob =>
        rw [hb] at ha
        cases ob with
        | cells ro c =>
          simp only at ha
          cases hc : c[off]? with
          | none => rw [hc] at ha; cases ha
          | some u =>
            rw [hc] at ha
            simp only [Option.some.injEq, Prod.mk.injEq] at ha
            obtain ⟨rfl, rfl⟩ := ha
            refine ⟨rfl, ?_⟩
            cases hx with
            | @ptr _ _ p hp =>
              obtain ⟨q, hq, c', t', fz, h1, h2, h3, h4⟩ := hr.obj n _ hb
              rw [hp] at hq; cases hq
              obtain ⟨v', g1, g2⟩ := h3 off u hc
              refine ⟨v', ?_, g2⟩
              simp only [Instr.loadAt, Instr.sureAddr, loadVar, Sem.run_bind, Sem.run_pure, Result.andThen_ok, run_isAggA hagg, Bool.false_eq_true, if_false, run_load, cell_at h1, g1]
    · cases h
  · cases h

/-- A block's cells, written over from a place on. -/
def writeA (n off : Nat) (vs : List AVal) : EffA :=
  .eff fun _ H => match H n with
    | some (.cells false c) => cond (Nat.ble (off + vs.length) c.length) (some (.tup [], [(n, some (.cells false (putA c off vs)))])) none
    | _ => none
def storeA (P : Program) (t : TypeId) (x v : AVal) : Option EffA :=
  match x with
  | .ptr n off => match szA P t with
    | some sz => cond (Nat.beq (cellsA v).length sz && (cellsA v).all oneA) (some (writeA n off (cellsA v))) none
    | none => none
  | _ => none
theorem writeRow {P : Program} {σ : Sig} {H : List (Nat × AObj)} {w : World} {n off : Nat} {p : Place} {c vs : List AVal} {vs' : Array Value} (hr : HRel σ (aget H) w) (hb : aget H n = some (.cells false c)) (hp : σ n = some p)
    (hv : LR σ vs vs') (h1 : vs.all oneA = true) (hl : off + vs.length ≤ c.length) :
    ∃ w', (storeCells ⟨p.blk, p.sh + off, none⟩ vs'.toList 0).run P w = .ok () w' ∧ HRel σ (aget (aset H n (.cells false (putA c off vs)))) w' ∧ Frm σ (aget H) w σ (aget (aset H n (.cells false (putA c off vs)))) w' := by
  obtain ⟨q, hq, c', t', fz, e1, e2, e3, e4⟩ := hr.obj n _ hb
  rw [hp] at hq; cases hq
  have hsz : p.sh + c.length ≤ c'.size ∨ c.length = 0 := by
    by_cases h0 : c.length = 0
    · exact .inr h0
    · obtain ⟨v', a, _⟩ := e3 (c.length - 1) c[c.length - 1] (List.getElem?_eq_getElem (by omega))
      have := (Array.getElem?_eq_some_iff.1 a).1
      exact .inl (by omega)
  by_cases hvs : vs.length = 0
  · have hv0 : vs = [] := List.eq_nil_of_length_eq_zero hvs
    subst hv0
    have hv1 : vs'.toList = [] := by have := hv.1; exact List.eq_nil_of_length_eq_zero (by simpa using this.symm)
    refine ⟨w, by rw [hv1]; rfl, ?_, ?_⟩
    · have : aget (aset H n (.cells false (putA c off []))) = aget H := by
        funext m
        rw [aget_aset]
        split
        · rename_i e; subst e; rw [hb]; simp [putA]
        · rfl
      rw [this]; exact hr
    · have : aget (aset H n (.cells false (putA c off []))) = aget H := by
        funext m
        rw [aget_aset]
        split
        · rename_i e; subst e; rw [hb]; simp [putA]
        · rfl
      rw [this]; exact Frm.refl _ _ _
  · have hsz' : p.sh + c.length ≤ c'.size := by rcases hsz with h | h <;> omega
    have hlen : vs'.toList.length = vs.length := by simp [hv.1]
    obtain ⟨w', a1, a2, a3, a4, a5⟩ := storeRow (P := P) p.blk (p.sh + off) t' fz vs'.toList 0 c' w e1 (fun v hv' => by
      obtain ⟨i, hi, rfl⟩ := List.mem_iff_getElem.1 hv'
      have hi' : i < vs.length := by omega
      have h2 : vs[i]? = some vs[i] := List.getElem?_eq_getElem hi'
      have h3 : vs'[i]? = some vs'.toList[i] := by simp at hi; simp [hi]
      exact oneA_ok (hv.2 i _ _ h2 h3) (List.all_eq_true.1 h1 _ (List.getElem_mem hi'))) (by omega) (by rw [e2]; exact e4 rfl)
    have hput : ORel σ w' p (.cells false (putA c off vs)) := by
      obtain ⟨k1, k2⟩ := foldset (p.sh + off) vs'.toList 0 c'
      refine ⟨_, t', fz, a2, by rw [k2]; exact e2, fun i v hi => ?_, e4⟩
      rw [k1]
      unfold putA at hi
      by_cases h2 : i < off
      · rw [if_neg (by omega)]
        rw [List.append_assoc, List.getElem?_append_left (by simp; omega), List.getElem?_take, if_pos h2] at hi
        exact e3 i v hi
      · by_cases h3 : i < off + vs.length
        · rw [if_pos (by omega)]
          rw [List.append_assoc, List.getElem?_append_right (by simp; omega)] at hi
          have : (List.take off c).length = off := by simp; omega
          rw [this, List.getElem?_append_left (by omega)] at hi
          obtain ⟨v', g1, g2⟩ := hv.get hi
          refine ⟨v', ?_, g2⟩
          have e : p.sh + i - (p.sh + off + 0) = i - off := by omega
          rw [e]; simpa using g1
        · rw [if_neg (by omega)]
          rw [List.getElem?_append_right (by simp; omega)] at hi
          have : (List.take off c ++ vs).length = off + vs.length := by simp; omega
          rw [this, List.getElem?_drop] at hi
          have e : off + vs.length + (i - (off + vs.length)) = i := by omega
          rw [e] at hi
          exact e3 i v hi
    rw [aget_aset_fun]
    exact ⟨w', a1, hr.write hb rfl hp hput (fun b hb' => a3 b hb'), Frm.write hb rfl hp (fun b hb' => a3 b hb') a4 a5.os a5.output a5.tape⟩
theorem storeA_ok {P : Program} {t : TypeId} {x u : AVal} {e : EffA} (h : storeA P t x u = some e) {σ : Sig} {x' u' : Value} (hx : VR σ x x') (hu : VR σ u u') {H H' : List (Nat × AObj)} {w : World} {base : Nat} {v : AVal}
    (ha : e.app base H = some (v, H')) (hr : HRel σ (aget H) w) : v = .tup [] ∧ ∃ w', (Instr.storeAt t x' u').run P w = .ok () w' ∧ HRel σ (aget H') w' ∧ Frm σ (aget H) w σ (aget H') w' := by
  unfold storeA at h
  split at h
  · rename_i n off
    split at h
    · rename_i sz hz
      cases hb : (Nat.beq (cellsA u).length sz && (cellsA u).all oneA) <;> rw [hb] at h <;> simp only [cond_true, cond_false, Option.some.injEq] at h
      · cases h
      · subst h
        simp only [Bool.and_eq_true] at hb
        obtain ⟨hb1, hb2⟩ := hb
        have hb1 := Nat.eq_of_beq_eq_true hb1
        have ha' : ∃ c, aget H n = some (.cells false c) ∧ Nat.ble (off + (cellsA u).length) c.length = true ∧ v = .tup [] ∧ H' = aset H n (.cells false (putA c off (cellsA u))) := by
          simp only [EffA.app, writeA] at ha
          cases hb : aget H n with
          | none => rw [hb] at ha; cases ha
          | some ob =>
            rw [hb] at ha
            cases ob with
            | cells ro c =>
              cases ro
              · cases hbl : Nat.ble (off + (cellsA u).length) c.length <;> simp only [hbl, cond_true, cond_false] at ha
                · cases ha
                · simp only [Option.some.injEq, Prod.mk.injEq] at ha
                  exact ⟨c, rfl, hbl, ha.1.symm, ha.2.symm⟩
              · cases ha
        obtain ⟨c, hc, hbl, rfl, rfl⟩ := ha'
        cases hx with
            | @ptr _ _ p hp =>
              have hcu := cellsA_ok hu
              obtain ⟨w', a1, a2, a3⟩ := writeRow (P := P) hr hc hp hcu hb2 (Nat.le_of_ble_eq_true hbl)
              refine ⟨rfl, w', ?_, a2, a3⟩
              simp only [Instr.storeAt, Instr.sureAddr, storeVar, Sem.run_bind, Sem.run_pure, Result.andThen_ok, run_szA hz, Sem.run_ite]
              rw [if_neg (by have := hcu.1; omega)]
              exact a1
    · cases h
  · cases h

/-! ### new blocks -/
theorem newRow_ok {P : Program} {σ : Sig} {H : List (Nat × AObj)} {w : World} {base : Nat} (hr : HRel σ (aget H) w) (hf : Free σ base) {c : List AVal} {c' : Array Value} (hc : LR σ c c') (t : TypeId) :
    ∃ w' p, (newRow t c').run P w = .ok ⟨p.blk, 0, none⟩ w' ∧ p.sh = 0 ∧ p.sz = c'.size ∧ HRel (σ.set base p) (aget (aset H base (.cells false c))) w' ∧
      Frm σ (aget H) w (σ.set base p) (aget (aset H base (.cells false c))) w' ∧ Only σ (σ.set base p) base ∧ (σ.set base p) base = some p := by
  have hn : σ base = none := hf 0 (by omega)
  refine ⟨w.alloc (.cells c' t), ⟨w.heap.size, 0, c'.size⟩, rfl, rfl, rfl, ?_, ?_, fun n hn => Sig.set_other σ _ (by omega), Sig.set_same σ base _⟩
  · rw [aget_aset_fun]
    refine hr.alloc' hn rfl ?_
    refine ⟨c', t, (0, 0), by show (w.heap.push _)[w.heap.size]? = _; simp, rfl, fun i v hi => ?_, fun _ => .inr (by simp)⟩
    obtain ⟨v', h1, h2⟩ := hc.get hi
    exact ⟨v', by simpa using h1, h2.mono (Sig.le_set hn _)⟩
  · rw [aget_aset_fun]
    exact Frm.alloc' hr hn rfl ⟨rfl, rfl, rfl⟩

def boxA (v : AVal) : EffA := .alloc (.cells false (cellsA v)) fun n => .ptr n 0
def newA (P : Program) (t : TypeId) : Option EffA :=
  match zeroA P t with
  | some z => some (boxA z)
  | none => none
theorem boxA_ok {P : Program} {σ : Sig} {u : AVal} {u' : Value} (hu : VR σ u u') (t : TypeId) {H H' : List (Nat × AObj)} {w : World} {base : Nat} {v : AVal}
    (ha : (boxA u).app base H = some (v, H')) (hr : HRel σ (aget H) w) (hf : Free σ base) :
    ∃ σ' v' w', ((do pure (.pointer (some (← newVar t u'))) : Sem Value)).run P w = .ok v' w' ∧ VR σ' v v' ∧ HRel σ' (aget H') w' ∧ Frm σ (aget H) w σ' (aget H') w' ∧ Only σ σ' base := by
  simp only [boxA, EffA.app, Option.some.injEq, Prod.mk.injEq] at ha
  obtain ⟨rfl, rfl⟩ := ha
  obtain ⟨w', p, h1, h2, h3, h4, h5, h6, h7⟩ := newRow_ok (P := P) hr hf (cellsA_ok hu) t
  refine ⟨σ.set base p, .pointer (some ⟨p.blk, 0, none⟩), w', ?_, ?_, h4, h5, h6⟩
  · simp only [newVar, Sem.run_bind, h1, Result.andThen_ok, Sem.run_pure]
  · have := VR.ptr (off := 0) h7
    rw [h2] at this; exact this
theorem newA_ok {P : Program} {t : TypeId} {e : EffA} (h : newA P t = some e) {σ : Sig} {H H' : List (Nat × AObj)} {w : World} {base : Nat} {v : AVal}
    (ha : e.app base H = some (v, H')) (hr : HRel σ (aget H) w) (hf : Free σ base) :
    ∃ σ' v' w', (Instr.alloc t true (.tuple #[])).run P w = .ok v' w' ∧ VR σ' v v' ∧ HRel σ' (aget H') w' ∧ Frm σ (aget H) w σ' (aget H') w' ∧ Only σ σ' base := by
  unfold newA at h
  split at h
  · rename_i z hz
    cases h
    obtain ⟨z', hz1, hz2⟩ := zeroA_ok hz σ w
    obtain ⟨σ', v', w', h1, h2⟩ := boxA_ok (P := P) hz2 t ha hr hf
    refine ⟨σ', v', w', ?_, h2⟩
    unfold Instr.alloc
    simp only [Sem.run_bind, hz1, Result.andThen_ok]
    exact h1
  · cases h

/-- So many cells, the zero value's over and over. -/
def zrow (zc : List AVal) (n : Nat) : List AVal :=
  match zc with
  | [z] => List.replicate n z
  | _ => (List.range n).map fun i => zc.getD (i % zc.length) (.tup [])
theorem zrow_ok {σ : Sig} {zc : List AVal} {zc' : Array Value} (h : LR σ zc zc') {n : Nat} (hn : n = 0 ∨ 0 < zc.length) : LR σ (zrow zc n) ((Array.range n).map (zc'[· % zc'.size]!)) := by
  have gen : ∀ i, i < n → (zrow zc n)[i]? = zc[i % zc.length]? := fun i hi => by
    have h0 : 0 < zc.length := by omega
    have hm := Nat.mod_lt i h0
    unfold zrow
    split
    · rename_i z
      simp only [List.length_cons, List.length_nil, Nat.zero_add, Nat.mod_one]
      rw [List.getElem?_replicate, if_pos hi]; rfl
    · rw [List.getElem?_map, List.getElem?_range hi, Option.map_some, List.getD_eq_getElem?_getD, List.getElem?_eq_getElem hm]; rfl
  have len : (zrow zc n).length = n := by unfold zrow; split <;> simp
  refine ⟨by simp [len], fun i v v' h1 h2 => ?_⟩
  have hi : i < n := by have := (List.getElem?_eq_some_iff.1 h1).1; omega
  rw [gen i hi] at h1
  have h0 : 0 < zc.length := by omega
  have hm := Nat.mod_lt i h0
  have h0' : i % zc'.size < zc'.size := Nat.mod_lt i (by have := h.1; omega)
  refine h.2 (i % zc.length) v v' h1 ?_
  simp only [Array.getElem?_map, Array.getElem?_range, hi, if_true, Option.map_some, Option.some.injEq] at h2
  rw [← h2, h.1]
  simp [h0']
theorem zrow_length (zc : List AVal) (n : Nat) : (zrow zc n).length = n := by unfold zrow; split <;> simp
theorem putA_length {cs vs : List AVal} {off : Nat} (h : off + vs.length ≤ cs.length) : (putA cs off vs).length = cs.length := by simp [putA]; omega
theorem fillA_length {place : Nat → Option (Nat × Nat)} : ∀ {ps : List (Nat × AVal)} {cells r : List AVal}, fillA place cells ps = some r → r.length = cells.length := by
  intro ps
  induction ps with
  | nil => intro cells r h; simp only [fillA, Option.some.injEq] at h; rw [h]
  | cons x l ih =>
    intro cells r h
    obtain ⟨i, v⟩ := x
    simp only [fillA] at h
    split at h
    · cases h
    · rename_i off size hp
      cases hb : (Nat.beq (cellsA v).length size && Nat.ble (off + (cellsA v).length) cells.length) <;> rw [hb] at h <;> simp only [cond_true, cond_false] at h
      · cases h
      · simp only [Bool.and_eq_true] at hb
        rw [ih h, putA_length (Nat.le_of_ble_eq_true hb.2)]

def sliceRowA (c : List AVal) (len esz : Nat) : EffA := .alloc (.cells false c) fun n => .slice n 0 len esz
theorem sliceRowA_ok {P : Program} {σ : Sig} {c : List AVal} {c' : Array Value} (hc : LR σ c c') (t : TypeId) {len cap esz : Nat} (h1 : len ≤ cap) (h2 : cap * esz ≤ c'.size) {H H' : List (Nat × AObj)} {w : World} {base : Nat} {v : AVal}
    (ha : (sliceRowA c len esz).app base H = some (v, H')) (hr : HRel σ (aget H) w) (hf : Free σ base) :
    ∃ σ' v' w', ((do pure (.slice (some (← newRow t c')) len cap) : Sem Value)).run P w = .ok v' w' ∧ VR σ' v v' ∧ HRel σ' (aget H') w' ∧ Frm σ (aget H) w σ' (aget H') w' ∧ Only σ σ' base := by
  simp only [sliceRowA, EffA.app, Option.some.injEq, Prod.mk.injEq] at ha
  obtain ⟨rfl, rfl⟩ := ha
  obtain ⟨w', p, g1, g2, g3, g4, g5, g6, g7⟩ := newRow_ok (P := P) hr hf hc t
  refine ⟨σ.set base p, .slice (some ⟨p.blk, 0, none⟩) len cap, w', ?_, ?_, g4, g5, g6⟩
  · simp only [Sem.run_bind, g1, Result.andThen_ok, Sem.run_pure]
  · exact .slice g7 (.inr (by rw [g2])) h1 (by omega)

def buildSliceA (P : Program) (t : TypeId) (len : Nat) (ps : List (Nat × AVal)) : Option EffA :=
  match P.underlying t with
  | some (.slice e) => match szA P e, zeroA P e with
    | some sz, some z => cond (Nat.ble (len * sz) 16777216 && Nat.ble 1 (cellsA z).length) (match fillA (fun i => some (i * sz, sz)) (zrow (cellsA z) (len * sz)) ps with
      | some cs => some (sliceRowA cs len sz)
      | none => none) none
    | _, _ => none
  | _ => none
theorem buildSliceA_ok {P : Program} {t : TypeId} {len : Nat} {ps : List (Nat × AVal)} {e : EffA} (h : buildSliceA P t len ps = some e) {σ : Sig} {ps' : Array (Nat × Value)} (hp : PairsVR σ ps ps'.toList) {H H' : List (Nat × AObj)} {w : World} {base : Nat} {v : AVal}
    (ha : e.app base H = some (v, H')) (hr : HRel σ (aget H) w) (hf : Free σ base) :
    ∃ σ' v' w', (Instr.buildSlice t len ps').run P w = .ok v' w' ∧ VR σ' v v' ∧ HRel σ' (aget H') w' ∧ Frm σ (aget H) w σ' (aget H') w' ∧ Only σ σ' base := by
  unfold buildSliceA at h
  split at h
  · rename_i el hu
    split at h
    · rename_i sz z hz hzero
      cases hb : (Nat.ble (len * sz) 16777216 && Nat.ble 1 (cellsA z).length) <;> rw [hb] at h <;> simp only [cond_true, cond_false] at h
      · cases h
      · simp only [Bool.and_eq_true] at hb
        have hb1 := Nat.le_of_ble_eq_true hb.1
        have hb2 := Nat.le_of_ble_eq_true hb.2
        split at h
        · rename_i cs hfill
          cases h
          obtain ⟨z', hz1, hz2⟩ := zeroA_ok hzero σ w
          have hcz := cellsA_ok hz2
          have hm : ∀ (zz : Array Value), (len * sz = 0 ∨ zz = z'.cells) → LR σ (zrow (cellsA z) (len * sz)) ((Array.range (len * sz)).map (zz[· % zz.size]!)) := fun zz hzz => by
            rcases hzz with h0 | h0
            · have e1 := (zrow_length (cellsA z) (len * sz))
              rw [h0] at e1 ⊢
              have : zrow (cellsA z) 0 = [] := List.eq_nil_of_length_eq_zero e1
              rw [this]; exact ⟨by simp, fun i v v' g => by simp at g⟩
            · subst h0; exact zrow_ok hcz (.inr hb2)
          have fin : ∀ (zz : Array Value), (len * sz = 0 ∨ zz = z'.cells) → ∃ r', Instr.fill (fun i => some (i * sz, sz)) ((Array.range (len * sz)).map (zz[· % zz.size]!)) ps'.toList = some r' ∧
              ∃ σ' v' w', ((do pure (.slice (some (← newRow el r')) len len) : Sem Value)).run P w = .ok v' w' ∧ VR σ' v v' ∧ HRel σ' (aget H') w' ∧ Frm σ (aget H) w σ' (aget H') w' ∧ Only σ σ' base := fun zz hzz => by
            obtain ⟨r', h1, h2⟩ := fillA_ok hfill hp (hm zz hzz)
            have hlen : r'.size = len * sz := by rw [← h2.1, fillA_length hfill, zrow_length]
            exact ⟨r', h1, sliceRowA_ok (P := P) h2 el (Nat.le_refl len) (esz := sz) (by omega) ha hr hf⟩
          by_cases h0 : len * sz = 0
          · obtain ⟨r', h1, σ', v', w', g1, g2⟩ := fin #[] (.inl h0)
            refine ⟨σ', v', w', ?_, g2⟩
            unfold Instr.buildSlice
            simp only [Sem.run_bind, run_underlying hu, Result.andThen_ok, run_szA hz]
            rw [if_neg (by omega)]
            rw [h0] at h1
            simp only [Sem.run_bind, Sem.run_pure, Result.andThen_ok, h0, if_true, h1]
            simpa only [Sem.run_bind, Result.andThen_ok, Sem.run_pure] using g1
          · obtain ⟨r', h1, σ', v', w', g1, g2⟩ := fin z'.cells (.inr rfl)
            refine ⟨σ', v', w', ?_, g2⟩
            unfold Instr.buildSlice
            simp only [Sem.run_bind, run_underlying hu, Result.andThen_ok, run_szA hz]
            rw [if_neg (by omega)]
            simp only [Sem.run_bind, Sem.run_pure, Result.andThen_ok, h0, if_false, hz1, h1]
            simpa only [Sem.run_bind, Result.andThen_ok, Sem.run_pure] using g1
        · cases h
    · cases h
  · cases h

/-- 'make([]T, len, cap)' at numbers that are known. -/
def makeSliceA (P : Program) (t : TypeId) (len cap : AVal) : Option EffA :=
  match P.underlying t with
  | some (.slice e) => match P.info? e, zeroA P e, toI len, toI cap with
    | some i, some z, some l, some c =>
      cond (decide (0 ≤ l) && decide (l ≤ c) && decide ((i.bytes : Int) * c ≤ 281474976710656) && decide (c ≤ 281474976710656) && Nat.ble 1 (cellsA z).length)
        (some (sliceRowA (zrow (cellsA z) (c.toNat * i.size)) l.toNat i.size)) none
    | _, _, _, _ => none
  | _ => none
theorem makeSliceA_ok {P : Program} {t : TypeId} {len cap : AVal} {e : EffA} (h : makeSliceA P t len cap = some e) {σ : Sig} {len' cap' : Value} (hl : VR σ len len') (hc : VR σ cap cap') {H H' : List (Nat × AObj)} {w : World} {base : Nat} {v : AVal}
    (ha : e.app base H = some (v, H')) (hr : HRel σ (aget H) w) (hf : Free σ base) :
    ∃ σ' v' w', (Instr.makeSlice t len' cap').run P w = .ok v' w' ∧ VR σ' v v' ∧ HRel σ' (aget H') w' ∧ Frm σ (aget H) w σ' (aget H') w' ∧ Only σ σ' base := by
  unfold makeSliceA at h
  split at h
  · rename_i el hu
    split at h
    · rename_i i z l c hi hz hl1 hc1
      cases hb : (decide (0 ≤ l) && decide (l ≤ c) && decide ((i.bytes : Int) * c ≤ 281474976710656) && decide (c ≤ 281474976710656) && Nat.ble 1 (cellsA z).length) <;> rw [hb] at h <;> simp only [cond_true, cond_false] at h
      · cases h
      · cases h
        simp only [Bool.and_eq_true, decide_eq_true_eq] at hb
        obtain ⟨⟨⟨⟨b1, b2⟩, b3⟩, b4⟩, b5⟩ := hb
        have b5 := Nat.le_of_ble_eq_true b5
        obtain ⟨k1, rfl⟩ := toI_ok hl1 hl
        obtain ⟨k2, rfl⟩ := toI_ok hc1 hc
        obtain ⟨z', hz1, hz2⟩ := zeroA_ok hz σ w
        have hzr := zrow_ok (cellsA_ok hz2) (n := c.toNat * i.size) (.inr b5)
        obtain ⟨σ', v', w', g1, g2⟩ := sliceRowA_ok (P := P) hzr el (len := l.toNat) (cap := c.toNat) (esz := i.size) (by omega) (by simp) ha hr hf
        refine ⟨σ', v', w', ?_, g2⟩
        have hz0 : ∀ n : Nat, n = 0 → (Array.range n).map ((#[] : Array Value)[· % (#[] : Array Value).size]!) = (Array.range n).map (z'.cells[· % z'.cells.size]!) := fun n hn => by subst hn; simp
        have hsz : szA P el = some i.size := by simp [szA, hi]
        unfold Instr.makeSlice
        simp only [Sem.run_bind, run_underlying hu, Result.andThen_ok, asInt, asIntOf, Sem.run_pure, run_info hi, wrap_i64 l (by omega) (by omega), wrap_i64 c (by omega) (by omega)]
        rw [if_neg]
        · simp only [Sem.run_bind, Result.andThen_ok, run_askRoom, run_szA hsz]
          by_cases h0 : c.toNat * i.size = 0
          · rw [h0, ← hz0 0 rfl] at g1
            simp only [h0, if_true]
            simpa only [Sem.run_bind, Result.andThen_ok, Sem.run_pure] using g1
          · simp only [h0, if_false, Sem.run_bind, hz1, Sem.run_pure, Result.andThen_ok]
            simpa only [Sem.run_bind, Result.andThen_ok, Sem.run_pure] using g1
        · simp only [Bool.or_eq_true, decide_eq_true_eq]
          omega
    · cases h
  · cases h
end Go.Eng
