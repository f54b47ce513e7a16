/- Engine, part 1: abstract values, the abstract heap, and how they stand to the model's values and worlds. -/
import Derived.WalkKit
namespace Go.Eng
set_option linter.unusedVariables false
set_option linter.unusedSimpArgs false
open Go

/-- Abstract values: numbers of the unsigned kinds as Lean's own, strings as lists of bytes, blocks of memory by name. -/
inductive AVal where
  | bool (b : Bool)
  | u8 (x : UInt8)
  | u32 (x : UInt32)
  | u64 (x : UInt64)
  | b64 (b : Bool)
  | int (k : IntKind) (n : Int)
  | str (s : List UInt8)
  | nilPtr
  | ptr (n off : Nat)
  | nilSlice
  | slice (n off len esz : Nat)
  | nilMap
  | map (n : Nat)
  | nilFunc
  | fn (f : FuncId) (cap : List AVal)
  | nilIface
  | iface (t : TypeId) (v : AVal)
  | agg (cs : List AVal)
  | tup (vs : List AVal)

/-- Abstract objects. 'ro': it may not be written (and may be shared). A row of cells is known from its first cell on, perhaps not to its end. -/
inductive AObj where
  | cells (ro : Bool) (c : List AVal)

def AObj.ro : AObj → Bool
  | .cells ro _ => ro

/-- Finite maps by lists. -/
def aget {α : Type} : List (Nat × α) → Nat → Option α
  | [], _ => none
  | (k, v) :: l, n => cond (Nat.beq k n) (some v) (aget l n)

def aset {α : Type} : List (Nat × α) → Nat → α → List (Nat × α)
  | [], n, v => [(n, v)]
  | (k, u) :: l, n, v => cond (Nat.beq k n) ((n, v) :: l) ((k, u) :: aset l n v)

def adel {α : Type} : List (Nat × α) → Nat → List (Nat × α)
  | [], _ => []
  | (k, u) :: l, n => cond (Nat.beq k n) (adel l n) ((k, u) :: adel l n)

theorem beq_cases (k n : Nat) : (k = n ∧ Nat.beq k n = true) ∨ (k ≠ n ∧ Nat.beq k n = false) := by
  by_cases h : k = n
  · exact .inl ⟨h, by subst h; exact Nat.beq_refl k⟩
  · refine .inr ⟨h, ?_⟩
    cases hb : Nat.beq k n with
    | false => rfl
    | true => exact absurd (Nat.eq_of_beq_eq_true hb) h

theorem aget_aset {α : Type} (l : List (Nat × α)) (n : Nat) (v : α) (m : Nat) : aget (aset l n v) m = if n = m then some v else aget l m := by
  induction l with
  | nil =>
    rcases beq_cases n m with ⟨h, hb⟩ | ⟨h, hb⟩ <;> simp [aset, aget, h, hb]
  | cons x l ih =>
    obtain ⟨k, u⟩ := x
    rcases beq_cases k n with ⟨h, hb⟩ | ⟨h, hb⟩
    · subst h
      rcases beq_cases k m with ⟨h2, hb2⟩ | ⟨h2, hb2⟩ <;> simp [aset, aget, hb2, h2]
    · simp only [aset, hb, cond_false, aget]
      rcases beq_cases k m with ⟨h2, hb2⟩ | ⟨h2, hb2⟩
      · subst h2
        simp [Ne.symm h]
      · simp [hb2, ih]

theorem aget_adel {α : Type} (l : List (Nat × α)) (n m : Nat) : aget (adel l n) m = if n = m then none else aget l m := by
  induction l with
  | nil => simp [adel, aget]
  | cons x l ih =>
    obtain ⟨k, u⟩ := x
    rcases beq_cases k n with ⟨h, hb⟩ | ⟨h, hb⟩
    · subst h
      simp only [adel, hb, cond_true, ih, aget]
      rcases beq_cases k m with ⟨h2, hb2⟩ | ⟨h2, hb2⟩
      · simp [h2]
      · simp [hb2, h2]
    · simp only [adel, hb, cond_false, aget, ih]
      rcases beq_cases k m with ⟨h2, hb2⟩ | ⟨h2, hb2⟩
      · subst h2
        simp [Ne.symm h]
      · simp [hb2]

/-- Where a name lies: the block, the first cell's place in it, how many cells the block has. -/
structure Place where
  blk : Nat
  sh : Nat
  sz : Nat

abbrev Sig := Nat → Option Place

/-- An abstract value and the model's. -/
inductive VR (σ : Sig) : AVal → Value → Prop where
  | bool (b : Bool) : VR σ (.bool b) (.bool b)
  | u8 (x : UInt8) : VR σ (.u8 x) (.int .u8 x.toNat)
  | u32 (x : UInt32) : VR σ (.u32 x) (.int .u32 x.toNat)
  | u64 (x : UInt64) : VR σ (.u64 x) (.int .u64 x.toNat)
  | b64 (b : Bool) : VR σ (.b64 b) (.int .u64 ((cond b (1 : UInt64) 0).toNat : Int))
  | int (k : IntKind) (n : Int) : VR σ (.int k n) (.int k n)
  | str (l : List UInt8) : VR σ (.str l) (.string ⟨l.toArray⟩)
  | nilPtr : VR σ .nilPtr (.pointer none)
  | ptr {n off : Nat} {p : Place} (h : σ n = some p) : VR σ (.ptr n off) (.pointer (some ⟨p.blk, p.sh + off, none⟩))
  | nilSlice : VR σ .nilSlice (.slice none 0 0)
  | slice {n off len esz : Nat} {p : Place} {o cap : Nat} (h : σ n = some p) (ho : len = 0 ∨ o = p.sh + off) (hc : len ≤ cap) (hs : o + cap * esz ≤ p.sz) :
      VR σ (.slice n off len esz) (.slice (some ⟨p.blk, o, none⟩) len cap)
  | nilMap : VR σ .nilMap (.map none)
  | map {n : Nat} {p : Place} (h : σ n = some p) : VR σ (.map n) (.map (some p.blk))
  | nilFunc : VR σ .nilFunc .nilFunc
  | fn {f : FuncId} {cap : List AVal} {cap' : Array Value} (hs : cap.length = cap'.size) (h : ∀ (i : Nat) v v', cap[i]? = some v → cap'[i]? = some v' → VR σ v v') :
      VR σ (.fn f cap) (.func (.func f) #[] cap')
  | nilIface : VR σ .nilIface .nilIface
  | iface {t : TypeId} {v : AVal} {v' : Value} (h : VR σ v v') : VR σ (.iface t v) (.iface t v')
  | agg {cs : List AVal} {cs' : Array Value} (hs : cs.length = cs'.size) (h : ∀ (i : Nat) v v', cs[i]? = some v → cs'[i]? = some v' → VR σ v v') : VR σ (.agg cs) (.agg cs')
  | tup {vs : List AVal} {vs' : Array Value} (hs : vs.length = vs'.size) (h : ∀ (i : Nat) v v', vs[i]? = some v → vs'[i]? = some v' → VR σ v v') : VR σ (.tup vs) (.tuple vs')

def Sig.le (σ σ' : Sig) : Prop := ∀ n p, σ n = some p → σ' n = some p
theorem Sig.le_refl (σ : Sig) : Sig.le σ σ := fun _ _ h => h
theorem Sig.le_trans {σ σ' σ'' : Sig} (h : Sig.le σ σ') (k : Sig.le σ' σ'') : Sig.le σ σ'' := fun n p hp => k n p (h n p hp)

theorem VR.mono {σ σ' : Sig} (h : Sig.le σ σ') {v : AVal} {v' : Value} (hv : VR σ v v') : VR σ' v v' := by
  induction hv with
  | bool b => exact .bool b
  | u8 x => exact .u8 x
  | u32 x => exact .u32 x
  | u64 x => exact .u64 x
  | b64 b => exact .b64 b
  | int k n => exact .int k n
  | str l => exact .str l
  | nilPtr => exact .nilPtr
  | ptr hp => exact .ptr (h _ _ hp)
  | nilSlice => exact .nilSlice
  | slice hp ho hc hs => exact .slice (h _ _ hp) ho hc hs
  | nilMap => exact .nilMap
  | map hp => exact .map (h _ _ hp)
  | nilFunc => exact .nilFunc
  | fn hs _ ih => exact .fn hs ih
  | nilIface => exact .nilIface
  | iface _ ih => exact .iface ih
  | agg hs _ ih => exact .agg hs ih
  | tup hs _ ih => exact .tup hs ih

/-- Lists of abstract values and arrays of the model's. -/
def LR (σ : Sig) (l : List AVal) (l' : Array Value) : Prop := l.length = l'.size ∧ ∀ (i : Nat) v v', l[i]? = some v → l'[i]? = some v' → VR σ v v'
theorem LR.mono {σ σ' : Sig} (h : Sig.le σ σ') {l : List AVal} {l' : Array Value} (hl : LR σ l l') : LR σ' l l' := ⟨hl.1, fun i v v' h1 h2 => (hl.2 i v v' h1 h2).mono h⟩
theorem LR.get {σ : Sig} {l : List AVal} {l' : Array Value} (hl : LR σ l l') {i : Nat} {v : AVal} (h : l[i]? = some v) : ∃ v', l'[i]? = some v' ∧ VR σ v v' := by
  have hi : i < l.length := (List.getElem?_eq_some_iff.1 h).1
  have hi' : i < l'.size := hl.1 ▸ hi
  exact ⟨l'[i], by simp [hi'], hl.2 i v _ h (by simp [hi'])⟩
theorem LR.nil (σ : Sig) : LR σ [] #[] := ⟨rfl, fun i v v' h => by simp at h⟩
theorem LR.push {σ : Sig} {l : List AVal} {l' : Array Value} (hl : LR σ l l') {v : AVal} {v' : Value} (hv : VR σ v v') : LR σ (l ++ [v]) (l'.push v') := by
  refine ⟨by simp [hl.1], fun i u u' h h' => ?_⟩
  rw [Array.getElem?_push] at h'
  split at h'
  · rename_i e
    subst e
    rw [← hl.1] at h
    simp at h
    cases h' ; subst h; exact hv
  · rename_i e
    have hlt : i < l'.size := (Array.getElem?_eq_some_iff.1 h').1
    rw [List.getElem?_append_left (by rw [hl.1]; exact hlt)] at h
    exact hl.2 i u u' h h'
theorem LR.of_list {σ : Sig} {l : List AVal} {l' : List Value} (hs : l.length = l'.length) (h : ∀ (i : Nat) v v', l[i]? = some v → l'[i]? = some v' → VR σ v v') : LR σ l l'.toArray :=
  ⟨by simpa using hs, fun i v v' h1 h2 => h i v v' h1 (by simpa using h2)⟩
theorem LR.cons {σ : Sig} {v : AVal} {v' : Value} {l : List AVal} {l' : List Value} (hv : VR σ v v') (hl : LR σ l l'.toArray) : LR σ (v :: l) (v' :: l').toArray := by
  refine LR.of_list (by have := hl.1; simpa using this) fun i u u' h h' => ?_
  cases i with
  | zero => simp at h h'; subst h; subst h'; exact hv
  | succ i => exact hl.2 i u u' (by simpa using h) (by simpa using h')

def ORel (σ : Sig) (w : World) (p : Place) : AObj → Prop
  | .cells ro c => ∃ c' t fz, w.heap[p.blk]? = some (.cells c' t fz) ∧ c'.size = p.sz ∧
      (∀ (i : Nat) v, c[i]? = some v → ∃ v', c'[p.sh + i]? = some v' ∧ VR σ v v') ∧ (ro = false → p.sz ≤ fz.1 ∨ fz.2 ≤ fz.1)

abbrev Heap := Nat → Option AObj
abbrev Tmps := Nat → Option AVal
/-- A map changed at one place. -/
def upd {α : Type} (f : Nat → Option α) (n : Nat) (v : α) : Nat → Option α := fun m => if n = m then some v else f m
theorem aget_aset_fun {α : Type} (l : List (Nat × α)) (n : Nat) (v : α) : aget (aset l n v) = upd (aget l) n v := funext fun m => aget_aset l n v m
theorem upd_same {α : Type} (f : Nat → Option α) (n : Nat) (v : α) : upd f n v n = some v := by simp [upd]
theorem upd_other {α : Type} (f : Nat → Option α) {n m : Nat} (v : α) (h : n ≠ m) : upd f n v m = f m := by simp [upd, h]
theorem upd_comm {α : Type} (f : Nat → Option α) {n m : Nat} (u v : α) (h : n ≠ m) : upd (upd f n u) m v = upd (upd f m v) n u := by
  funext k
  by_cases h1 : n = k
  · subst h1; simp [upd, Ne.symm h]
  · simp [upd, h1]

structure HRel (σ : Sig) (H : Heap) (w : World) : Prop where
  obj : ∀ n o, H n = some o → ∃ p, σ n = some p ∧ ORel σ w p o
  inj : ∀ n m o o' p q, H n = some o → H m = some o' → σ n = some p → σ m = some q → p.blk = q.blk → n = m ∨ (o.ro = true ∧ o'.ro = true)

def TRel (σ : Sig) (T : Tmps) (a : Act) : Prop := ∀ s v, T s = some v → ∃ v', a.tmps[s]? = some v' ∧ VR σ v v'

/-- The blocks that may be written. -/
def Own (σ : Sig) (H : Heap) (b : Nat) : Prop := ∃ n o p, H n = some o ∧ o.ro = false ∧ σ n = some p ∧ p.blk = b

/-- From one world to a later one: what else lay in memory lies as it lay. -/
structure Frm (σ : Sig) (H : Heap) (w : World) (σ' : Sig) (H' : Heap) (w' : World) : Prop where
  ext : Sig.le σ σ'
  size : w.heap.size ≤ w'.heap.size
  os : w'.os = w.os
  output : w'.output = w.output
  tape : w'.tape = w.tape
  old : ∀ b, b < w.heap.size → ¬ Own σ H b → w'.heap[b]? = w.heap[b]? ∧ ¬ Own σ' H' b

theorem Frm.refl (σ : Sig) (H : Heap) (w : World) : Frm σ H w σ H w := ⟨Sig.le_refl σ, Nat.le_refl _, rfl, rfl, rfl, fun _ _ h => ⟨rfl, h⟩⟩
theorem Frm.trans {σ σ' σ'' : Sig} {H H' H'' : Heap} {w w' w'' : World} (h : Frm σ H w σ' H' w') (k : Frm σ' H' w' σ'' H'' w'') : Frm σ H w σ'' H'' w'' :=
  ⟨Sig.le_trans h.ext k.ext, Nat.le_trans h.size k.size, k.os.trans h.os, k.output.trans h.output, k.tape.trans h.tape, fun b hb hn => by
    obtain ⟨h1, h2⟩ := h.old b hb hn
    obtain ⟨k1, k2⟩ := k.old b (Nat.lt_of_lt_of_le hb h.size) h2
    exact ⟨k1.trans h1, k2⟩⟩

theorem ORel.lt {σ : Sig} {w : World} {p : Place} {o : AObj} (h : ORel σ w p o) : p.blk < w.heap.size := by
  cases o with
  | cells ro c =>
    obtain ⟨c', t, fz, hb, _⟩ := h
    exact (Array.getElem?_eq_some_iff.1 hb).1

theorem ORel.mono {σ σ' : Sig} {w w' : World} {p : Place} {o : AObj} (he : Sig.le σ σ') (hb : w'.heap[p.blk]? = w.heap[p.blk]?) (h : ORel σ w p o) : ORel σ' w' p o := by
  cases o with
  | cells ro c =>
    obtain ⟨c', t, fz, h1, h2, h3, h4⟩ := h
    exact ⟨c', t, fz, hb.trans h1, h2, fun i v hi => by
      obtain ⟨v', a, b⟩ := h3 i v hi
      exact ⟨v', a, b.mono he⟩, h4⟩

/-- Pure steps move the count of draws alone. -/
theorem HRel.drew {σ : Sig} {H : Heap} {w w' : World} (h : HRel σ H w) (e : w'.heap = w.heap) : HRel σ H w' :=
  ⟨fun n o hn => by
    obtain ⟨p, hp, ho⟩ := h.obj n o hn
    exact ⟨p, hp, ho.mono (Sig.le_refl σ) (by rw [e])⟩, h.inj⟩

def Sig.set (σ : Sig) (n : Nat) (p : Place) : Sig := fun m => if m = n then some p else σ m
theorem Sig.set_same (σ : Sig) (n : Nat) (p : Place) : σ.set n p n = some p := by simp [Sig.set]
theorem Sig.set_other (σ : Sig) {n m : Nat} (p : Place) (h : m ≠ n) : σ.set n p m = σ m := by simp [Sig.set, h]
theorem Sig.le_set {σ : Sig} {n : Nat} (h : σ n = none) (p : Place) : Sig.le σ (σ.set n p) := fun m q hq => by
  by_cases e : m = n
  · subst e; rw [h] at hq; cases hq
  · rw [Sig.set_other σ p e]; exact hq

/-- A new block. -/
theorem HRel.alloc {σ : Sig} {H : Heap} {w : World} (h : HRel σ H w) {n : Nat} (hn : σ n = none) {o : AObj} {ob : Obj} {sz : Nat}
    (ho : ORel (σ.set n ⟨w.heap.size, 0, sz⟩) (w.alloc ob) ⟨w.heap.size, 0, sz⟩ o) :
    HRel (σ.set n ⟨w.heap.size, 0, sz⟩) (upd H n o) (w.alloc ob) := by
  have hle := Sig.le_set (σ := σ) hn ⟨w.heap.size, 0, sz⟩
  have hlt : ∀ m o', H m = some o' → ∃ p, σ m = some p ∧ ORel σ w p o' ∧ p.blk < w.heap.size ∧ m ≠ n := fun m o' hm => by
    obtain ⟨p, hp, hr⟩ := h.obj m o' hm
    exact ⟨p, hp, hr, hr.lt, fun e => by subst e; rw [hn] at hp; cases hp⟩
  refine ⟨fun m o' hm => ?_, fun m1 m2 o1 o2 p q h1 h2 hp hq he => ?_⟩
  · unfold upd at hm
    split at hm
    · rename_i e; subst e; cases hm
      exact ⟨_, Sig.set_same σ n _, ho⟩
    · obtain ⟨p, hp, hr, hl, hne⟩ := hlt m o' hm
      exact ⟨p, hle _ _ hp, hr.mono hle (by show (w.heap.push ob)[p.blk]? = _; rw [Array.getElem?_push, if_neg (by omega)])⟩
  · unfold upd at h1 h2
    split at h1 <;> split at h2
    · rename_i e1 e2; exact .inl (e1.symm.trans e2)
    · rename_i e1 e2
      obtain ⟨p', hp', _, hl, hne⟩ := hlt m2 o2 h2
      subst e1
      rw [Sig.set_same] at hp; cases hp
      rw [hle _ _ hp'] at hq; cases hq
      simp only at he; omega
    · rename_i e1 e2
      obtain ⟨p', hp', _, hl, hne⟩ := hlt m1 o1 h1
      subst e2
      rw [Sig.set_same] at hq; cases hq
      rw [hle _ _ hp'] at hp; cases hp
      simp only at he; omega
    · obtain ⟨p', hp', _, _, _⟩ := hlt m1 o1 h1
      obtain ⟨q', hq', _, _, _⟩ := hlt m2 o2 h2
      rw [hle _ _ hp'] at hp; cases hp
      rw [hle _ _ hq'] at hq; cases hq
      exact h.inj m1 m2 o1 o2 _ _ h1 h2 hp' hq' he

theorem Frm.alloc {σ : Sig} {H : Heap} {w : World} {n : Nat} (hn : σ n = none) (ho : ∀ m o, H m = some o → ∃ p, σ m = some p) {o : AObj} {ob : Obj} {sz : Nat} :
    Frm σ H w (σ.set n ⟨w.heap.size, 0, sz⟩) (upd H n o) (w.alloc ob) := by
  refine ⟨Sig.le_set hn _, by simp, rfl, rfl, rfl, fun b hb hno => ⟨by show (w.heap.push ob)[b]? = _; rw [Array.getElem?_push, if_neg (by omega)], ?_⟩⟩
  rintro ⟨m, o', p, h1, h2, h3, h4⟩
  unfold upd at h1
  split at h1
  · rename_i e; subst e; rw [Sig.set_same] at h3; cases h3; simp only at h4; omega
  · obtain ⟨q, hq⟩ := ho m o' h1
    have h5 := Sig.le_set (σ := σ) hn ⟨w.heap.size, 0, sz⟩ m q hq
    have h6 : q = p := Option.some.inj (h5.symm.trans h3)
    exact hno ⟨m, o', q, h1, h2, hq, h6 ▸ h4⟩

/-- A block that may be written is written. -/
theorem HRel.write {σ : Sig} {H : Heap} {w w' : World} (h : HRel σ H w) {n : Nat} {o o' : AObj} {p : Place} (hn : H n = some o) (hro : o.ro = false) (hp : σ n = some p)
    (ho : ORel σ w' p o') (hw : ∀ b, b ≠ p.blk → w'.heap[b]? = w.heap[b]?) : HRel σ (upd H n o') w' := by
  refine ⟨fun m ob hm => ?_, fun m1 m2 o1 o2 q1 q2 h1 h2 hq1 hq2 he => ?_⟩
  · unfold upd at hm
    split at hm
    · rename_i e; subst e; cases hm; exact ⟨p, hp, ho⟩
    · rename_i e
      obtain ⟨q, hq, hr⟩ := h.obj m ob hm
      refine ⟨q, hq, hr.mono (Sig.le_refl σ) (hw _ fun e' => ?_)⟩
      rcases h.inj m n ob o q p hm hn hq hp e' with e2 | ⟨_, e2⟩
      · exact e e2.symm
      · rw [hro] at e2; cases e2
  · unfold upd at h1 h2
    split at h1 <;> split at h2
    · rename_i e1 e2; exact .inl (e1.symm.trans e2)
    · rename_i e1 e2; subst e1
      rcases h.inj n m2 o o2 q1 q2 hn h2 hq1 hq2 he with e3 | ⟨e3, _⟩
      · exact .inl e3
      · rw [hro] at e3; cases e3
    · rename_i e1 e2; subst e2
      rcases h.inj m1 n o1 o q1 q2 h1 hn hq1 hq2 he with e3 | ⟨_, e3⟩
      · exact .inl e3
      · rw [hro] at e3; cases e3
    · exact h.inj m1 m2 o1 o2 q1 q2 h1 h2 hq1 hq2 he

theorem Frm.write {σ : Sig} {H : Heap} {w w' : World} {n : Nat} {o o' : AObj} {p : Place} (hn : H n = some o) (hro : o.ro = false) (hp : σ n = some p)
    (hw : ∀ b, b ≠ p.blk → w'.heap[b]? = w.heap[b]?) (hs : w'.heap.size = w.heap.size) (h1 : w'.os = w.os) (h2 : w'.output = w.output) (h3 : w'.tape = w.tape) :
    Frm σ H w σ (upd H n o') w' := by
  have hown : Own σ H p.blk := ⟨n, o, p, hn, hro, hp, rfl⟩
  refine ⟨Sig.le_refl σ, by omega, h1, h2, h3, fun b hb hno => ⟨hw b fun e => hno (e ▸ hown), ?_⟩⟩
  rintro ⟨m, o2, q, g1, g2, g3, g4⟩
  unfold upd at g1
  split at g1
  · rename_i e; subst e; rw [hp] at g3; cases g3; exact hno (g4 ▸ hown)
  · exact hno ⟨m, o2, q, g1, g2, g3, g4⟩

end Go.Eng
