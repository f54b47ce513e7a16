/- Engine, part 5: the pure operations, all together. -/
import Derived.Test.YtkgbpnihbamceaaEng4
import Derived.Lib.Strings
namespace Go.Eng
set_option linter.unusedVariables false
set_option linter.unusedSimpArgs false
open Go

def toI : AVal → Option Int
  | .u8 x => some x.toNat
  | .u32 x => some x.toNat
  | .u64 x => some x.toNat
  | .int _ n => some n
  | _ => none
theorem toI_ok {x : AVal} {i : Int} (h : toI x = some i) {σ : Sig} {x' : Value} (hx : VR σ x x') : ∃ k, x' = .int k i := by
  unfold toI at h
  split at h <;> cases h <;> cases hx <;> exact ⟨_, rfl⟩
/-- A number below a bound. -/
def idx (i : Int) (n : Nat) : Option Nat := cond (decide (0 ≤ i) && decide (i < (n : Int))) (some i.toNat) none
theorem idx_ok {i : Int} {n m : Nat} (h : idx i n = some m) : 0 ≤ i ∧ i < n ∧ i.toNat = m ∧ m < n := by
  unfold idx at h
  cases hb : (decide (0 ≤ i) && decide (i < (n : Int))) <;> rw [hb] at h <;> simp at h hb
  omega

/-! ### bounds of a slice -/
def boundA (x : Option AVal) (dflt top : Nat) : Option Nat :=
  match x with
  | none => some dflt
  | some v => match toI v with
    | some i => idx i (top + 1)
    | none => none
def boundsA (low high : Option AVal) (len : Nat) : Option (Nat × Nat) :=
  match boundA high len len with
  | none => none
  | some h => match boundA low 0 h with
    | none => none
    | some l => some (l, h)
def OptVR (σ : Sig) (x : Option AVal) (x' : Option Value) : Prop :=
  match x, x' with
  | none, none => True
  | some v, some v' => VR σ v v'
  | _, _ => False
theorem run_boundsA {P : Program} {σ : Sig} {low high : Option AVal} {low' high' : Option Value} {len cap l h : Nat} {b : Bool} (hb : boundsA low high len = some (l, h)) (hl : OptVR σ low low') (hh : OptVR σ high high')
    (hc : len ≤ cap) (w : World) : (Instr.sliceBounds b len cap low' high' none).run P w = .ok (l, h, cap) w ∧ l ≤ h ∧ h ≤ len := by
  unfold boundsA at hb
  cases h1 : boundA high len len with
  | none => rw [h1] at hb; cases hb
  | some hi =>
    rw [h1] at hb
    simp only at hb
    cases h2 : boundA low 0 hi with
    | none => rw [h2] at hb; cases hb
    | some lo =>
      rw [h2] at hb
      simp only [Option.some.injEq, Prod.mk.injEq] at hb
      obtain ⟨rfl, rfl⟩ := hb
      have A : hi ≤ len ∧ (high' = none → hi = len) ∧ (∀ v, high' = some v → ∀ code, (Instr.sliceBound v cap code).run P w = .ok hi w) := by
        cases high with
        | none =>
          cases high' with
          | some v => exact hh.elim
          | none => simp only [boundA, Option.some.injEq] at h1; subst h1; exact ⟨Nat.le_refl _, fun _ => rfl, (fun v e => by cases e)⟩
        | some v =>
          cases high' with
          | none => exact hh.elim
          | some v' =>
            simp only [boundA] at h1
            cases hi1 : toI v with
            | none => rw [hi1] at h1; cases h1
            | some i =>
              rw [hi1] at h1
              obtain ⟨k, rfl⟩ := toI_ok hi1 hh
              obtain ⟨g1, g2, g3, g4⟩ := idx_ok h1
              refine ⟨by omega, (fun e => by cases e), fun v e code => ?_⟩
              cases e
              rw [← g3]
              exact run_sliceBound w k i cap code g1 (by omega)
      have B : lo ≤ hi ∧ (low' = none → lo = 0) ∧ (∀ v, low' = some v → ∀ code, (Instr.sliceBound v hi code).run P w = .ok lo w) := by
        cases low with
        | none =>
          cases low' with
          | some v => exact hl.elim
          | none => simp only [boundA, Option.some.injEq] at h2; subst h2; exact ⟨Nat.zero_le _, fun _ => rfl, (fun v e => by cases e)⟩
        | some v =>
          cases low' with
          | none => exact hl.elim
          | some v' =>
            simp only [boundA] at h2
            cases hi1 : toI v with
            | none => rw [hi1] at h2; cases h2
            | some i =>
              rw [hi1] at h2
              obtain ⟨k, rfl⟩ := toI_ok hi1 hl
              obtain ⟨g1, g2, g3, g4⟩ := idx_ok h2
              refine ⟨by omega, (fun e => by cases e), fun v e code => ?_⟩
              cases e
              rw [← g3]
              exact run_sliceBound w k i hi code g1 (by omega)
      refine ⟨?_, B.1, A.1⟩
      clear hl hh h1 h2
      obtain ⟨_, A2, A3⟩ := A
      obtain ⟨_, B2, B3⟩ := B
      unfold Instr.sliceBounds
      cases high' with
      | none =>
        have e := A2 rfl; subst e
        cases low' with
        | none => have e := B2 rfl; subst e; simp
        | some v => simp [B3 v rfl]
      | some v =>
        cases low' with
        | none => have e := B2 rfl; subst e; simp [A3 v rfl]
        | some v2 => simp [A3 v rfl, B3 v2 rfl]

theorem extract_mk (l : List UInt8) (a b : Nat) : (ByteArray.mk l.toArray).extract a b = ⟨((l.take b).drop a).toArray⟩ := by
  apply ByteArray.ext
  apply Array.toList_inj.1
  rw [Lib.extract_data]
  simp [List.drop_take]
theorem size_mk (l : List UInt8) : (ByteArray.mk l.toArray).size = l.length := by simp [ByteArray.size]

/-- 'x[lo:hi]' of a string or of a slice. -/
def sliceA (P : Program) (t : TypeId) (x : AVal) (low high : Option AVal) : Option AVal :=
  match P.underlying t with
  | some .string => match x with
    | .str s => match boundsA low high s.length with
      | some (l, h) => some (.str ((s.take h).drop l))
      | none => none
    | _ => none
  | some (.slice e) => match szA P e with
    | none => none
    | some sz => match x with
      | .nilSlice => match boundsA low high 0 with
        | some _ => some .nilSlice
        | none => none
      | .slice n off len esz => match boundsA low high len with
        | some (l, h) => cond (Nat.beq sz esz) (some (.slice n (off + l * esz) (h - l) esz)) none
        | none => none
      | _ => none
  | _ => none
theorem sliceA_ok {P : Program} {t : TypeId} {x v : AVal} {low high : Option AVal} (h : sliceA P t x low high = some v) {σ : Sig} {x' : Value} {low' high' : Option Value} (hx : VR σ x x') (hl : OptVR σ low low') (hh : OptVR σ high high') :
    OkV P σ v (Instr.sliceAt t x' low' high' none) := by
  unfold sliceA at h
  split at h
  · rename_i hu
    split at h
    · rename_i s
      split at h
      · rename_i lo hi hb
        cases h; cases hx
        refine .mk (v' := .string ⟨((s.take hi).drop lo).toArray⟩) (fun w => ?_) (.str _)
        have hr := (run_boundsA (P := P) (b := false) (cap := s.length) hb hl hh (Nat.le_refl _) w).1
        unfold Instr.sliceAt
        simp only [Sem.run_bind, run_underlying hu, Result.andThen_ok]
        unfold Instr.slice
        simp only [Sem.run_bind, run_underlying hu, Result.andThen_ok, Option.isSome_none, Bool.false_eq_true, if_false, size_mk, Sem.run_pure, hr, extract_mk]
      · cases h
    · cases h
  · rename_i e hu
    split at h
    · cases h
    · rename_i sz hz
      split at h
      · split at h
        · rename_i p hb
          obtain ⟨lo, hi⟩ := p
          cases h; cases hx
          refine .mk (v' := .slice none 0 0) (fun w => ?_) .nilSlice
          obtain ⟨hr, h1, h2⟩ := run_boundsA (P := P) (b := true) (cap := 0) hb hl hh (Nat.le_refl _) w
          unfold Instr.sliceAt
          simp only [Sem.run_bind, run_underlying hu, Result.andThen_ok]
          unfold Instr.slice
          simp only [Sem.run_bind, run_underlying hu, Result.andThen_ok, run_szA hz, Sem.run_pure, hr]
          have e1 : hi = 0 := by omega
          have e2 : lo = 0 := by omega
          subst e1; subst e2; simp
        · cases h
      · rename_i n off len esz
        split at h
        · rename_i lo hi hb
          rcases beq_cases sz esz with ⟨he, hbe⟩ | ⟨he, hbe⟩ <;> rw [hbe] at h <;> simp only [cond_true, cond_false, Option.some.injEq] at h
          · subst h; subst he
            cases hx with
            | @slice _ _ _ _ p o cap hp ho hc hs =>
              intro w
              obtain ⟨hr, h1, h2⟩ := run_boundsA (P := P) (b := true) hb hl hh hc w
              refine ⟨.slice (if cap = lo then some ⟨p.blk, o, none⟩ else some ((⟨p.blk, o, none⟩ : Addr).add (lo * sz))) (hi - lo) (cap - lo), ?_, ?_⟩
              · unfold Instr.sliceAt
                simp only [Sem.run_bind, run_underlying hu, Result.andThen_ok]
                unfold Instr.slice
                simp only [Sem.run_bind, run_underlying hu, Result.andThen_ok, run_szA hz, Sem.run_pure, hr, Option.map_some]
              · have hadd : (⟨p.blk, o, none⟩ : Addr).add (lo * sz) = ⟨p.blk, o + lo * sz, none⟩ := by
                  unfold Addr.add; split
                  · rename_i h0; rw [h0]; rfl
                  · rfl
                rw [hadd]
                by_cases hcl : cap = lo
                · rw [if_pos hcl]
                  have : hi - lo = 0 := by omega
                  rw [this]
                  exact .slice hp (.inl rfl) (by omega) (by rw [hcl]; simp; omega)
                · rw [if_neg hcl]
                  refine .slice hp ?_ (by omega) ?_
                  · rcases ho with h0 | h0
                    · exact .inl (by omega)
                    · exact .inr (by omega)
                  · have : lo * sz + (cap - lo) * sz = cap * sz := by rw [← Nat.add_mul]; congr 1; omega
                    omega
          · cases h
        · cases h
      · cases h
  · cases h

/-! ### addresses -/
def fieldAddrA (P : Program) (t : TypeId) (x : AVal) (k : Nat) : Option AVal :=
  match P.underlying t with
  | some (.struct fs) => match fs[k]? with
    | none => none
    | some f => match szA P f.type with
      | none => none
      | some sz => match x with
        | .ptr n off => cond (Nat.beq sz 0) none (some (.ptr n (off + f.offset)))
        | _ => none
  | _ => none
theorem add_mk (b o n : Nat) : (⟨b, o, none⟩ : Addr).add n = ⟨b, o + n, none⟩ := by
  unfold Addr.add; split
  · rename_i h0; rw [h0]; rfl
  · rfl
theorem fieldAddrA_ok {P : Program} {t : TypeId} {x v : AVal} {k : Nat} (h : fieldAddrA P t x k = some v) {σ : Sig} {x' : Value} (hx : VR σ x x') : OkV P σ v (Instr.fieldAt t x' k) := by
  unfold fieldAddrA at h
  split at h
  · rename_i fs hu
    split at h
    · cases h
    · rename_i f hf
      split at h
      · cases h
      · rename_i sz hz
        split at h
        · rename_i n off
          rcases beq_cases sz 0 with ⟨he, hbe⟩ | ⟨he, hbe⟩ <;> rw [hbe] at h <;> simp only [cond_true, cond_false, Option.some.injEq] at h
          · cases h
          · subst h
            cases hx with
            | @ptr _ _ p hp =>
              refine .mk (v' := .pointer (some ⟨p.blk, p.sh + (off + f.offset), none⟩)) (fun w => ?_) (.ptr hp)
              unfold Instr.fieldAt
              simp only [Sem.run_bind, run_underlying hu, Result.andThen_ok, hf, Instr.sureAddr, Sem.run_pure, fieldPlace, run_szA hz, he, if_false, add_mk, Nat.add_assoc]
        · cases h
  · cases h

def indexAddrA (P : Program) (t : TypeId) (x i : AVal) : Option AVal :=
  match toI i with
  | none => none
  | some i => match P.underlying t with
    | some (.array len e) => match szA P e with
      | none => none
      | some sz => match x with
        | .ptr n off => match idx i len with
          | some m => some (.ptr n (off + m * sz))
          | none => none
        | _ => none
    | some (.slice e) => match szA P e with
      | none => none
      | some sz => match x with
        | .slice n off len esz => match idx i len with
          | some m => cond (Nat.beq sz esz) (some (.ptr n (off + m * esz))) none
          | none => none
        | _ => none
    | _ => none
theorem indexAddrA_ok {P : Program} {t : TypeId} {x i v : AVal} (h : indexAddrA P t x i = some v) {σ : Sig} {x' i' : Value} (hx : VR σ x x') (hi : VR σ i i') : OkV P σ v (Instr.indexAt t x' i') := by
  unfold indexAddrA at h
  split at h
  · cases h
  · rename_i i0 hI
    obtain ⟨k, rfl⟩ := toI_ok hI hi
    split at h
    · rename_i len e hu
      split at h
      · cases h
      · rename_i sz hz
        split at h
        · rename_i n off
          split at h
          · rename_i m hm
            cases h
            obtain ⟨h1, h2, h3, h4⟩ := idx_ok hm
            cases hx with
            | @ptr _ _ p hp =>
              refine .mk (v' := .pointer (some ⟨p.blk, p.sh + (off + m * sz), none⟩)) (fun w => ?_) (.ptr hp)
              unfold Instr.indexAt
              simp only [asIntOf, Sem.run_bind, run_underlying hu, Result.andThen_ok, Instr.sureAddr, Sem.run_pure, run_szA hz, Sem.run_ite, h1, h2, and_self, if_true, add_mk, h3, Nat.add_assoc]
          · cases h
        · cases h
    · rename_i e hu
      split at h
      · cases h
      · rename_i sz hz
        split at h
        · rename_i n off len esz
          split at h
          · rename_i m hm
            rcases beq_cases sz esz with ⟨he, hbe⟩ | ⟨he, hbe⟩ <;> rw [hbe] at h <;> simp only [cond_true, cond_false, Option.some.injEq] at h
            · subst h; subst he
              obtain ⟨h1, h2, h3, h4⟩ := idx_ok hm
              cases hx with
              | @slice _ _ _ _ p o cap hp ho hc hs =>
                have ho' : o = p.sh + off := by
                  rcases ho with h0 | h0
                  · omega
                  · exact h0
                subst ho'
                refine .mk (v' := .pointer (some ⟨p.blk, p.sh + (off + m * sz), none⟩)) (fun w => ?_) (.ptr hp)
                unfold Instr.indexAt
                simp only [asIntOf, Sem.run_bind, run_underlying hu, Result.andThen_ok, Sem.run_pure, run_szA hz, Sem.run_ite, h1, h2, and_self, if_true, add_mk, h3, Nat.add_assoc]
            · cases h
          · cases h
        · cases h
    · cases h

/-! ### parts of values -/
def fieldA (P : Program) (t : TypeId) (x : AVal) (k : Nat) : Option AVal :=
  match P.underlying t with
  | some (.struct fs) => match fs[k]? with
    | some f => match x with
      | .agg cs => partA P f.type cs f.offset
      | _ => none
    | none => none
  | _ => none
theorem fieldA_ok {P : Program} {t : TypeId} {x v : AVal} {k : Nat} (h : fieldA P t x k = some v) {σ : Sig} {x' : Value} (hx : VR σ x x') : OkV P σ v (Instr.field t x' k) := by
  unfold fieldA at h
  split at h
  · rename_i fs hu
    split at h
    · rename_i f hf
      split at h
      · obtain ⟨cs', rfl, hl⟩ := hx.agg_inv
        intro w
        obtain ⟨v', h1, h2⟩ := partA_ok h hl w
        exact ⟨v', by unfold Instr.field; simp only [Sem.run_bind, run_underlying hu, Result.andThen_ok, hf, asAgg, Sem.run_pure, h1], h2⟩
      · cases h
    · cases h
  · cases h

def indexA (P : Program) (t : TypeId) (x i : AVal) : Option AVal :=
  match toI i with
  | none => none
  | some i => match P.underlying t with
    | some (.array len e) => match szA P e with
      | none => none
      | some sz => match x with
        | .agg cs => match idx i len with
          | some m => partA P e cs (m * sz)
          | none => none
        | _ => none
    | some .string => match x with
      | .str s => match idx i s.length with
        | some m => match s[m]? with
          | some b => some (.u8 b)
          | none => none
        | none => none
      | _ => none
    | _ => none
theorem getElem?_mk (l : List UInt8) (i : Nat) : (ByteArray.mk l.toArray)[i]? = l[i]? := by
  by_cases h : i < l.length
  · have h' : i < (ByteArray.mk l.toArray).size := by rw [size_mk]; exact h
    rw [getElem?_pos _ i h', List.getElem?_eq_getElem h]
    rfl
  · have h' : ¬ i < (ByteArray.mk l.toArray).size := by rw [size_mk]; exact h
    rw [getElem?_neg _ i h', List.getElem?_eq_none (by omega)]
theorem indexA_ok {P : Program} {t : TypeId} {x i v : AVal} (h : indexA P t x i = some v) {σ : Sig} {x' i' : Value} (hx : VR σ x x') (hi : VR σ i i') : OkV P σ v (Instr.index t x' i') := by
  unfold indexA at h
  split at h
  · cases h
  · rename_i i0 hI
    obtain ⟨k, rfl⟩ := toI_ok hI hi
    split at h
    · rename_i len e hu
      split at h
      · cases h
      · rename_i sz hz
        split at h
        · split at h
          · rename_i m hm
            obtain ⟨h1, h2, h3, h4⟩ := idx_ok hm
            obtain ⟨cs', rfl, hl⟩ := hx.agg_inv
            intro w
            obtain ⟨v', g1, g2⟩ := partA_ok h hl w
            exact ⟨v', by unfold Instr.index; simp only [asIntOf, Sem.run_bind, Sem.run_pure, run_underlying hu, Result.andThen_ok, Sem.run_ite, h1, h2, and_self, if_true, run_szA hz, h3, g1], g2⟩
          · cases h
        · cases h
    · rename_i hu
      split at h
      · rename_i s
        split at h
        · rename_i m hm
          obtain ⟨h1, h2, h3, h4⟩ := idx_ok hm
          split at h
          · rename_i b hb
            cases h; cases hx
            refine .mk (v' := .int .u8 b.toNat) (fun w => ?_) (.u8 _)
            unfold Instr.index
            simp only [asIntOf, Sem.run_bind, Sem.run_pure, run_underlying hu, Result.andThen_ok, h1, if_true, getElem?_mk, h3, hb]
          · cases h
        · cases h
      · cases h
    · cases h

def extractA (x : AVal) (k : Nat) : Option AVal :=
  match x with
  | .tup vs => vs[k]?
  | _ => none
theorem extractA_ok {P : Program} {x v : AVal} {k : Nat} (h : extractA x k = some v) {σ : Sig} {x' : Value} (hx : VR σ x x') : OkV P σ v (Instr.extract x' k) := by
  unfold extractA at h
  split at h
  · cases hx with
    | tup hs hv =>
      obtain ⟨v', h1, h2⟩ := LR.get ⟨hs, hv⟩ h
      exact .mk (v' := v') (fun w => by simp [Instr.extract, h1]) h2
  · cases h

/-! ### building -/
def cellsA : AVal → List AVal
  | .agg cs => cs
  | v => [v]
theorem cellsA_ok {σ : Sig} {v : AVal} {v' : Value} (h : VR σ v v') : LR σ (cellsA v) v'.cells := by
  have one : ∀ {v v'}, VR σ v v' → LR σ [v] #[v'] := fun hv => LR.cons (l' := []) hv (LR.nil σ)
  cases h with
  | agg hs h => exact ⟨hs, h⟩
  | bool b => exact one (.bool b)
  | u8 x => exact one (.u8 x)
  | u32 x => exact one (.u32 x)
  | u64 x => exact one (.u64 x)
  | b64 b => exact one (.b64 b)
  | int k n => exact one (.int k n)
  | str l => exact one (.str l)
  | nilPtr => exact one .nilPtr
  | ptr hp => exact one (.ptr hp)
  | nilSlice => exact one .nilSlice
  | slice hp ho hc hs => exact one (.slice hp ho hc hs)
  | nilMap => exact one .nilMap
  | map hp => exact one (.map hp)
  | nilFunc => exact one .nilFunc
  | fn hs h => exact one (.fn hs h)
  | nilIface => exact one .nilIface
  | iface h => exact one (.iface h)
  | tup hs h => exact one (.tup hs h)

/-- Cells laid over a row from a place on. -/
def putA (cs : List AVal) (off : Nat) (vs : List AVal) : List AVal := cs.take off ++ vs ++ cs.drop (off + vs.length)
theorem foldset (off : Nat) : ∀ (l : List Value) (k : Nat) (m : Array Value), (∀ (i : Nat), (((l.zipIdx k).foldl (fun cs (c, j) => cs.setIfInBounds (off + j) c) m)[i]?) = if off + k ≤ i ∧ i < off + k + l.length ∧ i < m.size then l[i - (off + k)]? else m[i]?) ∧
    ((l.zipIdx k).foldl (fun cs (c, j) => cs.setIfInBounds (off + j) c) m).size = m.size := by
  intro l
  induction l with
  | nil => intro k m; exact ⟨fun i => by simp; intro h1 h2; omega, rfl⟩
  | cons x l ih =>
    intro k m
    simp only [List.zipIdx_cons, List.foldl_cons]
    obtain ⟨i1, i2⟩ := ih (k + 1) (m.setIfInBounds (off + k) x)
    refine ⟨fun i => ?_, by rw [i2]; simp⟩
    rw [i1]
    simp only [Array.size_setIfInBounds, List.length_cons, Array.getElem?_setIfInBounds]
    by_cases h1 : off + (k + 1) ≤ i ∧ i < off + (k + 1) + l.length ∧ i < m.size
    · rw [if_pos h1, if_pos (by omega)]
      have : i - (off + k) = (i - (off + (k + 1))) + 1 := by omega
      rw [this, List.getElem?_cons_succ]
    · rw [if_neg h1]
      by_cases h2 : off + k = i
      · subst h2
        by_cases h3 : off + k < m.size
        · rw [if_pos rfl, if_pos h3, if_pos (by omega)]; simp
        · rw [if_pos rfl, if_neg h3, if_neg (by omega)]
          rw [Array.getElem?_eq_none (by omega)]
      · rw [if_neg h2, if_neg (by omega)]
theorem putA_ok {σ : Sig} {cs vs : List AVal} {cs' vs' : Array Value} (hc : LR σ cs cs') (hv : LR σ vs vs') {off : Nat} (hb : off + vs.length ≤ cs.length) :
    LR σ (putA cs off vs) (vs'.zipIdx.foldl (fun cs (c, j) => cs.setIfInBounds (off + j) c) cs') := by
  have key := foldset off
  have hl : vs'.zipIdx.foldl (fun cs (c, j) => cs.setIfInBounds (off + j) c) cs' = (vs'.toList.zipIdx 0).foldl (fun cs (c, j) => cs.setIfInBounds (off + j) c) cs' := by
    rw [← Array.foldl_toList]; simp
  rw [hl]
  obtain ⟨k1, k2⟩ := key vs'.toList 0 cs'
  refine ⟨by rw [k2]; simp [putA, ← hc.1]; omega, fun i v v' g1 g2 => ?_⟩
  rw [k1] at g2
  have e1 : vs'.toList.length = vs.length := by simp [hv.1]
  rw [e1] at g2
  unfold putA at g1
  by_cases h1 : i < off
  · rw [if_neg (by omega)] at g2
    rw [List.append_assoc, List.getElem?_append_left (by simp; omega), List.getElem?_take, if_pos h1] at g1
    exact hc.2 i v v' g1 g2
  · by_cases h2 : i < off + vs.length
    · rw [if_pos (by have := hc.1; omega)] at g2
      rw [List.append_assoc, List.getElem?_append_right (by simp; omega)] at g1
      have : (List.take off cs).length = off := by simp; omega
      rw [this, List.getElem?_append_left (by omega)] at g1
      exact hv.2 (i - off) v v' g1 (by simpa using g2)
    · rw [if_neg (by omega)] at g2
      rw [List.getElem?_append_right (by simp; omega)] at g1
      have : (List.take off cs ++ vs).length = off + vs.length := by simp; omega
      rw [this, List.getElem?_drop] at g1
      have e : off + vs.length + (i - (off + vs.length)) = i := by omega
      rw [e] at g1
      exact hc.2 i v v' g1 g2

def fillA (place : Nat → Option (Nat × Nat)) (cells : List AVal) : List (Nat × AVal) → Option (List AVal)
  | [] => some cells
  | (i, v) :: rest =>
    match place i with
    | none => none
    | some (off, size) => match cellsA v with
      | vs => cond (Nat.beq vs.length size && Nat.ble (off + vs.length) cells.length) (fillA place (putA cells off vs) rest) none
def PairsVR (σ : Sig) : List (Nat × AVal) → List (Nat × Value) → Prop
  | [], [] => True
  | (i, v) :: l, (j, v') :: l' => i = j ∧ VR σ v v' ∧ PairsVR σ l l'
  | _, _ => False
theorem fillA_ok {place : Nat → Option (Nat × Nat)} {σ : Sig} : ∀ {ps : List (Nat × AVal)} {ps' : List (Nat × Value)} {cells r : List AVal} {cells' : Array Value}, fillA place cells ps = some r → PairsVR σ ps ps' → LR σ cells cells' →
    ∃ r', Instr.fill place cells' ps' = some r' ∧ LR σ r r' := by
  intro ps
  induction ps with
  | nil =>
    intro ps' cells r cells' h hp hc
    cases ps' with
    | nil => simp only [fillA, Option.some.injEq] at h; subst h; exact ⟨cells', rfl, hc⟩
    | cons x l => exact hp.elim
  | cons x l ih =>
    intro ps' cells r cells' h hp hc
    obtain ⟨i, v⟩ := x
    cases ps' with
    | nil => exact hp.elim
    | cons y l' =>
      obtain ⟨j, v'⟩ := y
      obtain ⟨rfl, hv, hl⟩ := hp
      simp only [fillA] at h
      split at h
      · cases h
      · rename_i off size hpl
        have hcv := cellsA_ok hv
        cases hb : (Nat.beq (cellsA v).length size && Nat.ble (off + (cellsA v).length) cells.length) <;> rw [hb] at h <;> simp only [cond_true, cond_false] at h
        · cases h
        · simp only [Bool.and_eq_true] at hb
          have hb1 := Nat.eq_of_beq_eq_true hb.1
          have hb2 := Nat.le_of_ble_eq_true hb.2
          obtain ⟨r', h1, h2⟩ := ih h hl (putA_ok hc hcv hb2)
          refine ⟨r', ?_, h2⟩
          simp only [Instr.fill, hpl]
          rw [if_neg]
          · exact h1
          · have := hcv.1; have := hc.1
            simp only [ne_eq, Bool.or_eq_true, decide_eq_true_eq, not_or, Decidable.not_not]
            omega

def zeroA (P : Program) (t : TypeId) : Option AVal :=
  match P.info? t with
  | some i => match i.zero with
    | some z => cval z
    | none => none
  | none => none
theorem zeroA_ok {P : Program} {t : TypeId} {v : AVal} (h : zeroA P t = some v) (σ : Sig) : OkV P σ v (zeroValue t) := by
  unfold zeroA at h
  split at h
  · rename_i i hi
    split at h
    · rename_i z hz
      exact .mk (v' := z) (fun w => by simp [zeroValue, run_info hi, hz]) (cval_ok h σ)
    · cases h
  · cases h

def placesA (P : Program) : List Field → Option (List (Nat × Nat))
  | [] => some []
  | f :: fs => match szA P f.type, placesA P fs with
    | some sz, some l => some ((f.offset, sz) :: l)
    | _, _ => none
theorem run_placesA {P : Program} : ∀ {fs : List Field} {l : List (Nat × Nat)}, placesA P fs = some l → ∀ w, (fs.mapM (m := Sem) fun f => do pure (f.offset, ← sizeOf f.type)).run P w = .ok l w := by
  intro fs
  induction fs with
  | nil => intro l h w; simp only [placesA, Option.some.injEq] at h; subst h; simp
  | cons f fs ih =>
    intro l h w
    simp only [placesA] at h
    split at h
    · rename_i sz l' h1 h2
      cases h
      simp only [List.mapM_cons, Sem.run_bind, run_szA h1, Result.andThen_ok, Sem.run_pure, ih h2]
    · cases h

def buildA (P : Program) (t : TypeId) (ps : List (Nat × AVal)) : Option AVal :=
  match zeroA P t with
  | none => none
  | some z => match P.underlying t with
    | some (.struct fs) => match placesA P fs.toList with
      | none => none
      | some pl => match fillA (fun i => pl[i]?) (cellsA z) ps with
        | some cs => some (.agg cs)
        | none => none
    | some (.array _ e) => match szA P e with
      | none => none
      | some sz => match fillA (fun i => some (i * sz, sz)) (cellsA z) ps with
        | some cs => some (.agg cs)
        | none => none
    | _ => none
theorem buildA_ok {P : Program} {t : TypeId} {ps : List (Nat × AVal)} {v : AVal} (h : buildA P t ps = some v) {σ : Sig} {ps' : Array (Nat × Value)} (hp : PairsVR σ ps ps'.toList) : OkV P σ v (Instr.build t ps') := by
  unfold buildA at h
  split at h
  · cases h
  · rename_i z hz
    split at h
    · rename_i fs hu
      split at h
      · cases h
      · rename_i pl hpl
        split at h
        · rename_i cs hf
          cases h
          intro w
          obtain ⟨z', hz1, hz2⟩ := zeroA_ok hz σ w
          obtain ⟨r', h1, h2⟩ := fillA_ok hf hp (cellsA_ok hz2)
          refine ⟨.agg r', ?_, .agg h2.1 h2.2⟩
          unfold Instr.build
          have hm : (fs.mapM (m := Sem) fun f => do pure (f.offset, ← sizeOf f.type)).run P w = .ok pl.toArray w := by
            rw [Array.mapM_eq_mapM_toList]
            simp only [Sem.run_map, run_placesA hpl, Result.andThen_ok]
          simp only [Sem.run_bind, hz1, Result.andThen_ok, run_underlying hu]
          rw [hm]
          simp only [Result.andThen_ok]
          have h1' : Instr.fill (fun x => pl.toArray[x]?) z'.cells ps'.toList = some r' := by simpa using h1
          rw [h1']
          rfl
        · cases h
    · rename_i len e hu
      split at h
      · cases h
      · rename_i sz hsz
        split at h
        · rename_i cs hf
          cases h
          intro w
          obtain ⟨z', hz1, hz2⟩ := zeroA_ok hz σ w
          obtain ⟨r', h1, h2⟩ := fillA_ok hf hp (cellsA_ok hz2)
          refine ⟨.agg r', ?_, .agg h2.1 h2.2⟩
          unfold Instr.build
          simp only [Sem.run_bind, hz1, Result.andThen_ok, run_underlying hu, run_szA hsz]
          rw [h1]
          rfl
        · cases h
    · cases h
end Go.Eng
