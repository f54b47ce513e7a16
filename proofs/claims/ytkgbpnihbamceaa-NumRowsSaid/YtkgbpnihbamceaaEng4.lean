/- Engine, part 4: shifts, signs, conversions, equality, parts of structs and arrays. -/
import Derived.Test.YtkgbpnihbamceaaEng3
namespace Go.Eng
set_option linter.unusedVariables false
set_option linter.unusedSimpArgs false
open Go

/-! ### shifts -/
def cnt : AVal → Option Nat
  | .u8 x => some x.toNat
  | .u32 x => some x.toNat
  | .u64 x => some x.toNat
  | .int _ n => cond (decide (n < 0)) none (some n.toNat)
  | _ => none
theorem cnt_ok {y : AVal} {n : Nat} (h : cnt y = some n) {σ : Sig} {y' : Value} (hy : VR σ y y') : ∃ k m, y' = .int k m ∧ ¬ m < 0 ∧ m.toNat = n := by
  cases hy <;> simp only [cnt, Option.some.injEq] at h
  case u8 x => exact ⟨_, _, rfl, by omega, by omega⟩
  case u32 x => exact ⟨_, _, rfl, by omega, by omega⟩
  case u64 x => exact ⟨_, _, rfl, by omega, by omega⟩
  case int k m =>
    cases hb : decide (m < 0) <;> rw [hb] at h <;> simp at h
    exact ⟨_, _, rfl, by simpa using hb, h⟩
  all_goals cases h
def shlA (x y : AVal) : Option AVal :=
  match cnt y with
  | none => none
  | some n => match x with
    | .u8 a => some (.u8 (shl_u8 a n))
    | .u32 a => some (.u32 (shl_u32 a n))
    | .u64 a => some (.u64 (shl_u64 a n))
    | .int k a => some (.int k (k.wrap (a * 2 ^ min n k.bits)))
    | _ => none
def shrA (x y : AVal) : Option AVal :=
  match cnt y with
  | none => none
  | some n => match x with
    | .u8 a => some (.u8 (shr_u8 a n))
    | .u32 a => some (.u32 (shr_u32 a n))
    | .u64 a => some (.u64 (shr_u64 a n))
    | .int k a => some (.int k (a.fdiv (2 ^ min n k.bits)))
    | _ => none
theorem shlA_ok {P : Program} {t : TypeId} {x y v : AVal} (h : shlA x y = some v) {σ : Sig} {x' y' : Value} (hx : VR σ x x') (hy : VR σ y y') :
    OkV P σ v (binOp .shl t x' y') := by
  simp only [shlA] at h
  cases hc : cnt y with
  | none => rw [hc] at h; cases h
  | some n =>
    rw [hc] at h
    obtain ⟨k, m, rfl, hm, rfl⟩ := cnt_ok hc hy
    cases hx <;> simp only [Option.some.injEq] at h
    case u8 a => subst h; exact .mk (v' := .int .u8 _) (fun w => by simp only [binOp, Op.shift, hm, if_false, shl_u8_eq]; rfl) (.u8 _)
    case u32 a => subst h; exact .mk (v' := .int .u32 _) (fun w => by simp only [binOp, Op.shift, hm, if_false, shl_u32_eq]; rfl) (.u32 _)
    case u64 a => subst h; exact .mk (v' := .int .u64 _) (fun w => by simp only [binOp, Op.shift, hm, if_false, shl_u64_eq]; rfl) (.u64 _)
    case int k a => subst h; exact .mk (v' := .int k _) (fun w => by simp only [binOp, Op.shift, hm, if_false]; rfl) (.int _ _)
    all_goals cases h
theorem shrA_ok {P : Program} {t : TypeId} {x y v : AVal} (h : shrA x y = some v) {σ : Sig} {x' y' : Value} (hx : VR σ x x') (hy : VR σ y y') :
    OkV P σ v (binOp .shr t x' y') := by
  simp only [shrA] at h
  cases hc : cnt y with
  | none => rw [hc] at h; cases h
  | some n =>
    rw [hc] at h
    obtain ⟨k, m, rfl, hm, rfl⟩ := cnt_ok hc hy
    cases hx <;> simp only [Option.some.injEq] at h
    case u8 a => subst h; exact .mk (v' := .int .u8 _) (fun w => by simp only [binOp, Op.shift, hm, if_false, shr_u8_eq]; rfl) (.u8 _)
    case u32 a => subst h; exact .mk (v' := .int .u32 _) (fun w => by simp only [binOp, Op.shift, hm, if_false, shr_u32_eq]; rfl) (.u32 _)
    case u64 a => subst h; exact .mk (v' := .int .u64 _) (fun w => by simp only [binOp, Op.shift, hm, if_false, shr_u64_eq]; rfl) (.u64 _)
    case int k a => subst h; exact .mk (v' := .int k _) (fun w => by simp only [binOp, Op.shift, hm, if_false]; rfl) (.int _ _)
    all_goals cases h

/-! ### one operand -/
def unA (op : UnOp) (x : AVal) : Option AVal :=
  match op, x with
  | .not, .bool b => some (.bool !b)
  | .neg, .u8 a => some (.u8 (0 - a))
  | .neg, .u32 a => some (.u32 (0 - a))
  | .neg, .u64 a => some (.u64 (0 - a))
  | .neg, .int k a => some (.int k (k.wrap (0 - a)))
  | .xor, .u8 a => some (.u8 (~~~a))
  | .xor, .u32 a => some (.u32 (~~~a))
  | .xor, .u64 a => some (.u64 (~~~a))
  | _, _ => none
theorem comp_u8 (x : UInt8) : BitVec.ofInt 8 (IntKind.max .u8) ^^^ x.toBitVec = (~~~x).toBitVec := by
  have e : BitVec.ofInt 8 (IntKind.max .u8) = BitVec.allOnes 8 := by decide
  rw [e, BitVec.allOnes_xor]; rfl
theorem comp_u32 (x : UInt32) : BitVec.ofInt 32 (IntKind.max .u32) ^^^ x.toBitVec = (~~~x).toBitVec := by
  have e : BitVec.ofInt 32 (IntKind.max .u32) = BitVec.allOnes 32 := by decide
  rw [e, BitVec.allOnes_xor]; rfl
theorem comp_u64 (x : UInt64) : BitVec.ofInt 64 (IntKind.max .u64) ^^^ x.toBitVec = (~~~x).toBitVec := by
  have e : BitVec.ofInt 64 (IntKind.max .u64) = BitVec.allOnes 64 := by decide
  rw [e, BitVec.allOnes_xor]; rfl
theorem unA_ok {P : Program} {op : UnOp} {x v : AVal} (h : unA op x = some v) {σ : Sig} {x' : Value} (hx : VR σ x x') : OkV P σ v (Op.unary op x') := by
  cases op <;> cases hx <;> simp only [unA, Option.some.injEq] at h <;> try (cases h; done)
  case not.bool b => subst h; exact .mk (v' := .bool _) (fun w => rfl) (.bool _)
  case neg.int k a => subst h; exact .mk (v' := .int k _) (fun w => rfl) (.int _ _)
  case neg.u8 a =>
    subst h
    refine .mk (v' := .int .u8 (0 - a).toNat) (fun w => ?_) (.u8 _)
    have e := sub_u8 0 a
    simp only [Op.unary, Op.intArith]
    rw [← e]; rfl
  case neg.u32 a =>
    subst h
    refine .mk (v' := .int .u32 (0 - a).toNat) (fun w => ?_) (.u32 _)
    have e := sub_u32 0 a
    simp only [Op.unary, Op.intArith]
    rw [← e]; rfl
  case neg.u64 a =>
    subst h
    refine .mk (v' := .int .u64 (0 - a).toNat) (fun w => ?_) (.u64 _)
    have e := sub_u64 0 a
    simp only [Op.unary, Op.intArith]
    rw [← e]; rfl
  case xor.u8 a =>
    subst h
    refine .mk (v' := .int .u8 (~~~a).toNat) (fun w => ?_) (.u8 _)
    have hs : IntKind.signed .u8 = false := rfl
    simp only [Op.unary, Op.intBits, hs, Bool.false_eq_true, if_false]
    have h2 : BitVec.ofInt (IntKind.bits .u8) (IntKind.max .u8) ^^^ BitVec.ofInt (IntKind.bits .u8) (a.toNat : Int) = (~~~a).toBitVec := by
      show BitVec.ofInt 8 (IntKind.max .u8) ^^^ BitVec.ofInt 8 (a.toNat : Int) = _
      rw [ofInt_u8, comp_u8]
    rw [h2]
    exact congrArg (fun n => Result.ok (Value.int .u8 n) w) (bits_u8 (~~~a).toBitVec)
  case xor.u32 a =>
    subst h
    refine .mk (v' := .int .u32 (~~~a).toNat) (fun w => ?_) (.u32 _)
    have hs : IntKind.signed .u32 = false := rfl
    simp only [Op.unary, Op.intBits, hs, Bool.false_eq_true, if_false]
    have h2 : BitVec.ofInt (IntKind.bits .u32) (IntKind.max .u32) ^^^ BitVec.ofInt (IntKind.bits .u32) (a.toNat : Int) = (~~~a).toBitVec := by
      show BitVec.ofInt 32 (IntKind.max .u32) ^^^ BitVec.ofInt 32 (a.toNat : Int) = _
      rw [ofInt_u32, comp_u32]
    rw [h2]
    exact congrArg (fun n => Result.ok (Value.int .u32 n) w) (bits_u32 (~~~a).toBitVec)
  case xor.u64 a =>
    subst h
    refine .mk (v' := .int .u64 (~~~a).toNat) (fun w => ?_) (.u64 _)
    have hs : IntKind.signed .u64 = false := rfl
    simp only [Op.unary, Op.intBits, hs, Bool.false_eq_true, if_false]
    have h2 : BitVec.ofInt (IntKind.bits .u64) (IntKind.max .u64) ^^^ BitVec.ofInt (IntKind.bits .u64) (a.toNat : Int) = (~~~a).toBitVec := by
      show BitVec.ofInt 64 (IntKind.max .u64) ^^^ BitVec.ofInt 64 (a.toNat : Int) = _
      rw [ofInt_u64, comp_u64]
    rw [h2]
    exact congrArg (fun n => Result.ok (Value.int .u64 n) w) (bits_u64 (~~~a).toBitVec)

/-! ### conversions -/
def cvI (k : IntKind) (x : AVal) : Option AVal :=
  match x with
  | .u8 a => match k with
    | .u8 => some (.u8 a)
    | .u32 => some (.u32 a.toUInt32)
    | .u64 => some (.u64 a.toUInt64)
    | .i64 => some (.int .i64 a.toNat)
    | k => some (.int k (k.wrap a.toNat))
  | .u32 a => match k with
    | .u8 => some (.u8 a.toUInt8)
    | .u32 => some (.u32 a)
    | .u64 => some (.u64 a.toUInt64)
    | .i64 => some (.int .i64 a.toNat)
    | k => some (.int k (k.wrap a.toNat))
  | .u64 a => match k with
    | .u8 => some (.u8 a.toUInt8)
    | .u32 => some (.u32 a.toUInt32)
    | .u64 => some (.u64 a)
    | k => some (.int k (k.wrap a.toNat))
  | .int _ n => match k with
    | .u8 => some (.u8 (UInt8.ofInt n))
    | .u32 => some (.u32 (UInt32.ofInt n))
    | .u64 => some (.u64 (UInt64.ofInt n))
    | k => some (.int k (k.wrap n))
  | _ => none
theorem cvI_ok {k : IntKind} {x v : AVal} (h : cvI k x = some v) {σ : Sig} {x' : Value} (hx : VR σ x x') : ∃ q n, x' = .int q n ∧ VR σ v (.int k (k.wrap n)) := by
  cases hx <;> simp only [cvI] at h
  case u8 a =>
    refine ⟨_, _, rfl, ?_⟩
    cases k <;> simp only [Option.some.injEq] at h <;> subst h <;> (try rw [cv_u8_u8]) <;> (try rw [cv_u8_u32]) <;> (try rw [cv_u8_u64]) <;> (try rw [cv_u8_i64]) <;> constructor
  case u32 a =>
    refine ⟨_, _, rfl, ?_⟩
    cases k <;> simp only [Option.some.injEq] at h <;> subst h <;> (try rw [cv_u32_u8]) <;> (try rw [cv_u32_u32]) <;> (try rw [cv_u32_u64]) <;> (try rw [cv_u32_i64]) <;> constructor
  case u64 a =>
    refine ⟨_, _, rfl, ?_⟩
    cases k <;> simp only [Option.some.injEq] at h <;> subst h <;> (try rw [cv_u64_u8]) <;> (try rw [cv_u64_u32]) <;> (try rw [cv_u64_u64]) <;> constructor
  case int q n =>
    refine ⟨_, _, rfl, ?_⟩
    cases k <;> simp only [Option.some.injEq] at h <;> subst h <;> (try rw [cv_int_u8]) <;> (try rw [cv_int_u32]) <;> (try rw [cv_int_u64]) <;> constructor
  all_goals cases h
def convA (P : Program) (src dst : TypeId) (x : AVal) : Option AVal :=
  match P.underlying src with
  | none => none
  | some _ => match P.underlying dst with
    | some (.int k) => cvI k x
    | some .string => match x with
      | .str l => some (.str l)
      | _ => none
    | _ => none
theorem convA_ok {P : Program} {src dst : TypeId} {x v : AVal} (h : convA P src dst x = some v) {σ : Sig} {x' : Value} (hx : VR σ x x') : OkV P σ v (convert src dst x') := by
  simp only [convA] at h
  cases hs : P.underlying src with
  | none => rw [hs] at h; cases h
  | some ds =>
    rw [hs] at h
    cases hd : P.underlying dst with
    | none => rw [hd] at h; cases h
    | some dd =>
      rw [hd] at h
      cases dd <;> simp only at h <;> try (cases h; done)
      case int k =>
        obtain ⟨q, n, rfl, hv⟩ := cvI_ok h hx
        exact .mk (v' := .int k (k.wrap n)) (fun w => by simp [convert, run_underlying hs, run_underlying hd, Conv.intToInt]) hv
      case string =>
        cases hx <;> simp only [Option.some.injEq] at h <;> try (cases h; done)
        subst h
        exact .mk (v' := .string _) (fun w => by simp [convert, run_underlying hs, run_underlying hd]) (.str _)

/-! ### parts -/
def isAggA (P : Program) (t : TypeId) : Option Bool :=
  match P.underlying t with
  | some (.struct _) => some true
  | some (.array _ _) => some true
  | some _ => some false
  | none => none
def szA (P : Program) (t : TypeId) : Option Nat :=
  match P.info? t with
  | some i => some i.size
  | none => none
theorem run_isAggA {P : Program} {t : TypeId} {b : Bool} (h : isAggA P t = some b) (w : World) : (isAgg t).run P w = .ok b w := by
  simp only [isAggA] at h
  cases hu : P.underlying t with
  | none => rw [hu] at h; cases h
  | some d => rw [hu] at h; cases d <;> simp only [Option.some.injEq] at h <;> subst h <;> simp [isAgg, run_underlying hu]
theorem run_szA {P : Program} {t : TypeId} {n : Nat} (h : szA P t = some n) (w : World) : (sizeOf t).run P w = .ok n w := by
  simp only [szA] at h
  cases hi : P.info? t with
  | none => rw [hi] at h; cases h
  | some i => rw [hi] at h; cases h; simp [sizeOf, typeInfo, hi]
theorem run_info {P : Program} {t : TypeId} {i : TypeInfo} (h : P.info? t = some i) (w : World) : (typeInfo t).run P w = .ok i w := by simp [typeInfo, h]

/-- The part of a row of cells that a variable of type t takes up from 'off' on. -/
def partA (P : Program) (t : TypeId) (cs : List AVal) (off : Nat) : Option AVal :=
  match isAggA P t with
  | none => none
  | some false => cs[off]?
  | some true => match szA P t with
    | none => none
    | some n => some (.agg ((cs.drop off).take n))
theorem LR.sub {σ : Sig} {l : List AVal} {l' : Array Value} (h : LR σ l l') (off n : Nat) : LR σ ((l.drop off).take n) (l'.extract off (off + n)) := by
  refine ⟨by simp [h.1]; omega, fun i v v' h1 h2 => ?_⟩
  rw [List.getElem?_take] at h1
  split at h1
  · rw [List.getElem?_drop] at h1
    rw [Array.getElem?_extract] at h2
    split at h2
    · exact h.2 _ _ _ h1 h2
    · cases h2
  · cases h1
theorem partA_ok {P : Program} {t : TypeId} {cs : List AVal} {off : Nat} {v : AVal} (h : partA P t cs off = some v) {σ : Sig} {cs' : Array Value} (hl : LR σ cs cs') : OkV P σ v (part t cs' off) := by
  simp only [partA] at h
  cases ha : isAggA P t with
  | none => rw [ha] at h; cases h
  | some b =>
    rw [ha] at h
    cases b <;> simp only at h
    · obtain ⟨v', h1, h2⟩ := hl.get h
      exact .mk (v' := v') (fun w => by simp [part, run_isAggA ha, h1]) h2
    · cases hz : szA P t with
      | none => rw [hz] at h; cases h
      | some n =>
        rw [hz] at h; cases h
        have := hl.sub off n
        exact .mk (v' := .agg (cs'.extract off (off + n))) (fun w => by simp [part, run_isAggA ha, run_szA hz]) (.agg this.1 this.2)

/-! ### equality of what is no number and no string by itself -/
def eqI : AVal → AVal → Option Bool
  | .u8 a, .u8 b => some (a == b)
  | .u32 a, .u32 b => some (a == b)
  | .u64 a, .u64 b => some (a == b)
  | .int k a, .int k' b => cond (decide (k = k')) (some (a == b)) none
  | _, _ => none
def eqFs (P : Program) (rec : TypeId → AVal → AVal → Option Bool) : List Field → List AVal → List AVal → Option Bool
  | [], _, _ => some true
  | f :: fs, xs, ys =>
    match decide (f.name = "_") with
    | true => eqFs P rec fs xs ys
    | false =>
      match partA P f.type xs f.offset, partA P f.type ys f.offset with
      | some a, some b => match rec f.type a b with
        | some r => match eqFs P rec fs xs ys with
          | some r' => some (r && r')
          | none => none
        | none => none
      | _, _ => none
def eqAs (P : Program) (rec : TypeId → AVal → AVal → Option Bool) (e : TypeId) (n : Nat) : Nat → List AVal → List AVal → Nat → Option Bool
  | 0, _, _, _ => some true
  | k + 1, xs, ys, i =>
    match partA P e xs (i * n), partA P e ys (i * n) with
    | some a, some b => match rec e a b with
      | some r => match eqAs P rec e n k xs ys (i + 1) with
        | some r' => some (r && r')
        | none => none
      | none => none
    | _, _ => none
def eqIn (P : Program) : Nat → TypeId → AVal → AVal → Option Bool
  | 0, _, _, _ => none
  | d + 1, t, x, y =>
    match P.underlying t with
    | some .bool => match x, y with
      | .bool a, .bool b => some (a == b)
      | _, _ => none
    | some (.int _) => eqI x y
    | some .string => match x, y with
      | .str a, .str b => some (a == b)
      | _, _ => none
    | some (.struct fs) => match x, y with
      | .agg xs, .agg ys => cond (P.stoodInHeld t) none (eqFs P (eqIn P d) fs.toList xs ys)
      | _, _ => none
    | some (.array len e) => match x, y with
      | .agg xs, .agg ys => match szA P e with
        | some n => eqAs P (eqIn P d) e n len xs ys 0
        | none => none
      | _, _ => none
    | some (.pointer _) => match x, y with
      | .nilPtr, .nilPtr => some true
      | .nilPtr, .ptr _ _ => some false
      | .ptr _ _, .nilPtr => some false
      | _, _ => none
    | some (.slice _) => match x, y with
      | .nilSlice, .nilSlice => some true
      | .nilSlice, .slice _ _ _ _ => some false
      | .slice _ _ _ _, .nilSlice => some false
      | _, _ => none
    | some (.map _ _) => match x, y with
      | .nilMap, .nilMap => some true
      | .nilMap, .map _ => some false
      | .map _, .nilMap => some false
      | _, _ => none
    | some (.func _ _ _) => match x, y with
      | .nilFunc, .nilFunc => some true
      | .nilFunc, .fn _ _ => some false
      | .fn _ _, .nilFunc => some false
      | _, _ => none
    | some (.interface _) => match x, y with
      | .nilIface, .nilIface => some true
      | .nilIface, .iface _ _ => some false
      | .iface _ _, .nilIface => some false
      | _, _ => none
    | _ => none

theorem run_equalIn_array {P : Program} {d : Nat} {t e : TypeId} {len n : Nat} (ht : P.underlying t = some (.array len e)) (hn : szA P e = some n) {xs ys : Array Value} {g : Nat → Bool}
    (hg : ∀ i, i < len → ∀ w, ∃ a b, (part e xs (i * n)).run P w = .ok a w ∧ (part e ys (i * n)).run P w = .ok b w ∧ (Op.equalIn d e a b).run P w = .ok (g i) w) (w : World) :
    (Op.equalIn (d + 1) t (.agg xs) (.agg ys)).run P w = .ok ((List.range len).all g) w := by
  simp only [Op.equalIn, Sem.run_bind, run_underlying ht, Result.andThen_ok, run_szA hn]
  rw [Std.Legacy.Range.forIn_eq_forIn_range']
  simp only [Std.Legacy.Range.size, Nat.sub_zero, Nat.add_sub_cancel, Nat.div_one]
  have key : ∀ (f : Nat → Option Bool × Unit → Sem (ForInStep (Option Bool × Unit))) (K : Option Bool × Unit → World → Result Bool), (∀ w, K (none, ()) w = .ok true w) → (∀ w, K (some false, ()) w = .ok false w) →
      (∀ i, i < len → ∀ s w, (f i s).run P w = .ok (if g i then .yield (none, ()) else .done (some false, ())) w) →
      ∀ (l : List Nat), (∀ i ∈ l, i < len) → ∀ w, ((forIn l ((none, ()) : Option Bool × Unit) f).run P w).andThen K = .ok (l.all g) w := by
    intro f K hk1 hk2 hf l
    induction l with
    | nil => intro _ w; simp [hk1]
    | cons i l ih =>
      intro hl w
      have hih := ih (fun j hj => hl j (by simp [hj])) w
      simp only [List.forIn_cons, Sem.run_bind, hf i (hl i (by simp)), Result.andThen_ok]
      cases hgi : g i
      · simp [hgi, hk2]
      · simp only [hgi, if_true, List.all_cons, Bool.true_and]
        exact hih
  rw [List.range_eq_range']
  refine key _ _ (fun w => rfl) (fun w => rfl) (fun i hi s w => ?_) (List.range' 0 len 1) (fun i hi => by simp at hi; omega) w
  obtain ⟨a, b, h1, h2, h3⟩ := hg i hi w
  simp only [Sem.run_bind, h1, h2, h3, Result.andThen_ok]
  cases g i <;> simp

theorem VR.agg_inv {σ : Sig} {xs : List AVal} {x' : Value} (h : VR σ (.agg xs) x') : ∃ xs', x' = .agg xs' ∧ LR σ xs xs' := by
  cases h with
  | agg hs h => exact ⟨_, rfl, hs, h⟩
theorem eqI_ok {P : Program} {d : Nat} {t : TypeId} {k : IntKind} {x y : AVal} {r : Bool} (ht : P.underlying t = some (.int k)) (h : eqI x y = some r) {σ : Sig} {x' y' : Value} (hx : VR σ x x') (hy : VR σ y y') (w : World) :
    (Op.equalIn (d + 1) t x' y').run P w = .ok r w := by
  unfold eqI at h
  split at h
  · cases hx; cases hy; cases h; simp only [Op.equalIn, Sem.run_bind, run_underlying ht, Result.andThen_ok, if_true, beq_u8]; rfl
  · cases hx; cases hy; cases h; simp only [Op.equalIn, Sem.run_bind, run_underlying ht, Result.andThen_ok, if_true, beq_u32]; rfl
  · cases hx; cases hy; cases h; simp only [Op.equalIn, Sem.run_bind, run_underlying ht, Result.andThen_ok, if_true, beq_u64]; rfl
  · rename_i k a k' b
    by_cases hk : k = k'
    · subst hk
      simp only [decide_true, cond_true, Option.some.injEq] at h
      cases hx; cases hy; subst h
      simp only [Op.equalIn, Sem.run_bind, run_underlying ht, Result.andThen_ok, if_true]; rfl
    · simp [hk] at h
  · cases h

def RecOk (P : Program) (d : Nat) (rec : TypeId → AVal → AVal → Option Bool) : Prop :=
  ∀ t x y r, rec t x y = some r → ∀ (σ : Sig) (x' y' : Value), VR σ x x' → VR σ y y' → ∀ w, (Op.equalIn d t x' y').run P w = .ok r w

theorem eqFs_ok {P : Program} {d : Nat} {rec : TypeId → AVal → AVal → Option Bool} (hrec : RecOk P d rec) {σ : Sig} {xs ys : List AVal} {xs' ys' : Array Value} (hx : LR σ xs xs') (hy : LR σ ys ys') (w : World) :
    ∀ (l : List Field) (r : Bool), eqFs P rec l xs ys = some r → (Op.eqFields d xs' ys' l).run P w = .ok r w
  | [], r, h => by simp only [eqFs, Option.some.injEq] at h; subst h; simp [Op.eqFields]
  | f :: l, r, h => by
    have ihl := eqFs_ok hrec hx hy w l
    simp only [eqFs] at h
    by_cases hn : f.name = "_"
    · simp only [hn, decide_true] at h
      simp only [Op.eqFields, ne_eq, hn, not_true, if_false]
      exact ihl r h
    · simp only [hn, decide_false] at h
      cases hpa : partA P f.type xs f.offset with
      | none => rw [hpa] at h; cases h
      | some a =>
        cases hpb : partA P f.type ys f.offset with
        | none => rw [hpa, hpb] at h; cases h
        | some b =>
          rw [hpa, hpb] at h
          simp only at h
          cases hr : rec f.type a b with
          | none => rw [hr] at h; cases h
          | some r1 =>
            rw [hr] at h
            simp only at h
            cases hr2 : eqFs P rec l xs ys with
            | none => rw [hr2] at h; cases h
            | some r2 =>
              rw [hr2] at h
              simp only [Option.some.injEq] at h
              subst h
              obtain ⟨a', ha1, ha2⟩ := partA_ok hpa hx w
              obtain ⟨b', hb1, hb2⟩ := partA_ok hpb hy w
              have h3 := hrec f.type a b r1 hr σ a' b' ha2 hb2 w
              simp only [Op.eqFields, ne_eq, hn, not_false_eq_true, if_true, Sem.run_bind, ha1, hb1, h3, Result.andThen_ok, Sem.run_ite]
              cases r1
              · simp
              · simp only [Bool.not_true, Bool.false_eq_true, if_false, Bool.true_and]
                exact ihl r2 hr2

theorem eqAs_ok {P : Program} {d : Nat} {rec : TypeId → AVal → AVal → Option Bool} (hrec : RecOk P d rec) {σ : Sig} {xs ys : List AVal} {xs' ys' : Array Value} (hx : LR σ xs xs') (hy : LR σ ys ys') (e : TypeId) (n : Nat) :
    ∀ (k i : Nat) (r : Bool), eqAs P rec e n k xs ys i = some r → ∃ g : Nat → Bool, (∀ j, j < k → ∀ w, ∃ a b, (part e xs' ((i + j) * n)).run P w = .ok a w ∧ (part e ys' ((i + j) * n)).run P w = .ok b w ∧ (Op.equalIn d e a b).run P w = .ok (g j) w) ∧ (List.range k).all g = r
  | 0, i, r, h => by simp only [eqAs, Option.some.injEq] at h; exact ⟨fun _ => true, fun j hj => by omega, by simpa using h⟩
  | k + 1, i, r, h => by
    have ihk := eqAs_ok hrec hx hy e n k
    simp only [eqAs] at h
    cases hpa : partA P e xs (i * n) with
    | none => rw [hpa] at h; cases h
    | some a =>
      cases hpb : partA P e ys (i * n) with
      | none => rw [hpa, hpb] at h; cases h
      | some b =>
        rw [hpa, hpb] at h
        simp only at h
        cases hr : rec e a b with
        | none => rw [hr] at h; cases h
        | some r1 =>
          rw [hr] at h
          simp only at h
          cases hr2 : eqAs P rec e n k xs ys (i + 1) with
          | none => rw [hr2] at h; cases h
          | some r2 =>
            rw [hr2] at h
            simp only [Option.some.injEq] at h
            obtain ⟨g, hg1, hg2⟩ := ihk (i + 1) r2 hr2
            refine ⟨fun j => match j with | 0 => r1 | j + 1 => g j, fun j hj w => ?_, ?_⟩
            · cases j with
              | zero =>
                obtain ⟨a', ha1, ha2⟩ := partA_ok hpa hx w
                obtain ⟨b', hb1, hb2⟩ := partA_ok hpb hy w
                exact ⟨a', b', by simpa using ha1, by simpa using hb1, hrec e a b r1 hr σ a' b' ha2 hb2 w⟩
              | succ j =>
                have := hg1 j (by omega) w
                simpa [Nat.add_assoc, Nat.add_comm 1 j] using this
            · rw [List.range_succ_eq_map]
              simp only [List.all_cons, List.all_map]
              rw [← h, ← hg2]
              rfl

theorem eqIn_ok (P : Program) : ∀ (d : Nat), RecOk P d (eqIn P d)
  | 0 => fun t x y r h => by cases h
  | d + 1 => fun t x y r h σ x' y' hx hy w => by
    have ih := eqIn_ok P d
    unfold eqIn at h
    split at h
    · rename_i hu
      split at h <;> cases h
      cases hx; cases hy
      simp [Op.equalIn, run_underlying hu]
    · rename_i hu
      exact eqI_ok hu h hx hy w
    · rename_i hu
      split at h <;> cases h
      cases hx; cases hy
      simp only [Op.equalIn, Sem.run_bind, run_underlying hu, Result.andThen_ok, beq_toListBytes, toList_mk]; rfl
    · rename_i fs hu
      split at h
      · obtain ⟨xs', rfl, hlx⟩ := hx.agg_inv
        obtain ⟨ys', rfl, hly⟩ := hy.agg_inv
        cases hp : P.stoodInHeld t <;> rw [hp] at h
        · have hf : P.fieldsOf t = fs := by simp [Program.fieldsOf, hu]
          rw [run_equalIn_struct w d t xs' ys' (by rw [hf]; exact hu) hp, hf]
          exact eqFs_ok ih hlx hly w _ _ h
        · cases h
      · cases h
    · rename_i len e hu
      split at h
      · obtain ⟨xs', rfl, hlx⟩ := hx.agg_inv
        obtain ⟨ys', rfl, hly⟩ := hy.agg_inv
        split at h
        · rename_i n hz
          obtain ⟨g, hg1, hg2⟩ := eqAs_ok ih hlx hly e n len 0 r h
          rw [← hg2]
          exact run_equalIn_array hu hz (fun i hi w => by simpa using hg1 i hi w) w
        · cases h
      · cases h
    · rename_i hu
      split at h <;> cases h <;> cases hx <;> cases hy <;> simp [Op.equalIn, run_underlying hu]
    · rename_i hu
      split at h <;> cases h <;> cases hx <;> cases hy <;> simp [Op.equalIn, run_underlying hu]
    · rename_i hu
      split at h <;> cases h <;> cases hx <;> cases hy <;> simp [Op.equalIn, run_underlying hu]
    · rename_i hu
      split at h <;> cases h <;> cases hx <;> cases hy <;> simp [Op.equalIn, run_underlying hu]
    · rename_i hu
      split at h <;> cases h <;> cases hx <;> cases hy <;> simp [Op.equalIn, run_underlying hu]
    · cases h
end Go.Eng
