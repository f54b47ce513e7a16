/- Engine, part 3: the operations that touch no memory. -/
import Derived.Test.YtkgbpnihbamceaaEng2
namespace Go.Eng
set_option linter.unusedVariables false
set_option linter.unusedSimpArgs false
open Go

/-! ### operands -/
def cint (k : IntKind) (n : Int) : Option AVal :=
  match k with
  | .u8 => cond (decide (0 ≤ n) && decide (n < 256)) (some (.u8 (UInt8.ofNat n.toNat))) none
  | .u32 => cond (decide (0 ≤ n) && decide (n < 4294967296)) (some (.u32 (UInt32.ofNat n.toNat))) none
  | .u64 => cond (decide (0 ≤ n) && decide (n < 18446744073709551616)) (some (.u64 (UInt64.ofNat n.toNat))) none
  | k => some (.int k n)
theorem cint_ok {k : IntKind} {n : Int} {v : AVal} (h : cint k n = some v) (σ : Sig) : VR σ v (.int k n) := by
  cases k <;> simp only [cint] at h
  case u8 =>
    cases hb : (decide (0 ≤ n) && decide (n < 256)) <;> rw [hb] at h <;> simp at h
    simp at hb
    subst h
    have e : n = ((UInt8.ofNat n.toNat).toNat : Int) := by simp; omega
    exact Eq.subst (motive := fun m => VR σ (.u8 (UInt8.ofNat n.toNat)) (.int .u8 m)) e.symm (.u8 _)
  case u32 =>
    cases hb : (decide (0 ≤ n) && decide (n < 4294967296)) <;> rw [hb] at h <;> simp at h
    simp at hb
    subst h
    have e : n = ((UInt32.ofNat n.toNat).toNat : Int) := by simp; omega
    exact Eq.subst (motive := fun m => VR σ (.u32 (UInt32.ofNat n.toNat)) (.int .u32 m)) e.symm (.u32 _)
  case u64 =>
    cases hb : (decide (0 ≤ n) && decide (n < 18446744073709551616)) <;> rw [hb] at h <;> simp at h
    simp at hb
    subst h
    have e : n = ((UInt64.ofNat n.toNat).toNat : Int) := by simp; omega
    exact Eq.subst (motive := fun m => VR σ (.u64 (UInt64.ofNat n.toNat)) (.int .u64 m)) e.symm (.u64 _)
  all_goals (simp at h; subst h; exact .int _ _)

def cscal : Value → Option AVal
  | .bool b => some (.bool b)
  | .int k n => cint k n
  | .string s => some (.str s.data.toList)
  | .pointer none => some .nilPtr
  | .slice none 0 0 => some .nilSlice
  | .map none => some .nilMap
  | .nilFunc => some .nilFunc
  | .nilIface => some .nilIface
  | _ => none
theorem cscal_ok {x : Value} {v : AVal} (h : cscal x = some v) (σ : Sig) : VR σ v x := by
  unfold cscal at h
  have hs : ∀ s : ByteArray, VR σ (.str s.data.toList) (.string s) := fun s => by
    have := VR.str (σ := σ) s.data.toList
    simpa using this
  split at h <;> first | (cases h; constructor; done) | exact cint_ok h σ | (cases h; exact hs _) | (cases h; done)
def clist : List Value → Option (List AVal)
  | [] => some []
  | x :: l => match cscal x, clist l with
    | some v, some vs => some (v :: vs)
    | _, _ => none
theorem clist_ok {l : List Value} : ∀ {vs : List AVal}, clist l = some vs → ∀ σ, LR σ vs l.toArray := by
  induction l with
  | nil => intro vs h σ; simp [clist] at h; subst h; exact LR.nil σ
  | cons x l ih =>
    intro vs h σ
    simp only [clist] at h
    cases h1 : cscal x <;> cases h2 : clist l <;> rw [h1, h2] at h <;> simp at h
    subst h
    exact LR.cons (cscal_ok h1 σ) (ih h2 σ)
def cval : Value → Option AVal
  | .agg cs => match clist cs.toList with
    | some l => some (.agg l)
    | none => none
  | .tuple cs => match clist cs.toList with
    | some l => some (.tup l)
    | none => none
  | v => cscal v
theorem cval_ok {x : Value} {v : AVal} (h : cval x = some v) (σ : Sig) : VR σ v x := by
  unfold cval at h
  split at h
  · rename_i cs
    split at h
    · rename_i l hl
      cases h
      have := clist_ok hl σ
      exact .agg (by simpa using this.1) (fun i u u' a b => this.2 i u u' a (by simpa using b))
    · cases h
  · rename_i cs
    split at h
    · rename_i l hl
      cases h
      have := clist_ok hl σ
      exact .tup (by simpa using this.1) (fun i u u' a b => this.2 i u u' a (by simpa using b))
    · cases h
  · exact cscal_ok h σ

def GRel (P : Program) (σ : Sig) : Prop := ∀ g, g < P.globals.size → ∃ sz, σ g = some ⟨g, 0, sz⟩
theorem GRel.mono {P : Program} {σ σ' : Sig} (h : GRel P σ) (hl : Sig.le σ σ') : GRel P σ' := fun g hg => by
  obtain ⟨sz, hs⟩ := h g hg
  exact ⟨sz, hl _ _ hs⟩

def opd (P : Program) (T : Tmps) : Operand → Option AVal
  | .tmp t => T t
  | .const v => cval v
  | .global g => cond (Nat.ble (g + 1) P.globals.size) (some (.ptr g 0)) none
  | .func f => some (.fn f [])
theorem opd_ok {P : Program} {T : Tmps} {x : Operand} {v : AVal} (h : opd P T x = some v) {σ : Sig} {a : Act} (ht : TRel σ T a) (hg : GRel P σ) : VR σ v (a.eval x) := by
  cases x with
  | tmp t =>
    obtain ⟨v', h1, h2⟩ := ht t v h
    simp only [Act.eval, Array.getD_eq_getD_getElem?, h1, Option.getD_some]
    exact h2
  | const c => exact cval_ok h σ
  | global g =>
    simp only [opd] at h
    cases hb : Nat.ble (g + 1) P.globals.size <;> rw [hb] at h <;> simp at h
    subst h
    obtain ⟨sz, hs⟩ := hg g (by rw [Nat.ble_eq] at hb; omega)
    have := VR.ptr (off := 0) hs
    simpa [Act.eval] using this
  | func f =>
    simp only [opd, Option.some.injEq] at h
    subst h
    exact .fn rfl (fun i v v' h => by simp at h)

/-- A computation that hands back a value and leaves the world alone. -/
def OkV (P : Program) (σ : Sig) (v : AVal) (s : Sem Value) : Prop := ∀ w, ∃ v', s.run P w = .ok v' w ∧ VR σ v v'
theorem OkV.mk {P : Program} {σ : Sig} {v : AVal} {s : Sem Value} {v' : Value} (h : ∀ w, s.run P w = .ok v' w) (hv : VR σ v v') : OkV P σ v s := fun w => ⟨v', h w, hv⟩


def bin_u8 (op : BinOp) (x y : UInt8) : Option AVal :=
  match op with
  | .add => some (.u8 (x + y))
  | .sub => some (.u8 (x - y))
  | .mul => some (.u8 (x * y))
  | .quo => cond (y == 0) none (some (.u8 (x / y)))
  | .rem => cond (y == 0) none (some (.u8 (x % y)))
  | .and => some (.u8 (x &&& y))
  | .or => some (.u8 (x ||| y))
  | .xor => some (.u8 (x ^^^ y))
  | .andNot => some (.u8 (x &&& ~~~y))
  | .eql => some (.bool (x == y))
  | .neq => some (.bool (x != y))
  | .lss => some (.bool (decide (x < y)))
  | .leq => some (.bool (decide (x ≤ y)))
  | .gtr => some (.bool (decide (y < x)))
  | .geq => some (.bool (decide (y ≤ x)))
  | _ => none
theorem bin_u8_ok {P : Program} {op : BinOp} {t : TypeId} {x y : UInt8} {v : AVal} (h : bin_u8 op x y = some v) (σ : Sig) :
    OkV P σ v (binOp op t (.int .u8 x.toNat) (.int .u8 y.toNat)) := by
  cases op <;> simp only [bin_u8, Option.some.injEq] at h
  case add => subst h; exact .mk (v' := .int .u8 (x + y).toNat) (fun w => by simp [binOp, Op.intArith, add_u8]) (.u8 _)
  case sub => subst h; exact .mk (v' := .int .u8 (x - y).toNat) (fun w => by simp only [binOp, Op.intArith, sub_u8]; rfl) (.u8 _)
  case mul => subst h; exact .mk (v' := .int .u8 (x * y).toNat) (fun w => by simp only [binOp, Op.intArith, mul_u8]; rfl) (.u8 _)
  case quo =>
    cases hy : (y == 0) <;> rw [hy] at h <;> simp at h
    subst h
    have hy0 : ¬ ((y.toNat : Int) = 0) := fun e => by
      have : y = 0 := UInt8.toNat_inj.1 (by simpa using e)
      simp [this] at hy
    exact .mk (v' := .int .u8 (x / y).toNat) (fun w => by simp only [binOp, Op.intDiv, hy0, if_false, quo_u8]; rfl) (.u8 _)
  case rem =>
    cases hy : (y == 0) <;> rw [hy] at h <;> simp at h
    subst h
    have hy0 : ¬ ((y.toNat : Int) = 0) := fun e => by
      have : y = 0 := UInt8.toNat_inj.1 (by simpa using e)
      simp [this] at hy
    exact .mk (v' := .int .u8 (x % y).toNat) (fun w => by simp only [binOp, Op.intDiv, hy0, if_false, rem_u8]; rfl) (.u8 _)
  case and => subst h; exact .mk (v' := .int .u8 (x &&& y).toNat) (fun w => by simp only [binOp, Op.intBits, IntKind.bits, ofInt_u8, bits_u8]; rfl) (.u8 _)
  case or => subst h; exact .mk (v' := .int .u8 (x ||| y).toNat) (fun w => by simp only [binOp, Op.intBits, IntKind.bits, ofInt_u8, bits_u8]; rfl) (.u8 _)
  case xor => subst h; exact .mk (v' := .int .u8 (x ^^^ y).toNat) (fun w => by simp only [binOp, Op.intBits, IntKind.bits, ofInt_u8, bits_u8]; rfl) (.u8 _)
  case andNot => subst h; exact .mk (v' := .int .u8 (x &&& ~~~y).toNat) (fun w => by simp only [binOp, Op.intBits, IntKind.bits, ofInt_u8, bits_u8]; rfl) (.u8 _)
  case eql => subst h; exact .mk (v' := .bool (x == y)) (fun w => by simp only [binOp, Op.intCmp, beq_u8]; rfl) (.bool _)
  case neq => subst h; exact .mk (v' := .bool (x != y)) (fun w => by simp only [binOp, Op.intCmp, bne, beq_u8]; rfl) (.bool _)
  case lss => subst h; exact .mk (v' := .bool (decide (x < y))) (fun w => by simp only [binOp, Op.intCmp, lss_u8]; rfl) (.bool _)
  case leq => subst h; exact .mk (v' := .bool (decide (x ≤ y))) (fun w => by simp only [binOp, Op.intCmp, leq_u8]; rfl) (.bool _)
  case gtr => subst h; exact .mk (v' := .bool (decide (y < x))) (fun w => by simp only [binOp, Op.intCmp, GT.gt, lss_u8]; rfl) (.bool _)
  case geq => subst h; exact .mk (v' := .bool (decide (y ≤ x))) (fun w => by simp only [binOp, Op.intCmp, GE.ge, leq_u8]; rfl) (.bool _)
  all_goals cases h


def bin_u32 (op : BinOp) (x y : UInt32) : Option AVal :=
  match op with
  | .add => some (.u32 (x + y))
  | .sub => some (.u32 (x - y))
  | .mul => some (.u32 (x * y))
  | .quo => cond (y == 0) none (some (.u32 (x / y)))
  | .rem => cond (y == 0) none (some (.u32 (x % y)))
  | .and => some (.u32 (x &&& y))
  | .or => some (.u32 (x ||| y))
  | .xor => some (.u32 (x ^^^ y))
  | .andNot => some (.u32 (x &&& ~~~y))
  | .eql => some (.bool (x == y))
  | .neq => some (.bool (x != y))
  | .lss => some (.bool (decide (x < y)))
  | .leq => some (.bool (decide (x ≤ y)))
  | .gtr => some (.bool (decide (y < x)))
  | .geq => some (.bool (decide (y ≤ x)))
  | _ => none
theorem bin_u32_ok {P : Program} {op : BinOp} {t : TypeId} {x y : UInt32} {v : AVal} (h : bin_u32 op x y = some v) (σ : Sig) :
    OkV P σ v (binOp op t (.int .u32 x.toNat) (.int .u32 y.toNat)) := by
  cases op <;> simp only [bin_u32, Option.some.injEq] at h
  case add => subst h; exact .mk (v' := .int .u32 (x + y).toNat) (fun w => by simp [binOp, Op.intArith, add_u32]) (.u32 _)
  case sub => subst h; exact .mk (v' := .int .u32 (x - y).toNat) (fun w => by simp only [binOp, Op.intArith, sub_u32]; rfl) (.u32 _)
  case mul => subst h; exact .mk (v' := .int .u32 (x * y).toNat) (fun w => by simp only [binOp, Op.intArith, mul_u32]; rfl) (.u32 _)
  case quo =>
    cases hy : (y == 0) <;> rw [hy] at h <;> simp at h
    subst h
    have hy0 : ¬ ((y.toNat : Int) = 0) := fun e => by
      have : y = 0 := UInt32.toNat_inj.1 (by simpa using e)
      simp [this] at hy
    exact .mk (v' := .int .u32 (x / y).toNat) (fun w => by simp only [binOp, Op.intDiv, hy0, if_false, quo_u32]; rfl) (.u32 _)
  case rem =>
    cases hy : (y == 0) <;> rw [hy] at h <;> simp at h
    subst h
    have hy0 : ¬ ((y.toNat : Int) = 0) := fun e => by
      have : y = 0 := UInt32.toNat_inj.1 (by simpa using e)
      simp [this] at hy
    exact .mk (v' := .int .u32 (x % y).toNat) (fun w => by simp only [binOp, Op.intDiv, hy0, if_false, rem_u32]; rfl) (.u32 _)
  case and => subst h; exact .mk (v' := .int .u32 (x &&& y).toNat) (fun w => by simp only [binOp, Op.intBits, IntKind.bits, ofInt_u32, bits_u32]; rfl) (.u32 _)
  case or => subst h; exact .mk (v' := .int .u32 (x ||| y).toNat) (fun w => by simp only [binOp, Op.intBits, IntKind.bits, ofInt_u32, bits_u32]; rfl) (.u32 _)
  case xor => subst h; exact .mk (v' := .int .u32 (x ^^^ y).toNat) (fun w => by simp only [binOp, Op.intBits, IntKind.bits, ofInt_u32, bits_u32]; rfl) (.u32 _)
  case andNot => subst h; exact .mk (v' := .int .u32 (x &&& ~~~y).toNat) (fun w => by simp only [binOp, Op.intBits, IntKind.bits, ofInt_u32, bits_u32]; rfl) (.u32 _)
  case eql => subst h; exact .mk (v' := .bool (x == y)) (fun w => by simp only [binOp, Op.intCmp, beq_u32]; rfl) (.bool _)
  case neq => subst h; exact .mk (v' := .bool (x != y)) (fun w => by simp only [binOp, Op.intCmp, bne, beq_u32]; rfl) (.bool _)
  case lss => subst h; exact .mk (v' := .bool (decide (x < y))) (fun w => by simp only [binOp, Op.intCmp, lss_u32]; rfl) (.bool _)
  case leq => subst h; exact .mk (v' := .bool (decide (x ≤ y))) (fun w => by simp only [binOp, Op.intCmp, leq_u32]; rfl) (.bool _)
  case gtr => subst h; exact .mk (v' := .bool (decide (y < x))) (fun w => by simp only [binOp, Op.intCmp, GT.gt, lss_u32]; rfl) (.bool _)
  case geq => subst h; exact .mk (v' := .bool (decide (y ≤ x))) (fun w => by simp only [binOp, Op.intCmp, GE.ge, leq_u32]; rfl) (.bool _)
  all_goals cases h


def bin_u64 (op : BinOp) (x y : UInt64) : Option AVal :=
  match op with
  | .add => some (.u64 (x + y))
  | .sub => some (.u64 (x - y))
  | .mul => some (.u64 (x * y))
  | .quo => cond (y == 0) none (some (.u64 (x / y)))
  | .rem => cond (y == 0) none (some (.u64 (x % y)))
  | .and => some (.u64 (x &&& y))
  | .or => some (.u64 (x ||| y))
  | .xor => some (.u64 (x ^^^ y))
  | .andNot => some (.u64 (x &&& ~~~y))
  | .eql => some (.bool (x == y))
  | .neq => some (.bool (x != y))
  | .lss => some (.bool (decide (x < y)))
  | .leq => some (.bool (decide (x ≤ y)))
  | .gtr => some (.bool (decide (y < x)))
  | .geq => some (.bool (decide (y ≤ x)))
  | _ => none
theorem bin_u64_ok {P : Program} {op : BinOp} {t : TypeId} {x y : UInt64} {v : AVal} (h : bin_u64 op x y = some v) (σ : Sig) :
    OkV P σ v (binOp op t (.int .u64 x.toNat) (.int .u64 y.toNat)) := by
  cases op <;> simp only [bin_u64, Option.some.injEq] at h
  case add => subst h; exact .mk (v' := .int .u64 (x + y).toNat) (fun w => by simp [binOp, Op.intArith, add_u64]) (.u64 _)
  case sub => subst h; exact .mk (v' := .int .u64 (x - y).toNat) (fun w => by simp only [binOp, Op.intArith, sub_u64]; rfl) (.u64 _)
  case mul => subst h; exact .mk (v' := .int .u64 (x * y).toNat) (fun w => by simp only [binOp, Op.intArith, mul_u64]; rfl) (.u64 _)
  case quo =>
    cases hy : (y == 0) <;> rw [hy] at h <;> simp at h
    subst h
    have hy0 : ¬ ((y.toNat : Int) = 0) := fun e => by
      have : y = 0 := UInt64.toNat_inj.1 (by simpa using e)
      simp [this] at hy
    exact .mk (v' := .int .u64 (x / y).toNat) (fun w => by simp only [binOp, Op.intDiv, hy0, if_false, quo_u64]; rfl) (.u64 _)
  case rem =>
    cases hy : (y == 0) <;> rw [hy] at h <;> simp at h
    subst h
    have hy0 : ¬ ((y.toNat : Int) = 0) := fun e => by
      have : y = 0 := UInt64.toNat_inj.1 (by simpa using e)
      simp [this] at hy
    exact .mk (v' := .int .u64 (x % y).toNat) (fun w => by simp only [binOp, Op.intDiv, hy0, if_false, rem_u64]; rfl) (.u64 _)
  case and => subst h; exact .mk (v' := .int .u64 (x &&& y).toNat) (fun w => by simp only [binOp, Op.intBits, IntKind.bits, ofInt_u64, bits_u64]; rfl) (.u64 _)
  case or => subst h; exact .mk (v' := .int .u64 (x ||| y).toNat) (fun w => by simp only [binOp, Op.intBits, IntKind.bits, ofInt_u64, bits_u64]; rfl) (.u64 _)
  case xor => subst h; exact .mk (v' := .int .u64 (x ^^^ y).toNat) (fun w => by simp only [binOp, Op.intBits, IntKind.bits, ofInt_u64, bits_u64]; rfl) (.u64 _)
  case andNot => subst h; exact .mk (v' := .int .u64 (x &&& ~~~y).toNat) (fun w => by simp only [binOp, Op.intBits, IntKind.bits, ofInt_u64, bits_u64]; rfl) (.u64 _)
  case eql => subst h; exact .mk (v' := .bool (x == y)) (fun w => by simp only [binOp, Op.intCmp, beq_u64]; rfl) (.bool _)
  case neq => subst h; exact .mk (v' := .bool (x != y)) (fun w => by simp only [binOp, Op.intCmp, bne, beq_u64]; rfl) (.bool _)
  case lss => subst h; exact .mk (v' := .bool (decide (x < y))) (fun w => by simp only [binOp, Op.intCmp, lss_u64]; rfl) (.bool _)
  case leq => subst h; exact .mk (v' := .bool (decide (x ≤ y))) (fun w => by simp only [binOp, Op.intCmp, leq_u64]; rfl) (.bool _)
  case gtr => subst h; exact .mk (v' := .bool (decide (y < x))) (fun w => by simp only [binOp, Op.intCmp, GT.gt, lss_u64]; rfl) (.bool _)
  case geq => subst h; exact .mk (v' := .bool (decide (y ≤ x))) (fun w => by simp only [binOp, Op.intCmp, GE.ge, leq_u64]; rfl) (.bool _)
  all_goals cases h


def bin_i (op : BinOp) (k : IntKind) (x y : Int) : Option AVal :=
  match op with
  | .add => some (.int k (k.wrap (x + y)))
  | .sub => some (.int k (k.wrap (x - y)))
  | .mul => some (.int k (k.wrap (x * y)))
  | .quo => cond (y == 0) none (some (.int k (k.wrap (x.tdiv y))))
  | .rem => cond (y == 0) none (some (.int k (x.tmod y)))
  | .and => some (.int k (k.wrap (BitVec.ofInt k.bits x &&& BitVec.ofInt k.bits y).toNat))
  | .or => some (.int k (k.wrap (BitVec.ofInt k.bits x ||| BitVec.ofInt k.bits y).toNat))
  | .xor => some (.int k (k.wrap (BitVec.ofInt k.bits x ^^^ BitVec.ofInt k.bits y).toNat))
  | .andNot => some (.int k (k.wrap (BitVec.ofInt k.bits x &&& ~~~BitVec.ofInt k.bits y).toNat))
  | .eql => some (.bool (x == y))
  | .neq => some (.bool (x != y))
  | .lss => some (.bool (decide (x < y)))
  | .leq => some (.bool (decide (x ≤ y)))
  | .gtr => some (.bool (decide (y < x)))
  | .geq => some (.bool (decide (y ≤ x)))
  | _ => none
theorem bin_i_ok {P : Program} {op : BinOp} {t : TypeId} {k : IntKind} {x y : Int} {v : AVal} (h : bin_i op k x y = some v) (σ : Sig) :
    OkV P σ v (binOp op t (.int k x) (.int k y)) := by
  cases op <;> simp only [bin_i, Option.some.injEq] at h
  case quo =>
    cases hy : (y == 0) <;> rw [hy] at h <;> simp at h
    subst h
    have hy0 : ¬ (y = 0) := by simpa using hy
    exact .mk (v' := .int k _) (fun w => by simp only [binOp, Op.intDiv, hy0, if_false, ne_eq, not_true]; rfl) (.int _ _)
  case rem =>
    cases hy : (y == 0) <;> rw [hy] at h <;> simp at h
    subst h
    have hy0 : ¬ (y = 0) := by simpa using hy
    exact .mk (v' := .int k _) (fun w => by simp only [binOp, Op.intDiv, hy0, if_false, ne_eq, not_true]; rfl) (.int _ _)
  case eql => subst h; exact .mk (v' := .bool _) (fun w => by simp only [binOp, Op.intCmp, ne_eq, not_true, if_false]; rfl) (.bool _)
  case neq => subst h; exact .mk (v' := .bool _) (fun w => by simp only [binOp, Op.intCmp, ne_eq, not_true, if_false]; rfl) (.bool _)
  case lss => subst h; exact .mk (v' := .bool _) (fun w => by simp only [binOp, Op.intCmp, ne_eq, not_true, if_false]; rfl) (.bool _)
  case leq => subst h; exact .mk (v' := .bool _) (fun w => by simp only [binOp, Op.intCmp, ne_eq, not_true, if_false]; rfl) (.bool _)
  case gtr => subst h; exact .mk (v' := .bool _) (fun w => by simp only [binOp, Op.intCmp, ne_eq, not_true, if_false]; rfl) (.bool _)
  case geq => subst h; exact .mk (v' := .bool _) (fun w => by simp only [binOp, Op.intCmp, ne_eq, not_true, if_false]; rfl) (.bool _)
  case shl => cases h
  case shr => cases h
  all_goals (subst h; exact .mk (v' := .int k _) (fun w => by simp only [binOp, Op.intArith, Op.intBits, ne_eq, not_true, if_false]; rfl) (.int _ _))

/-! ### strings -/
def bin_s (op : BinOp) (x y : List UInt8) : Option AVal :=
  match op with
  | .add => cond (Nat.ble (x.length + y.length) 9223372036854775807) (some (.str (x ++ y))) none
  | .eql => some (.bool (x == y))
  | .neq => some (.bool (!(x == y)))
  | .lss => some (.bool (Op.bytesLess x y))
  | .leq => some (.bool (Op.bytesLess x y || x == y))
  | .gtr => some (.bool (!(Op.bytesLess x y || x == y)))
  | .geq => some (.bool (!Op.bytesLess x y))
  | _ => none
theorem toList_mk (l : List UInt8) : (ByteArray.mk l.toArray).toList = l := by
  rw [ByteArray.toList_eq]
theorem append_mk (x y : List UInt8) : (ByteArray.mk x.toArray ++ ByteArray.mk y.toArray : ByteArray) = ⟨(x ++ y).toArray⟩ := by
  apply ByteArray.ext
  rw [ByteArray.data_append]
  simp
theorem bin_s_ok {P : Program} {op : BinOp} {t : TypeId} {x y : List UInt8} {v : AVal} (h : bin_s op x y = some v) (σ : Sig) :
    OkV P σ v (binOp op t (.string ⟨x.toArray⟩) (.string ⟨y.toArray⟩)) := by
  cases op <;> simp only [bin_s, Option.some.injEq] at h
  case add =>
    cases hb : Nat.ble (x.length + y.length) 9223372036854775807 <;> rw [hb] at h <;> simp at h
    subst h
    rw [Nat.ble_eq] at hb
    refine .mk (v' := .string ⟨(x ++ y).toArray⟩) (fun w => ?_) (.str _)
    have hx : (ByteArray.mk x.toArray).size = x.length := by simp [ByteArray.size]
    have hy : (ByteArray.mk y.toArray).size = y.length := by simp [ByteArray.size]
    simp only [binOp]
    rw [run_string_add_sum w _ _ (by rw [hx, hy]; exact hb), append_mk]
  case eql => subst h; exact .mk (v' := .bool _) (fun w => by simp only [binOp, Op.stringOp, toList_mk]; rfl) (.bool _)
  case neq => subst h; exact .mk (v' := .bool _) (fun w => by simp only [binOp, Op.stringOp, toList_mk]; rfl) (.bool _)
  case lss => subst h; exact .mk (v' := .bool _) (fun w => by simp only [binOp, Op.stringOp, toList_mk]; rfl) (.bool _)
  case leq => subst h; exact .mk (v' := .bool _) (fun w => by simp only [binOp, Op.stringOp, toList_mk]; rfl) (.bool _)
  case gtr => subst h; exact .mk (v' := .bool _) (fun w => by simp only [binOp, Op.stringOp, toList_mk]; rfl) (.bool _)
  case geq => subst h; exact .mk (v' := .bool _) (fun w => by simp only [binOp, Op.stringOp, toList_mk]; rfl) (.bool _)
  all_goals cases h
end Go.Eng

