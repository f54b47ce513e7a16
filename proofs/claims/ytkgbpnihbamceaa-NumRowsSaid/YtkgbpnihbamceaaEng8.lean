/- Engine, part 8: any operation: what it does, and that it does so. -/
import Derived.Test.YtkgbpnihbamceaaEng21
namespace Go.Eng
set_option linter.unusedVariables false
set_option linter.unusedSimpArgs false
open Go

/-! ### operators -/
def isOther : AVal → Bool
  | .bool _ => true
  | .nilPtr => true
  | .ptr _ _ => true
  | .nilSlice => true
  | .slice _ _ _ _ => true
  | .nilMap => true
  | .map _ => true
  | .nilFunc => true
  | .fn _ _ => true
  | .iface _ _ => true
  | .agg _ => true
  | _ => false
def isAgg2 : AVal → Bool
  | .agg _ => true
  | _ => false
def eqB (P : Program) (t : TypeId) (x y : AVal) : Option Bool :=
  cond (isOther x) (cond (isAgg2 x && P.eqGuardType P.depth t) none (eqIn P Op.maxDepth t x y)) none
def binA (P : Program) (op : BinOp) (t : TypeId) (x y : AVal) : Option AVal :=
  match op with
  | .shl => shlA x y
  | .shr => shrA x y
  | op => match x, y with
    | .u8 a, .u8 b => bin_u8 op a b
    | .u32 a, .u32 b => bin_u32 op a b
    | .u64 a, .u64 b => bin_u64 op a b
    | .int k a, .int k' b => cond (decide (k = k')) (bin_i op k a b) none
    | .str a, .str b => bin_s op a b
    | x, y => match op with
      | .eql => match eqB P t x y with
        | some r => some (.bool r)
        | none => none
      | .neq => match eqB P t x y with
        | some r => some (.bool !r)
        | none => none
      | _ => none
theorem binOp_other {op : BinOp} (hop : op = .eql ∨ op = .neq) {t : TypeId} {σ : Sig} {x : AVal} {x' : Value} (hx : VR σ x x') (h : isOther x = true) (y' : Value) :
    binOp op t x' y' = (do let r ← Op.equal t x' y'; pure (.bool (if op = .eql then r else !r))) := by
  rcases hop with rfl | rfl <;> cases hx <;> first | (cases h; done) | (cases y' <;> rfl)
theorem eqGuard_other {P : Program} {op : BinOp} {t : TypeId} {xo yo : Operand} {σ : Sig} {x : AVal} {x' : Value} (hx : VR σ x x') (h : isOther x = true) (hg : (isAgg2 x && P.eqGuardType P.depth t) = false) (y' : Value) (w : World) :
    (eqGuard op t xo yo x' y').run P w = .ok () w := by
  by_cases hop : (op matches .eql | .neq) = true
  · cases hx <;> first | (cases h; done) | skip
    case agg cs cs' hs hc =>
      simp only [isAgg2, Bool.true_and] at hg
      cases y' <;> first | (exact run_eqGuard_agg w op t xo yo _ _ hg) | (cases op <;> first | rfl | simp at hop)
    all_goals (cases y' <;> cases op <;> first | rfl | simp at hop)
  · cases op <;> first | rfl | simp at hop
theorem eqGuard_num {P : Program} {op : BinOp} {t : TypeId} {xo yo : Operand} {σ : Sig} {x : AVal} {x' y' : Value} (hx : VR σ x x') (h : isOther x = false) (h2 : x ≠ .nilIface) (w : World) :
    (eqGuard op t xo yo x' y').run P w = .ok () w := by
  cases hx <;> first | (cases h; done) | (exact absurd rfl h2) | skip
  all_goals (cases op <;> rfl)
theorem binA_ok {P : Program} {op : BinOp} {t : TypeId} {xo yo : Operand} {x y v : AVal} (h : binA P op t x y = some v) {σ : Sig} {x' y' : Value} (hx : VR σ x x') (hy : VR σ y y') :
    OkV P σ v (do eqGuard op t xo yo x' y'; binOp op t x' y') := by
  have shift : ∀ {s : Sem Value}, (op = .shl ∨ op = .shr) → OkV P σ v s → OkV P σ v (do eqGuard op t xo yo x' y'; s) := fun {s} hop hs w => by
    obtain ⟨v', h1, h2⟩ := hs w
    refine ⟨v', ?_, h2⟩
    have : (eqGuard op t xo yo x' y').run P w = .ok () w := by rcases hop with rfl | rfl <;> rfl
    simp only [Sem.run_bind, this, Result.andThen_ok, h1]
  have num : ∀ {s : Sem Value}, isOther x = false → x ≠ .nilIface → OkV P σ v s → OkV P σ v (do eqGuard op t xo yo x' y'; s) := fun {s} h1 h2 hs w => by
    obtain ⟨v', g1, g2⟩ := hs w
    refine ⟨v', ?_, g2⟩
    simp only [Sem.run_bind, eqGuard_num hx h1 h2 w, Result.andThen_ok, g1]
  unfold binA at h
  split at h
  · exact shift (.inl rfl) (shlA_ok h hx hy)
  · exact shift (.inr rfl) (shrA_ok h hx hy)
  · rename_i hn1 hn2
    split at h
    · refine num rfl (by simp) ?_
      cases hx; cases hy; exact bin_u8_ok h σ
    · refine num rfl (by simp) ?_
      cases hx; cases hy; exact bin_u32_ok h σ
    · refine num rfl (by simp) ?_
      cases hx; cases hy; exact bin_u64_ok h σ
    · rename_i k a k' b
      refine num rfl (by simp) ?_
      by_cases hk : k = k'
      · subst hk
        simp only [decide_true, cond_true] at h
        cases hx; cases hy; exact bin_i_ok h σ
      · simp [hk] at h
    · refine num rfl (by simp) ?_
      cases hx; cases hy; exact bin_s_ok h σ
    · have eqCase : ∀ r, eqB P t x y = some r → isOther x = true ∧ (isAgg2 x && P.eqGuardType P.depth t) = false ∧ ∀ w, (Op.equal t x' y').run P w = .ok r w := fun r hr => by
        unfold eqB at hr
        cases ho : isOther x <;> rw [ho] at hr <;> simp only [cond_true, cond_false] at hr
        · cases hr
        · cases hg : (isAgg2 x && P.eqGuardType P.depth t) <;> rw [hg] at hr <;> simp only [cond_true, cond_false] at hr
          · exact ⟨rfl, rfl, fun w => eqIn_ok P _ t x y r hr σ x' y' hx hy w⟩
          · cases hr
      split at h
      · split at h
        · rename_i r hr
          cases h
          obtain ⟨h1, h2, h3⟩ := eqCase r hr
          refine .mk (v' := .bool r) (fun w => ?_) (.bool r)
          rw [binOp_other (.inl rfl) hx h1]
          simp only [Sem.run_bind, eqGuard_other hx h1 h2, Result.andThen_ok, h3, Sem.run_pure, if_true]
        · cases h
      · split at h
        · rename_i r hr
          cases h
          obtain ⟨h1, h2, h3⟩ := eqCase r hr
          refine .mk (v' := .bool !r) (fun w => ?_) (.bool _)
          rw [binOp_other (.inr rfl) hx h1]
          simp only [Sem.run_bind, eqGuard_other hx h1 h2, Result.andThen_ok, h3, Sem.run_pure]
          rfl
        · cases h
      · cases h

/-! ### operands of an operation -/
def evL (ρ : Operand → Option AVal) : List Operand → Option (List AVal)
  | [] => some []
  | x :: l => match ρ x, evL ρ l with
    | some v, some vs => some (v :: vs)
    | _, _ => none
def evP (ρ : Operand → Option AVal) : List (Nat × Operand) → Option (List (Nat × AVal))
  | [] => some []
  | (i, x) :: l => match ρ x, evP ρ l with
    | some v, some vs => some ((i, v) :: vs)
    | _, _ => none
def evO (ρ : Operand → Option AVal) : Option Operand → Option (Option AVal)
  | none => some none
  | some x => match ρ x with
    | some v => some (some v)
    | none => none
def Env (σ : Sig) (ρ : Operand → Option AVal) (ρ' : Operand → Value) : Prop := ∀ x v, ρ x = some v → VR σ v (ρ' x)
theorem evL_ok {σ : Sig} {ρ : Operand → Option AVal} {ρ' : Operand → Value} (hρ : Env σ ρ ρ') : ∀ {l : List Operand} {vs : List AVal}, evL ρ l = some vs → LR σ vs (l.map ρ').toArray := by
  intro l
  induction l with
  | nil => intro vs h; simp only [evL, Option.some.injEq] at h; subst h; exact LR.nil σ
  | cons x l ih =>
    intro vs h
    simp only [evL] at h
    split at h
    · rename_i v vs' h1 h2
      cases h
      exact LR.cons (hρ x v h1) (ih h2)
    · cases h
theorem evP_ok {σ : Sig} {ρ : Operand → Option AVal} {ρ' : Operand → Value} (hρ : Env σ ρ ρ') : ∀ {l : List (Nat × Operand)} {vs : List (Nat × AVal)}, evP ρ l = some vs → PairsVR σ vs (l.map fun (i, x) => (i, ρ' x)) := by
  intro l
  induction l with
  | nil => intro vs h; simp only [evP, Option.some.injEq] at h; subst h; trivial
  | cons x l ih =>
    intro vs h
    obtain ⟨i, x⟩ := x
    simp only [evP] at h
    split at h
    · rename_i v vs' h1 h2
      cases h
      exact ⟨rfl, hρ x v h1, ih h2⟩
    · cases h
theorem evO_ok {σ : Sig} {ρ : Operand → Option AVal} {ρ' : Operand → Value} (hρ : Env σ ρ ρ') {x : Option Operand} {v : Option AVal} (h : evO ρ x = some v) : OptVR σ v (x.map ρ') := by
  cases x with
  | none => simp only [evO, Option.some.injEq] at h; subst h; trivial
  | some x =>
    simp only [evO] at h
    split at h
    · rename_i u h1; cases h; exact hρ x u h1
    · cases h

/-! ### builtins -/
def lenA (P : Program) (t : TypeId) (x : AVal) : Option AVal :=
  match P.underlying t with
  | some .string => match x with
    | .str l => some (.int .i64 l.length)
    | _ => none
  | some (.array n _) => some (.int .i64 n)
  | some (.slice _) => match x with
    | .nilSlice => some (.int .i64 0)
    | .slice _ _ n _ => some (.int .i64 n)
    | _ => none
  | some (.pointer arr) => match P.underlying arr with
    | some (.array n _) => some (.int .i64 n)
    | _ => none
  | some (.map _ _) => match x with
    | .nilMap => some (.int .i64 0)
    | _ => none
  | _ => none
theorem lenA_ok {P : Program} {t : TypeId} {x v : AVal} (h : lenA P t x = some v) {σ : Sig} {x' : Value} (hx : VR σ x x') (ts : Array TypeId) (ht : ts[0]? = some t) (ty : TypeId) : OkV P σ v (Builtin.len_ ts ty #[x']) := by
  unfold lenA at h
  have h0 : (#[x'] : Array Value)[0]? = some x' := rfl
  split at h
  · rename_i hu
    split at h <;> cases h
    cases hx
    refine .mk (v' := .int .i64 _) (fun w => ?_) (.int _ _)
    simp only [Builtin.len_, ht, h0, Sem.run_bind, run_underlying hu, Result.andThen_ok, goInt, size_mk]; rfl
  · rename_i hu
    cases h
    refine .mk (v' := .int .i64 _) (fun w => ?_) (.int _ _)
    simp only [Builtin.len_, ht, h0, Sem.run_bind, run_underlying hu, Result.andThen_ok, goInt]; cases hx <;> rfl
  · rename_i hu
    split at h <;> cases h <;> cases hx
    · refine .mk (v' := .int .i64 _) (fun w => ?_) (.int _ _)
      simp only [Builtin.len_, ht, h0, Sem.run_bind, run_underlying hu, Result.andThen_ok, goInt]; rfl
    · refine .mk (v' := .int .i64 _) (fun w => ?_) (.int _ _)
      simp only [Builtin.len_, ht, h0, Sem.run_bind, run_underlying hu, Result.andThen_ok, goInt]; rfl
  · rename_i arr hu
    split at h <;> cases h
    rename_i hu2
    refine .mk (v' := .int .i64 _) (fun w => ?_) (.int _ _)
    simp only [Builtin.len_, ht, h0, Sem.run_bind, run_underlying hu, Result.andThen_ok, run_underlying hu2, goInt]; cases hx <;> rfl
  · rename_i hu
    split at h <;> cases h <;> cases hx
    refine .mk (v' := .int .i64 _) (fun w => ?_) (.int _ _)
    simp only [Builtin.len_, ht, h0, Sem.run_bind, run_underlying hu, Result.andThen_ok, goInt]; rfl
  · cases h
def minA (x y : AVal) : Option AVal :=
  match x, y with
  | .int k a, .int _ b => some (.int k (if b < a then b else a))
  | _, _ => none
theorem minA_ok {P : Program} {x y v : AVal} (h : minA x y = some v) {σ : Sig} {x' y' : Value} (hx : VR σ x x') (hy : VR σ y y') (ts : Array TypeId) (ty : TypeId) : OkV P σ v (Builtin.min_ ts ty #[x', y']) := by
  unfold minA at h
  split at h <;> cases h
  cases hx; cases hy
  exact .mk (v' := .int _ _) (fun w => by simp [Builtin.min_, Builtin.min2]) (.int _ _)

def builtinA (P : Program) (b : Builtin) (ts : Array TypeId) (args : List AVal) : Option AVal :=
  match b, args with
  | .len, [x] => match ts[0]? with
    | some t => lenA P t x
    | none => none
  | .min, [x, y] => minA x y
  | _, _ => none

/-! ### calls -/
abbrev CS := FuncId → List AVal → Option EffA
/-- A call does what is said of it. -/
def CallOk (P : Program) (f : FuncId) (args : List AVal) (e : EffA) : Prop :=
  ∀ (σ : Sig) (args' : Array Value) (H : List (Nat × AObj)) (w : World) (base : Nat) (v : AVal) (H' : List (Nat × AObj)), LR σ args args' → GRel P σ → HRel σ (aget H) w → e.app base H = some (v, H') → Free σ base →
    Calls P f args' w fun r w' => ∃ σ' v', r = .returned v' ∧ VR σ' v v' ∧ HRel σ' (aget H') w' ∧ Frm σ (aget H) w σ' (aget H') w' ∧ Only σ σ' base
def CSOk (P : Program) (cs : CS) : Prop := ∀ f args e, cs f args = some e → CallOk P f args e
def bodied (P : Program) (f : FuncId) : Bool :=
  match P.funcs[f]? with
  | some fn => fn.body.isSome && !(fn.name == "runtime.NumGoroutine")
  | none => false

/-! ### a carry as a number; what the model stands in for -/
def nrm : AVal → AVal
  | .b64 b => .u64 (cond b 1 0)
  | v => v
theorem nrm_ok {σ : Sig} {v : AVal} {v' : Value} (h : VR σ v v') : VR σ (nrm v) v' := by
  cases h with
  | b64 b => exact .u64 _
  | bool b => exact .bool b
  | u8 x => exact .u8 x
  | u32 x => exact .u32 x
  | u64 x => exact .u64 x
  | int k n => exact .int k n
  | str l => exact .str l
  | nilPtr => exact .nilPtr
  | ptr hp => exact .ptr hp
  | nilSlice => exact .nilSlice
  | slice hp ho hc hs => exact .slice hp ho hc hs
  | nilMap => exact .nilMap
  | map hp => exact .map hp
  | nilFunc => exact .nilFunc
  | fn hs h => exact .fn hs h
  | nilIface => exact .nilIface
  | iface h => exact .iface h
  | agg hs h => exact .agg hs h
  | tup hs h => exact .tup hs h
/-- Is there a carry out of a sum, a borrow out of a difference? -/
def cyO (x y : UInt64) (c : Bool) : Bool := Nat.ble 18446744073709551616 (x.toNat + y.toNat + (cond c (1 : UInt64) 0).toNat)
def boO (x y : UInt64) (c : Bool) : Bool := Nat.ble (x.toNat + 1) (y.toNat + (cond c (1 : UInt64) 0).toNat)
/-- A carry that comes in: a number of the text, or one of before. -/
def cinA : AVal → Option Bool
  | .b64 b => some b
  | .u64 c => cond (Nat.ble c.toNat 1) (some (Nat.beq c.toNat 1)) none
  | _ => none
def add64A (x y c : AVal) : Option AVal :=
  match nrm x, nrm y, cinA c with
  | .u64 x, .u64 y, some b => some (.tup [.u64 (x + y + cond b 1 0), .b64 (cyO x y b)])
  | _, _, _ => none
def sub64A (x y c : AVal) : Option AVal :=
  match nrm x, nrm y, cinA c with
  | .u64 x, .u64 y, some b => some (.tup [.u64 (x - y - cond b 1 0), .b64 (boO x y b)])
  | _, _, _ => none
def extA (P : Program) (f : FuncId) (args : List AVal) : Option AVal :=
  match P.funcs[f]? with
  | none => none
  | some fn => cond fn.body.isNone (cond (Extern.findNext fn).isNone (match args with
      | [x, y, c] => cond (fn.name == "math/bits.Add64") (add64A x y c) (cond (fn.name == "math/bits.Sub64") (sub64A x y c) none)
      | _ => none) none) none

/-! ### any operation -/
def ofV : Option AVal → Option EffA
  | some v => some (.pure v)
  | none => none
/-- A function of the language, with what it does. -/
def builtinE (P : Program) (b : Builtin) (ts : Array TypeId) (args : List AVal) : Option EffA :=
  match b, args with
  | .append, [s, x] => appendA P ts s x
  | .copy, [s, x] => copyA P ts s x
  | b, args => ofV (builtinA P b ts args)
theorem ofV_some {x : Option AVal} {e : EffA} (h : ofV x = some e) : ∃ v, x = some v ∧ e = .pure v := by
  cases x with
  | none => cases h
  | some v => cases h; exact ⟨v, rfl, rfl⟩
def orElse (x y : Option EffA) : Option EffA :=
  match x with
  | some e => some e
  | none => y
def effA (P : Program) (cs : CS) (ρ : Operand → Option AVal) (o : Oper) : Option EffA :=
  match o.op with
  | .move x => ofV (ρ x)
  | .assign x => ofV (ρ x)
  | .pick c a b => match ρ c, ρ a, ρ b with
    | some (.bool t), some x, some y => some (.pure (cond t x y))
    | _, _, _ => none
  | .alloc t => newA P t
  | .box _ x => match ρ x with
    | some v => some (boxA v)
    | none => none
  | .build t ps => match evP ρ ps.toList with
    | some vs => ofV (buildA P t vs)
    | none => none
  | .buildSlice t n ps => match evP ρ ps.toList with
    | some vs => buildSliceA P t n vs
    | none => none
  | .load t a => match ρ a with
    | some x => loadA P t x
    | none => none
  | .store t a x => match ρ a, ρ x with
    | some a, some x => storeA P t a x
    | _, _ => none
  | .nilCheck x => match ρ x with
    | some (.ptr n off) => some (.pure (.ptr n off))
    | some (.fn f c) => some (.pure (.fn f c))
    | _ => none
  | .binOp op t x y _ => match ρ x, ρ y with
    | some x, some y => ofV (binA P op t (nrm x) (nrm y))
    | _, _ => none
  | .unOp op _ x => match ρ x with
    | some x => ofV (unA op (nrm x))
    | none => none
  | .convert s d x => match ρ x with
    | some x => orElse (ofV (convA P s d (nrm x))) (orElse (bytesStrA P s d x) (strBytesA P s d x))
    | none => none
  | .makeInterface t x => match ρ x with
    | some x => match P.underlying t with
      | some (.interface _) => none
      | some _ => some (.pure (.iface t x))
      | none => none
    | none => none
  | .makeFunc fn first captured => match fn, first.toList, evL ρ captured.toList with
    | .func f, [], some vs => some (.pure (.fn f vs))
    | _, _, _ => none
  | .makeSlice t l c => match ρ l, ρ c with
    | some l, some c => makeSliceA P t l c
    | _, _ => none
  | .slice t x lo hi mx => match mx, ρ x, evO ρ lo, evO ρ hi with
    | none, some x, some lo, some hi => orElse (ofV (sliceA P t x lo hi)) (sliceArrA P t x lo hi)
    | _, _, _, _ => none
  | .fieldAddr t x k => match ρ x with
    | some x => ofV (fieldAddrA P t x k)
    | none => none
  | .field t x k => match ρ x with
    | some x => ofV (fieldA P t x k)
    | none => none
  | .indexAddr t x i => match ρ x, ρ i with
    | some x, some i => ofV (indexAddrA P t x i)
    | _, _ => none
  | .index t x i => match ρ x, ρ i with
    | some x, some i => ofV (indexA P t x i)
    | _, _ => none
  | .extract x k => match ρ x with
    | some x => ofV (extractA x k)
    | none => none
  | .call c => match evL ρ c.args.toList with
    | none => none
    | some args => match c.callee with
      | .builtin b => builtinE P b c.argTypes args
      | .value f => match ρ f with
        | some (.fn f cap) => cond (bodied P f) (cs f (args ++ cap)) (ofV (extA P f (args ++ cap)))
        | _ => none
      | .invoke _ _ => none
  | _ => none

/-- That an operation does so. -/
def EffOk (P : Program) (σ : Sig) (a : Act) (o : Oper) (e : EffA) : Prop :=
  ∀ (H : List (Nat × AObj)) (w : World) (base : Nat) (v : AVal) (H' : List (Nat × AObj)), HRel σ (aget H) w → e.app base H = some (v, H') → Free σ base →
    ∀ (K : Act → World → Prop) (Q : Exit → Act → World → Prop), (∀ σ' v' w', VR σ' v v' → HRel σ' (aget H') w' → Frm σ (aget H) w σ' (aget H') w' → Only σ σ' base → K (a.put o.dst v') w') → o.wp P a w K Q

theorem EffOk.of_value {P : Program} {σ : Sig} {a : Act} {o : Oper} {e : EffA} {s : Sem Value} (he : execOp a.eval o = do pure (.value (← s)))
    (h : ∀ (H : List (Nat × AObj)) (w : World) (base : Nat) (v : AVal) (H' : List (Nat × AObj)), HRel σ (aget H) w → e.app base H = some (v, H') → Free σ base →
      ∃ σ' v' w', s.run P w = .ok v' w' ∧ VR σ' v v' ∧ HRel σ' (aget H') w' ∧ Frm σ (aget H) w σ' (aget H') w' ∧ Only σ σ' base) : EffOk P σ a o e := by
  intro H w base v H' hr ha hf K Q hK
  obtain ⟨σ', v', w', h1, h2, h3, h4, h5⟩ := h H w base v H' hr ha hf
  unfold Oper.wp
  rw [he]
  simp only [Sem.run_bind, h1, Result.andThen_ok, Sem.run_pure, Oper.upon_value]
  exact hK σ' v' w' h2 h3 h4 h5
theorem EffOk.of_okv {P : Program} {σ : Sig} {a : Act} {o : Oper} {v : AVal} {s : Sem Value} (he : execOp a.eval o = do pure (.value (← s))) (h : OkV P σ v s) : EffOk P σ a o (.pure v) :=
  .of_value he fun H w base v' H' hr ha hf => by
    simp only [EffA.app, Option.some.injEq, Prod.mk.injEq] at ha
    obtain ⟨rfl, rfl⟩ := ha
    obtain ⟨u, h1, h2⟩ := h w
    exact ⟨σ, u, w, h1, h2, hr, Frm.refl _ _ _, Only.refl _ _⟩
theorem EffOk.of_read {P : Program} {σ : Sig} {a : Act} {o : Oper} {e : EffA} {s : Sem Value} (he : execOp a.eval o = do pure (.value (← s)))
    (h : ∀ (H H' : List (Nat × AObj)) (w : World) (base : Nat) (v : AVal), e.app base H = some (v, H') → HRel σ (aget H) w → H' = H ∧ ∃ v', s.run P w = .ok v' w ∧ VR σ v v') : EffOk P σ a o e :=
  .of_value he fun H w base v H' hr ha hf => by
    obtain ⟨rfl, v', h1, h2⟩ := h H H' w base v ha hr
    exact ⟨σ, v', w, h1, h2, hr, Frm.refl _ _ _, Only.refl _ _⟩
theorem orElse_cases {x y : Option EffA} {e : EffA} (h : orElse x y = some e) : x = some e ∨ y = some e := by
  unfold orElse at h
  split at h
  · exact .inl h
  · exact .inr h
end Go.Eng
