/- Engine, part 9: every operation does what is said of it. -/
import Derived.Test.YtkgbpnihbamceaaEng8
import Derived.Laws.Externs
namespace Go.Eng
set_option linter.unusedVariables false
set_option linter.unusedSimpArgs false
open Go

theorem bodied_ok {P : Program} {f : FuncId} (h : bodied P f = true) : ∃ fn, P.funcs[f]? = some fn ∧ fn.body.isNone = false ∧ (fn.name == "runtime.NumGoroutine") = false := by
  unfold bodied at h
  split at h
  · rename_i fn hf
    simp only [Bool.and_eq_true, Bool.not_eq_true'] at h
    refine ⟨fn, hf, ?_, h.2⟩
    cases hb : fn.body with
    | none => rw [hb] at h; cases h.1
    | some b => rfl
  · cases h

theorem LR.append {σ : Sig} {l m : List AVal} {l' m' : Array Value} (h : LR σ l l') (k : LR σ m m') : LR σ (l ++ m) (l' ++ m') := by
  refine ⟨by simp [h.1, k.1], fun i v v' h1 h2 => ?_⟩
  by_cases hi : i < l.length
  · rw [List.getElem?_append_left hi] at h1
    rw [Array.getElem?_append_left (by rw [← h.1]; exact hi)] at h2
    exact h.2 i v v' h1 h2
  · rw [List.getElem?_append_right (by omega)] at h1
    rw [Array.getElem?_append_right (by rw [← h.1]; omega)] at h2
    rw [← h.1] at h2
    exact k.2 _ v v' h1 h2

theorem LR.inv1 {σ : Sig} {x : AVal} {l' : Array Value} (h : LR σ [x] l') : ∃ x', l' = #[x'] ∧ VR σ x x' := by
  obtain ⟨l⟩ := l'
  have h1 : 1 = l.length := by simpa using h.1
  match l, h1 with
  | [a], _ => exact ⟨a, rfl, h.2 0 x a rfl rfl⟩
theorem LR.inv2 {σ : Sig} {x y : AVal} {l' : Array Value} (h : LR σ [x, y] l') : ∃ x' y', l' = #[x', y'] ∧ VR σ x x' ∧ VR σ y y' := by
  obtain ⟨l⟩ := l'
  have h1 : 2 = l.length := by simpa using h.1
  match l, h1 with
  | [a, b], _ => exact ⟨a, b, rfl, h.2 0 x a rfl rfl, h.2 1 y b rfl rfl⟩
/-- The model's entry for differences with a borrow. -/
def subEnt : Array Value → Sem Value := fun args => do
  let (x, y, b) ← Extern.MathBitsCarry.three "Sub64" args
  pure (Extern.MathBitsCarry.pair ((x + Extern.MathBitsCarry.m64 - y - b) % Extern.MathBitsCarry.m64) (if x < y + b then 1 else 0))
theorem run_subEnt {P : Program} (x y b : Nat) (hb : b ≤ 1) (w : World) :
    (subEnt #[.int .u64 x, .int .u64 y, .int .u64 b]).run P w =
      .ok (.tuple #[.int .u64 (((x + 18446744073709551616 - y - b) % 18446744073709551616 : Nat) : Int), .int .u64 ((if x < y + b then 1 else 0 : Nat) : Int)]) w := by
  have : b = 0 ∨ b = 1 := by omega
  rcases this with rfl | rfl <;> rfl
theorem run_addEnt {P : Program} (x y b : Nat) (hb : b ≤ 1) (w : World) :
    (add64Entry #[.int .u64 x, .int .u64 y, .int .u64 b]).run P w =
      .ok (.tuple #[.int .u64 (((x + y + b) % 18446744073709551616 : Nat) : Int), .int .u64 (((x + y + b) / 18446744073709551616 : Nat) : Int)]) w := by
  have : b = 0 ∨ b = 1 := by omega
  rcases this with rfl | rfl <;> rfl
theorem look_name {fn : Func} {n : String} {e : Array Value → Sem Value} (h : fn.name = n) (h1 : Extern.allGenericRows.lookup n = none) (h2 : Extern.allTypedRows.lookup n = none) (h3 : Extern.allRows.lookup n = some e) : Extern.find fn = some e := by
  unfold Extern.find
  simp only [h, h1, h2, h3]
  rfl
theorem cinA_ok {σ : Sig} {c : AVal} {b : Bool} {c' : Value} (h : cinA c = some b) (hc : VR σ c c') : c' = .int .u64 ((cond b (1 : UInt64) 0).toNat : Int) := by
  unfold cinA at h
  split at h
  · cases h; cases hc; rfl
  · rename_i x
    cases hb : Nat.ble x.toNat 1 <;> rw [hb] at h <;> simp only [cond_true, cond_false] at h
    · cases h
    · cases h
      have hle := Nat.le_of_ble_eq_true hb
      cases hc
      have : x.toNat = 0 ∨ x.toNat = 1 := by omega
      rcases this with e | e <;> rw [e] <;> rfl
  · cases h
theorem nrm64 {σ : Sig} {v : AVal} {x : UInt64} {v' : Value} (h : nrm v = .u64 x) (hv : VR σ v v') : v' = .int .u64 (x.toNat : Int) := by
  have := nrm_ok hv
  rw [h] at this
  cases this; rfl
theorem bit_le (b : Bool) : (cond b (1 : UInt64) 0).toNat ≤ 1 := by cases b <;> decide
theorem add64A_ok {P : Program} {x y c v : AVal} (h : add64A x y c = some v) {σ : Sig} {x' y' c' : Value} (hx : VR σ x x') (hy : VR σ y y') (hc : VR σ c c') (w : World) :
    ∃ v', (add64Entry #[x', y', c']).run P w = .ok v' w ∧ VR σ v v' := by
  unfold add64A at h
  split at h
  · rename_i a b k h1 h2 h3
    cases h
    rw [nrm64 h1 hx, nrm64 h2 hy, cinA_ok h3 hc]
    refine ⟨_, run_addEnt _ _ _ (bit_le k) w, ?_⟩
    refine .tup rfl fun i u u' hu hu' => ?_
    have ha := a.toNat_lt
    have hb := b.toNat_lt
    match i with
    | 0 =>
      simp at hu hu'
      subst hu; subst hu'
      have e : ((a.toNat + b.toNat + (cond k (1 : UInt64) 0).toNat) % 18446744073709551616) = (a + b + cond k 1 0).toNat := by
        rw [UInt64.toNat_add, UInt64.toNat_add]; simp
      have := VR.u64 (σ := σ) (a + b + cond k 1 0)
      rwa [← e] at this
    | 1 =>
      simp at hu hu'
      subst hu; subst hu'
      have := VR.b64 (σ := σ) (cyO a b k)
      have e : ((cond (cyO a b k) (1 : UInt64) 0).toNat : Int) = ((a.toNat + b.toNat + (cond k (1 : UInt64) 0).toNat) / 18446744073709551616 : Nat) := by
        have hk := bit_le k
        generalize hq : (cond k (1 : UInt64) 0).toNat = q at *
        unfold cyO
        rw [hq]
        cases hb : Nat.ble 18446744073709551616 (a.toNat + b.toNat + q) with
        | true =>
          have := Nat.le_of_ble_eq_true hb
          show ((1 : UInt64).toNat : Int) = _
          have e1 : (1 : UInt64).toNat = 1 := rfl
          rw [e1]; omega
        | false =>
          have : ¬ 18446744073709551616 ≤ a.toNat + b.toNat + q := fun hle => by rw [Nat.ble_eq_true_of_le hle] at hb; cases hb
          show ((0 : UInt64).toNat : Int) = _
          have e1 : (0 : UInt64).toNat = 0 := rfl
          rw [e1]; omega
      rw [e] at this
      exact this
    | n + 2 => simp at hu
  · cases h
theorem sub64A_ok {P : Program} {x y c v : AVal} (h : sub64A x y c = some v) {σ : Sig} {x' y' c' : Value} (hx : VR σ x x') (hy : VR σ y y') (hc : VR σ c c') (w : World) :
    ∃ v', (subEnt #[x', y', c']).run P w = .ok v' w ∧ VR σ v v' := by
  unfold sub64A at h
  split at h
  · rename_i a b k h1 h2 h3
    cases h
    rw [nrm64 h1 hx, nrm64 h2 hy, cinA_ok h3 hc]
    refine ⟨_, run_subEnt _ _ _ (bit_le k) w, ?_⟩
    refine .tup rfl fun i u u' hu hu' => ?_
    have ha := a.toNat_lt
    have hb := b.toNat_lt
    match i with
    | 0 =>
      simp at hu hu'
      subst hu; subst hu'
      have e : ((a.toNat + 18446744073709551616 - b.toNat - (cond k (1 : UInt64) 0).toNat) % 18446744073709551616) = (a - b - cond k 1 0).toNat := by
        rw [UInt64.toNat_sub, UInt64.toNat_sub]
        have hk := bit_le k
        generalize (cond k (1 : UInt64) 0).toNat = q at *
        simp only [Nat.reducePow]
        omega
      have := VR.u64 (σ := σ) (a - b - cond k 1 0)
      rwa [← e] at this
    | 1 =>
      simp only [List.getElem?_cons_succ, List.getElem?_cons_zero, Option.some.injEq] at hu
      simp only [List.getElem?_toArray, List.getElem?_cons_succ, List.getElem?_cons_zero, Option.some.injEq] at hu'
      subst hu; subst hu'
      have := VR.b64 (σ := σ) (boO a b k)
      have e : ((cond (boO a b k) (1 : UInt64) 0).toNat : Int) = ((if a.toNat < b.toNat + (cond k (1 : UInt64) 0).toNat then 1 else 0 : Nat) : Int) := by
        have hk := bit_le k
        generalize hq : (cond k (1 : UInt64) 0).toNat = q at *
        unfold boO
        rw [hq]
        cases hb : Nat.ble (a.toNat + 1) (b.toNat + q) with
        | true =>
          have := Nat.le_of_ble_eq_true hb
          rw [if_pos (by omega)]; rfl
        | false =>
          have : ¬ a.toNat + 1 ≤ b.toNat + q := fun hle => by rw [Nat.ble_eq_true_of_le hle] at hb; cases hb
          rw [if_neg (by omega)]; rfl
      rw [e] at this
      exact this
    | n + 2 => simp at hu
  · cases h
theorem LR.inv3 {σ : Sig} {x y z : AVal} {l' : Array Value} (h : LR σ [x, y, z] l') : ∃ x' y' z', l' = #[x', y', z'] ∧ VR σ x x' ∧ VR σ y y' ∧ VR σ z z' := by
  obtain ⟨l⟩ := l'
  have h1 : 3 = l.length := by simpa using h.1
  match l, h1 with
  | [a, b, c], _ => exact ⟨a, b, c, rfl, h.2 0 x a rfl rfl, h.2 1 y b rfl rfl, h.2 2 z c rfl rfl⟩
theorem extA_ok {P : Program} {f : FuncId} {args : List AVal} {v : AVal} (h : extA P f args = some v) {σ : Sig} {args' : Array Value} (hl : LR σ args args') (w : World) :
    ∃ v', (callFunc f args').run P w = .ok (.value v') w ∧ VR σ v v' := by
  unfold extA at h
  split at h
  · cases h
  · rename_i fn hf
    cases hb : fn.body.isNone <;> rw [hb] at h <;> simp only [cond_true, cond_false] at h
    · cases h
    · cases hnx : (Extern.findNext fn).isNone <;> rw [hnx] at h <;> simp only [cond_true, cond_false] at h
      · cases h
      split at h
      · rename_i x y c
        obtain ⟨x', y', c', rfl, hx, hy, hc⟩ := hl.inv3
        cases h1 : (fn.name == "math/bits.Add64") <;> rw [h1] at h <;> simp only [cond_true, cond_false] at h
        · cases h2 : (fn.name == "math/bits.Sub64") <;> rw [h2] at h <;> simp only [cond_true, cond_false] at h
          · cases h
          · have hn : fn.name = "math/bits.Sub64" := by simpa using h2
            obtain ⟨v', e1, e2⟩ := sub64A_ok (P := P) h hx hy hc w
            refine ⟨v', ?_, e2⟩
            rw [run_callFunc_extern hf (by rw [hn]; kernel_rfl) hb (by simpa using hnx) (e := subEnt) (look_name hn (by kernel_rfl) (by kernel_rfl) (by kernel_rfl)), e1]
            rfl
        · have hn : fn.name = "math/bits.Add64" := by simpa using h1
          obtain ⟨v', e1, e2⟩ := add64A_ok (P := P) h hx hy hc w
          refine ⟨v', ?_, e2⟩
          rw [run_callFunc_extern hf (by rw [hn]; kernel_rfl) hb (by simpa using hnx) (e := add64Entry) (look_name hn (by kernel_rfl) (by kernel_rfl) (by kernel_rfl)), e1]
          rfl
      · cases h
theorem effA_ok {P : Program} {cs : CS} (hcs : CSOk P cs) {σ : Sig} {ρ : Operand → Option AVal} {a : Act} (hρ : Env σ ρ a.eval) (hg : GRel P σ) {o : Oper} {e : EffA} (h : effA P cs ρ o = some e) : EffOk P σ a o e := by
  unfold effA at h
  split at h
  · rename_i x ho
    obtain ⟨v, h1, rfl⟩ := ofV_some h
    exact .of_okv (s := pure (a.eval x)) (by simp [execOp, ho]) (.mk (fun w => rfl) (hρ x v h1))
  · rename_i x ho
    obtain ⟨v, h1, rfl⟩ := ofV_some h
    exact .of_okv (s := pure (a.eval x)) (by simp [execOp, ho]) (.mk (fun w => rfl) (hρ x v h1))
  · rename_i c x y ho
    split at h
    · rename_i t vx vy h1 h2 h3
      cases h
      have hc := hρ c _ h1
      have hb : a.eval c = .bool t := by generalize a.eval c = z at hc; cases hc; rfl
      refine .of_okv (s := do pure (if ← asBool (a.eval c) then a.eval x else a.eval y)) (by simp [execOp, ho]) ?_
      refine .mk (v' := if t then a.eval x else a.eval y) (fun w => by rw [hb]; simp [asBool]) ?_
      cases t
      · exact hρ y _ h3
      · exact hρ x _ h2
    · cases h
  · rename_i t ho
    exact .of_value (s := Instr.alloc t true (.tuple #[])) (by simp [execOp, ho]) fun H w base v H' hr ha hf => newA_ok h ha hr hf
  · rename_i t x ho
    split at h
    · rename_i v h1
      cases h
      exact .of_value (s := Instr.box t (a.eval x)) (by simp [execOp, ho]) fun H w base v' H' hr ha hf => boxA_ok (hρ x v h1) t ha hr hf
    · cases h
  · rename_i t ps ho
    split at h
    · rename_i vs h1
      obtain ⟨v, h2, rfl⟩ := ofV_some h
      refine .of_okv (s := Instr.build t (ps.map fun (i, x) => (i, a.eval x))) (by simp [execOp, ho]) ?_
      exact buildA_ok h2 (by simpa using evP_ok hρ h1)
    · cases h
  · rename_i t n ps ho
    split at h
    · rename_i vs h1
      exact .of_value (s := Instr.buildSlice t n (ps.map fun (i, x) => (i, a.eval x))) (by simp [execOp, ho]) fun H w base v H' hr ha hf => buildSliceA_ok h (by simpa using evP_ok hρ h1) ha hr hf
    · cases h
  · rename_i t x ho
    split at h
    · rename_i v h1
      exact .of_read (s := Instr.loadAt t (a.eval x)) (by simp [execOp, ho]) fun H H' w base u ha hr => loadA_ok h (hρ x v h1) ha hr
    · cases h
  · rename_i t x y ho
    split at h
    · rename_i vx vy h1 h2
      intro H w base v H' hr ha hf K Q hK
      obtain ⟨rfl, w', g1, g2, g3⟩ := storeA_ok h (hρ x vx h1) (hρ y vy h2) ha hr
      have he : execOp a.eval o = (do Instr.storeAt t (a.eval x) (a.eval y); pure .skip) := by simp [execOp, ho]
      unfold Oper.wp
      rw [he]
      simp only [Sem.run_bind, g1, Result.andThen_ok, Sem.run_pure, Oper.upon_skip]
      exact hK σ undef w' (.tup rfl fun i v v' h => by simp at h) g2 g3 (Only.refl _ _)
    · cases h
  · rename_i x ho
    split at h
    · rename_i n off h1
      cases h
      have hv := hρ x _ h1
      refine .of_okv (s := pure (a.eval x)) ?_ (.mk (fun w => rfl) hv)
      generalize hz : a.eval x = z at hv
      cases hv
      simp [execOp, ho, hz]
    · rename_i f c h1
      cases h
      have hv := hρ x _ h1
      refine .of_okv (s := pure (a.eval x)) ?_ (.mk (fun w => rfl) hv)
      generalize hz : a.eval x = z at hv
      cases hv
      simp [execOp, ho, hz]
    · cases h
  · rename_i op t x y t' ho
    split at h
    · rename_i vx vy h1 h2
      obtain ⟨v, h3, rfl⟩ := ofV_some h
      exact .of_okv (s := do eqGuard op t x y (a.eval x) (a.eval y); binOp op t (a.eval x) (a.eval y)) (by simp [execOp, ho]) (binA_ok h3 (nrm_ok (hρ x vx h1)) (nrm_ok (hρ y vy h2)))
    · cases h
  · rename_i op t x ho
    split at h
    · rename_i vx h1
      obtain ⟨v, h3, rfl⟩ := ofV_some h
      exact .of_okv (s := Op.unary op (a.eval x)) (by simp [execOp, ho]) (unA_ok h3 (nrm_ok (hρ x vx h1)))
    · cases h
  · rename_i s d x ho
    split at h
    · rename_i vx h1
      rcases orElse_cases h with h | h
      · obtain ⟨v, h3, rfl⟩ := ofV_some h
        exact .of_okv (s := convert s d (a.eval x)) (by simp [execOp, ho]) (convA_ok h3 (nrm_ok (hρ x vx h1)))
      · rcases orElse_cases h with h | h
        · exact .of_read (s := convert s d (a.eval x)) (by simp [execOp, ho]) fun H H' w base u ha hr => bytesStrA_ok h (hρ x vx h1) ha hr
        · exact .of_value (s := convert s d (a.eval x)) (by simp [execOp, ho]) fun H w base v H' hr ha hf => strBytesA_ok h (hρ x vx h1) ha hr hf
    · cases h
  · rename_i t x ho
    split at h
    · rename_i vx h1
      split at h
      · cases h
      · rename_i d hn hu
        cases h
        refine .of_okv (s := Instr.makeInterface t (a.eval x)) (by simp [execOp, ho]) (.mk (v' := .iface t (a.eval x)) (fun w => ?_) (.iface (hρ x vx h1)))
        unfold Instr.makeInterface
        simp only [Sem.run_bind, run_underlying hu, Result.andThen_ok]
        cases d <;> first | rfl | exact absurd hu (hn _)
      · cases h
    · cases h
  · rename_i fn first captured ho
    split at h
    · rename_i f vs h1 h2
      cases h
      have hl := evL_ok hρ h2
      refine .of_okv (s := Instr.makeFunc (.func f) (first.map a.eval) (captured.map a.eval)) (by simp [execOp, ho]) (.mk (v' := .func (.func f) #[] (captured.map a.eval)) (fun w => ?_) (.fn (by simpa using hl.1) fun i v v' g1 g2 => hl.2 i v v' g1 (by simpa using g2)))
      have : first = #[] := Array.toList_inj.1 (by simpa using h1)
      rw [this]; simp [Instr.makeFunc]
    · cases h
  · rename_i t l c ho
    split at h
    · rename_i vl vc h1 h2
      exact .of_value (s := Instr.makeSlice t (a.eval l) (a.eval c)) (by simp [execOp, ho]) fun H w base v H' hr ha hf => makeSliceA_ok h (hρ l vl h1) (hρ c vc h2) ha hr hf
    · cases h
  · rename_i t x lo hi mx ho
    split at h
    · rename_i mx vx vlo vhi h1 h2 h3
      rcases orElse_cases h with h | h
      · obtain ⟨v, h4, rfl⟩ := ofV_some h
        exact .of_okv (s := Instr.sliceAt t (a.eval x) (lo.map a.eval) (hi.map a.eval) none) (by simp [execOp, ho]) (sliceA_ok h4 (hρ x vx h1) (evO_ok hρ h2) (evO_ok hρ h3))
      · exact .of_read (s := Instr.sliceAt t (a.eval x) (lo.map a.eval) (hi.map a.eval) none) (by simp [execOp, ho]) fun H H' w base u ha hr => sliceArrA_ok h (hρ x vx h1) (evO_ok hρ h2) (evO_ok hρ h3) ha hr
    · cases h
  · rename_i t x k ho
    split at h
    · rename_i vx h1
      obtain ⟨v, h3, rfl⟩ := ofV_some h
      exact .of_okv (s := Instr.fieldAt t (a.eval x) k) (by simp [execOp, ho]) (fieldAddrA_ok h3 (hρ x vx h1))
    · cases h
  · rename_i t x k ho
    split at h
    · rename_i vx h1
      obtain ⟨v, h3, rfl⟩ := ofV_some h
      exact .of_okv (s := Instr.field t (a.eval x) k) (by simp [execOp, ho]) (fieldA_ok h3 (hρ x vx h1))
    · cases h
  · rename_i t x i ho
    split at h
    · rename_i vx vi h1 h2
      obtain ⟨v, h3, rfl⟩ := ofV_some h
      exact .of_okv (s := Instr.indexAt t (a.eval x) (a.eval i)) (by simp [execOp, ho]) (indexAddrA_ok h3 (hρ x vx h1) (hρ i vi h2))
    · cases h
  · rename_i t x i ho
    split at h
    · rename_i vx vi h1 h2
      obtain ⟨v, h3, rfl⟩ := ofV_some h
      exact .of_okv (s := Instr.index t (a.eval x) (a.eval i)) (by simp [execOp, ho]) (indexA_ok h3 (hρ x vx h1) (hρ i vi h2))
    · cases h
  · rename_i x k ho
    split at h
    · rename_i vx h1
      obtain ⟨v, h3, rfl⟩ := ofV_some h
      exact .of_okv (s := Instr.extract (a.eval x) k) (by simp [execOp, ho]) (extractA_ok h3 (hρ x vx h1))
    · cases h
  · rename_i c ho
    split at h
    · cases h
    · rename_i args hargs
      have hl := evL_ok hρ hargs
      have hmap : (c.args.toList.map a.eval).toArray = c.args.map a.eval := by apply Array.toList_inj.1; rw [Array.toList_map]
      rw [hmap] at hl
      split at h
      · rename_i b hcal
        have hex : ∃ q, execOp a.eval o = builtin b c.argTypes o.type q (c.args.map a.eval) := ⟨_, by
          simp only [execOp, ho, resolve, hcal, pure_bind, invoke]; rfl⟩
        obtain ⟨q, hex⟩ := hex
        generalize c.args.map a.eval = args' at hl hex
        unfold builtinE at h
        split at h
        · rename_i s x
          obtain ⟨s', x', rfl, hs, hx⟩ := hl.inv2
          exact .of_value (s := Builtin.append_ c.argTypes o.type #[s', x']) (by rw [hex]; rfl) fun H w base v H' hr ha hf => appendA_ok h hs hx _ hr ha hf
        · rename_i s x
          obtain ⟨s', x', rfl, hs, hx⟩ := hl.inv2
          exact .of_value (s := Builtin.copy_ c.argTypes o.type #[s', x']) (by rw [hex]; rfl) fun H w base v H' hr ha hf => by
            obtain ⟨v', w', h1, h2, h3, h4⟩ := copyA_ok h hs hx o.type hr ha
            exact ⟨σ, v', w', h1, h2, h3, h4, Only.refl _ _⟩
        obtain ⟨v, h3, rfl⟩ := ofV_some h
        unfold builtinA at h3
        split at h3
        · rename_i x
          split at h3
          · rename_i t ht
            obtain ⟨x', rfl, hx⟩ := hl.inv1
            exact .of_okv (s := Builtin.len_ c.argTypes o.type #[x']) (by rw [hex]; rfl) (lenA_ok h3 hx _ ht _)
          · cases h3
        · rename_i x y
          obtain ⟨x', y', rfl, hx, hy⟩ := hl.inv2
          exact .of_okv (s := Builtin.min_ c.argTypes o.type #[x', y']) (by rw [hex]; rfl) (minA_ok h3 hx hy _ _)
        · cases h3
      · rename_i f hcal
        split at h
        · rename_i fid cap hf
          cases hb : bodied P fid <;> rw [hb] at h <;> simp only [cond_true, cond_false] at h
          · obtain ⟨v, h3, rfl⟩ := ofV_some h
            have hv := hρ f _ hf
            generalize hz : a.eval f = z at hv
            cases hv with
            | @fn _ _ cap' hs hc =>
              intro H w base v0 H' hr ha hfr K Q hK
              simp only [EffA.app, Option.some.injEq, Prod.mk.injEq] at ha
              obtain ⟨rfl, rfl⟩ := ha
              obtain ⟨v', e1, e2⟩ := extA_ok (P := P) h3 (LR.append hl ⟨hs, hc⟩) w
              have hrun : (execOp a.eval o).run P w = .ok (.value v') w := by
                have : (execOp a.eval o).run P w = (callFunc fid (c.args.map a.eval ++ cap')).run P w := by
                  simp only [execOp, ho, resolve, hcal, hz, Deferred.ofValue, pure_bind, invoke]
                  simp
                rw [this, e1]
              unfold Oper.wp
              rw [hrun, Oper.upon_value]
              exact hK σ v' w e2 hr (Frm.refl _ _ _) (Only.refl _ _)
          · obtain ⟨fn, hfn, hbody, hname⟩ := bodied_ok hb
            have hv := hρ f _ hf
            generalize hz : a.eval f = z at hv
            cases hv with
            | @fn _ _ cap' hs hc =>
              intro H w base v H' hr ha hfr K Q hK
              have hrun : (execOp a.eval o).run P w = .ok (.enter fid (c.args.map a.eval ++ cap')) w := by
                simp only [execOp, ho, resolve, hcal, hz, Deferred.ofValue, pure_bind, invoke, callFunc, Sem.run_bind, run_program, Result.andThen_ok, hfn, hname, hbody, Bool.false_eq_true, if_false, Sem.run_pure]
                simp
              unfold Oper.wp
              rw [hrun, Oper.upon_enter]
              refine (hcs fid _ e h σ _ H w base v H' (LR.append hl ⟨hs, hc⟩) hg hr ha hfr).mono fun r w' hrw => ?_
              obtain ⟨σ', v', rfl, g1, g2, g3, g4⟩ := hrw
              exact hK σ' v' w' g1 g2 g3 g4
        · cases h
      · cases h
  · cases h
end Go.Eng
