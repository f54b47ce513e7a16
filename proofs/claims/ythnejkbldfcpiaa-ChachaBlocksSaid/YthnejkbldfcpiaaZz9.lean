/- Engine, part 9: every operation does what is said of it. -/
import Derived.Test.YthnejkbldfcpiaaZz8
namespace Go.Eng
open Go

theorem bodied_ok {P : Program} {f : FuncId} (h : bodied P f = true) : ∃ fn, P.funcs[f]? = some fn ∧ fn.body.isNone = false ∧ (fn.name == "runtime.NumGoroutine") = false := by
  unfold bodied at h
  split at h
  · rename_i fn hf
    simp only [Bool.and_eq_true, Bool.not_eq_true'] at h
    refine ⟨fn, hf, ?_, h.2⟩
    cases hb : fn.body with
    | none => rw [hb] at h; cases h.1
    | some b => rfl
  · cases h

theorem LR.append {σ : Sig} {l m : List AVal} {l' m' : Array Value} (h : LR σ l l') (k : LR σ m m') : LR σ (l ++ m) (l' ++ m') := by
  refine ⟨by simp [h.1, k.1], fun i v v' h1 h2 => ?_⟩
  by_cases hi : i < l.length
  · rw [List.getElem?_append_left hi] at h1
    rw [Array.getElem?_append_left (by rw [← h.1]; exact hi)] at h2
    exact h.2 i v v' h1 h2
  · rw [List.getElem?_append_right (by omega)] at h1
    rw [Array.getElem?_append_right (by rw [← h.1]; omega)] at h2
    rw [← h.1] at h2
    exact k.2 _ v v' h1 h2

theorem LR.inv1 {σ : Sig} {x : AVal} {l' : Array Value} (h : LR σ [x] l') : ∃ x', l' = #[x'] ∧ VR σ x x' := by
  obtain ⟨l⟩ := l'
  have h1 : 1 = l.length := by simpa using h.1
  match l, h1 with
  | [a], _ => exact ⟨a, rfl, h.2 0 x a rfl rfl⟩
theorem LR.inv2 {σ : Sig} {x y : AVal} {l' : Array Value} (h : LR σ [x, y] l') : ∃ x' y', l' = #[x', y'] ∧ VR σ x x' ∧ VR σ y y' := by
  obtain ⟨l⟩ := l'
  have h1 : 2 = l.length := by simpa using h.1
  match l, h1 with
  | [a, b], _ => exact ⟨a, b, rfl, h.2 0 x a rfl rfl, h.2 1 y b rfl rfl⟩
theorem effA_ok {P : Program} {cs : CS} (hcs : CSOk P cs) {σ : Sig} {ρ : Operand → Option AVal} {a : Act} (hρ : Env σ ρ a.eval) (hg : GRel P σ) {o : Oper} {e : EffA} (h : effA P cs ρ o = some e) : EffOk P σ a o e := by
  unfold effA at h
  split at h
  · rename_i x ho
    obtain ⟨v, h1, rfl⟩ := ofV_some h
    exact .of_okv (s := pure (a.eval x)) (by simp [execOp, ho]) (.mk (fun w => rfl) (hρ x v h1))
  · rename_i x ho
    obtain ⟨v, h1, rfl⟩ := ofV_some h
    exact .of_okv (s := pure (a.eval x)) (by simp [execOp, ho]) (.mk (fun w => rfl) (hρ x v h1))
  · rename_i c x y ho
    split at h
    · rename_i t vx vy h1 h2 h3
      cases h
      have hc := hρ c _ h1
      have hb : a.eval c = .bool t := by generalize a.eval c = z at hc; cases hc; rfl
      refine .of_okv (s := do pure (if ← asBool (a.eval c) then a.eval x else a.eval y)) (by simp [execOp, ho]) ?_
      refine .mk (v' := if t then a.eval x else a.eval y) (fun w => by rw [hb]; simp [asBool]) ?_
      cases t
      · exact hρ y _ h3
      · exact hρ x _ h2
    · cases h
  · rename_i t ho
    exact .of_value (s := Instr.alloc t true (.tuple #[])) (by simp [execOp, ho]) fun H w base v H' hr ha hf => newA_ok h ha hr hf
  · rename_i t x ho
    split at h
    · rename_i v h1
      cases h
      exact .of_value (s := Instr.box t (a.eval x)) (by simp [execOp, ho]) fun H w base v' H' hr ha hf => boxA_ok (hρ x v h1) t ha hr hf
    · cases h
  · rename_i t ps ho
    split at h
    · rename_i vs h1
      obtain ⟨v, h2, rfl⟩ := ofV_some h
      refine .of_okv (s := Instr.build t (ps.map fun (i, x) => (i, a.eval x))) (by simp [execOp, ho]) ?_
      exact buildA_ok h2 (by simpa using evP_ok hρ h1)
    · cases h
  · rename_i t n ps ho
    split at h
    · rename_i vs h1
      exact .of_value (s := Instr.buildSlice t n (ps.map fun (i, x) => (i, a.eval x))) (by simp [execOp, ho]) fun H w base v H' hr ha hf => buildSliceA_ok h (by simpa using evP_ok hρ h1) ha hr hf
    · cases h
  · rename_i t x ho
    split at h
    · rename_i v h1
      exact .of_read (s := Instr.loadAt t (a.eval x)) (by simp [execOp, ho]) fun H H' w base u ha hr => loadA_ok h (hρ x v h1) ha hr
    · cases h
  · rename_i t x y ho
    split at h
    · rename_i vx vy h1 h2
      intro H w base v H' hr ha hf K Q hK
      obtain ⟨rfl, w', g1, g2, g3⟩ := storeA_ok h (hρ x vx h1) (hρ y vy h2) ha hr
      have he : execOp a.eval o = (do Instr.storeAt t (a.eval x) (a.eval y); pure .skip) := by simp [execOp, ho]
      unfold Oper.wp
      rw [he]
      simp only [Sem.run_bind, g1, Result.andThen_ok, Sem.run_pure, Oper.upon_skip]
      exact hK σ undef w' (.tup rfl fun i v v' h => by simp at h) g2 g3 (Only.refl _ _)
    · cases h
  · rename_i x ho
    split at h
    · rename_i n off h1
      cases h
      have hv := hρ x _ h1
      refine .of_okv (s := pure (a.eval x)) ?_ (.mk (fun w => rfl) hv)
      generalize hz : a.eval x = z at hv
      cases hv
      simp [execOp, ho, hz]
    · rename_i f c h1
      cases h
      have hv := hρ x _ h1
      refine .of_okv (s := pure (a.eval x)) ?_ (.mk (fun w => rfl) hv)
      generalize hz : a.eval x = z at hv
      cases hv
      simp [execOp, ho, hz]
    · cases h
  · rename_i op t x y t' ho
    split at h
    · rename_i vx vy h1 h2
      obtain ⟨v, h3, rfl⟩ := ofV_some h
      exact .of_okv (s := do eqGuard op t x y (a.eval x) (a.eval y); binOp op t (a.eval x) (a.eval y)) (by simp [execOp, ho]) (binA_ok h3 (hρ x vx h1) (hρ y vy h2))
    · cases h
  · rename_i op t x ho
    split at h
    · rename_i vx h1
      obtain ⟨v, h3, rfl⟩ := ofV_some h
      exact .of_okv (s := Op.unary op (a.eval x)) (by simp [execOp, ho]) (unA_ok h3 (hρ x vx h1))
    · cases h
  · rename_i s d x ho
    split at h
    · rename_i vx h1
      rcases orElse_cases h with h | h
      · obtain ⟨v, h3, rfl⟩ := ofV_some h
        exact .of_okv (s := convert s d (a.eval x)) (by simp [execOp, ho]) (convA_ok h3 (hρ x vx h1))
      · rcases orElse_cases h with h | h
        · exact .of_read (s := convert s d (a.eval x)) (by simp [execOp, ho]) fun H H' w base u ha hr => bytesStrA_ok h (hρ x vx h1) ha hr
        · exact .of_value (s := convert s d (a.eval x)) (by simp [execOp, ho]) fun H w base v H' hr ha hf => strBytesA_ok h (hρ x vx h1) ha hr hf
    · cases h
  · rename_i t x ho
    split at h
    · rename_i vx h1
      split at h
      · cases h
      · rename_i d hn hu
        cases h
        refine .of_okv (s := Instr.makeInterface t (a.eval x)) (by simp [execOp, ho]) (.mk (v' := .iface t (a.eval x)) (fun w => ?_) (.iface (hρ x vx h1)))
        unfold Instr.makeInterface
        simp only [Sem.run_bind, run_underlying hu, Result.andThen_ok]
        cases d <;> first | rfl | exact absurd hu (hn _)
      · cases h
    · cases h
  · rename_i fn first captured ho
    split at h
    · rename_i f vs h1 h2
      cases h
      have hl := evL_ok hρ h2
      refine .of_okv (s := Instr.makeFunc (.func f) (first.map a.eval) (captured.map a.eval)) (by simp [execOp, ho]) (.mk (v' := .func (.func f) #[] (captured.map a.eval)) (fun w => ?_) (.fn (by simpa using hl.1) fun i v v' g1 g2 => hl.2 i v v' g1 (by simpa using g2)))
      have : first = #[] := Array.toList_inj.1 (by simpa using h1)
      rw [this]; simp [Instr.makeFunc]
    · cases h
  · rename_i t l c ho
    split at h
    · rename_i vl vc h1 h2
      exact .of_value (s := Instr.makeSlice t (a.eval l) (a.eval c)) (by simp [execOp, ho]) fun H w base v H' hr ha hf => makeSliceA_ok h (hρ l vl h1) (hρ c vc h2) ha hr hf
    · cases h
  · rename_i t x lo hi mx ho
    split at h
    · rename_i mx vx vlo vhi h1 h2 h3
      rcases orElse_cases h with h | h
      · obtain ⟨v, h4, rfl⟩ := ofV_some h
        exact .of_okv (s := Instr.sliceAt t (a.eval x) (lo.map a.eval) (hi.map a.eval) none) (by simp [execOp, ho]) (sliceA_ok h4 (hρ x vx h1) (evO_ok hρ h2) (evO_ok hρ h3))
      · exact .of_read (s := Instr.sliceAt t (a.eval x) (lo.map a.eval) (hi.map a.eval) none) (by simp [execOp, ho]) fun H H' w base u ha hr => sliceArrA_ok h (hρ x vx h1) (evO_ok hρ h2) (evO_ok hρ h3) ha hr
    · cases h
  · rename_i t x k ho
    split at h
    · rename_i vx h1
      obtain ⟨v, h3, rfl⟩ := ofV_some h
      exact .of_okv (s := Instr.fieldAt t (a.eval x) k) (by simp [execOp, ho]) (fieldAddrA_ok h3 (hρ x vx h1))
    · cases h
  · rename_i t x k ho
    split at h
    · rename_i vx h1
      obtain ⟨v, h3, rfl⟩ := ofV_some h
      exact .of_okv (s := Instr.field t (a.eval x) k) (by simp [execOp, ho]) (fieldA_ok h3 (hρ x vx h1))
    · cases h
  · rename_i t x i ho
    split at h
    · rename_i vx vi h1 h2
      obtain ⟨v, h3, rfl⟩ := ofV_some h
      exact .of_okv (s := Instr.indexAt t (a.eval x) (a.eval i)) (by simp [execOp, ho]) (indexAddrA_ok h3 (hρ x vx h1) (hρ i vi h2))
    · cases h
  · rename_i t x i ho
    split at h
    · rename_i vx vi h1 h2
      obtain ⟨v, h3, rfl⟩ := ofV_some h
      exact .of_okv (s := Instr.index t (a.eval x) (a.eval i)) (by simp [execOp, ho]) (indexA_ok h3 (hρ x vx h1) (hρ i vi h2))
    · cases h
  · rename_i x k ho
    split at h
    · rename_i vx h1
      obtain ⟨v, h3, rfl⟩ := ofV_some h
      exact .of_okv (s := Instr.extract (a.eval x) k) (by simp [execOp, ho]) (extractA_ok h3 (hρ x vx h1))
    · cases h
  · rename_i c ho
    split at h
    · cases h
    · rename_i args hargs
      have hl := evL_ok hρ hargs
      have hmap : (c.args.toList.map a.eval).toArray = c.args.map a.eval := by apply Array.toList_inj.1; rw [Array.toList_map]
      rw [hmap] at hl
      split at h
      · rename_i b hcal
        obtain ⟨v, h3, rfl⟩ := ofV_some h
        have hex : ∃ q, execOp a.eval o = builtin b c.argTypes o.type q (c.args.map a.eval) := ⟨_, by
          simp only [execOp, ho, resolve, hcal, pure_bind, invoke]; rfl⟩
        obtain ⟨q, hex⟩ := hex
        generalize c.args.map a.eval = args' at hl hex
        unfold builtinA at h3
        split at h3
        · rename_i x
          split at h3
          · rename_i t ht
            obtain ⟨x', rfl, hx⟩ := hl.inv1
            exact .of_okv (s := Builtin.len_ c.argTypes o.type #[x']) (by rw [hex]; rfl) (lenA_ok h3 hx _ ht _)
          · cases h3
        · rename_i x y
          obtain ⟨x', y', rfl, hx, hy⟩ := hl.inv2
          exact .of_okv (s := Builtin.min_ c.argTypes o.type #[x', y']) (by rw [hex]; rfl) (minA_ok h3 hx hy _ _)
        · cases h3
      · rename_i f hcal
        split at h
        · rename_i fid cap hf
          cases hb : bodied P fid <;> rw [hb] at h <;> simp only [cond_true, cond_false] at h
          · cases h
          · obtain ⟨fn, hfn, hbody, hname⟩ := bodied_ok hb
            have hv := hρ f _ hf
            generalize hz : a.eval f = z at hv
            cases hv with
            | @fn _ _ cap' hs hc =>
              intro H w base v H' hr ha hfr K Q hK
              have hrun : (execOp a.eval o).run P w = .ok (.enter fid (c.args.map a.eval ++ cap')) w := by
                simp only [execOp, ho, resolve, hcal, hz, Deferred.ofValue, pure_bind, invoke, callFunc, Sem.run_bind, run_program, Result.andThen_ok, hfn, hname, hbody, Bool.false_eq_true, if_false, Sem.run_pure]
                simp
              unfold Oper.wp
              rw [hrun, Oper.upon_enter]
              refine (hcs fid _ e h σ _ H w base v H' (LR.append hl ⟨hs, hc⟩) hg hr ha hfr).mono fun r w' hrw => ?_
              obtain ⟨σ', v', rfl, g1, g2, g3, g4⟩ := hrw
              exact hK σ' v' w' g1 g2 g3 g4
        · cases h
      · cases h
  · cases h
end Go.Eng
