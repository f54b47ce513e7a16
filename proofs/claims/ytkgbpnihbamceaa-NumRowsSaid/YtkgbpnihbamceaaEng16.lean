/- Engine, part 16: functions, and what is said of calls. -/
import Derived.Test.YtkgbpnihbamceaaEng15
namespace Go.Eng
set_option linter.unusedVariables false
set_option linter.unusedSimpArgs false
open Go

def startT : List AVal → Nat → TL
  | [], _ => []
  | v :: l, i => (i, v) :: startT l (i + 1)
theorem startT_get : ∀ {l : List AVal} {i s : Nat} {v : AVal}, aget (startT l i) s = some v → i ≤ s ∧ l[s - i]? = some v
  | [], i, s, v, h => by simp [startT, aget] at h
  | x :: l, i, s, v, h => by
    simp only [startT, aget] at h
    rcases beq_cases i s with ⟨he, hb⟩ | ⟨he, hb⟩ <;> rw [hb] at h <;> simp only [cond_true, cond_false] at h
    · subst he; simpa using h
    · obtain ⟨h1, h2⟩ := startT_get h
      refine ⟨by omega, ?_⟩
      rw [show s - i = (s - (i + 1)) + 1 by omega]
      simpa using h2

def resA (P : Program) (T : TL) (H : HL) : List ResultVar → Option (List AVal)
  | [] => some []
  | .tmp t :: l => match aget T t, resA P T H l with
    | some v, some vs => some (v :: vs)
    | _, _ => none
  | .cell a t :: l => match aget T a with
    | none => none
    | some x => match loadA P t x with
      | none => none
      | some e => match e.app 0 H, resA P T H l with
        | some (v, _), some vs => some (v :: vs)
        | _, _ => none

theorem resA_ok {P : Program} {σ : Sig} {nt : Nat} {T : TL} {H : HL} {a : Act} {w : World} (hr : RRel P σ nt T H a w) : ∀ {l : List ResultVar} {vs : List AVal}, resA P T H l = some vs →
    ∃ vs' : List Value, (l.mapM (m := Sem) fun
      | .tmp t => pure (a.tmps.getD t undef)
      | .cell b t => do loadVar t (← asAddr (a.tmps.getD b undef))).run P w = .ok vs' w ∧ LR σ vs vs'.toArray
  | [], vs, h => by simp only [resA, Option.some.injEq] at h; subst h; exact ⟨[], rfl, LR.nil σ⟩
  | .tmp t :: l, vs, h => by
    simp only [resA] at h
    split at h
    · rename_i v vs1 h1 h2
      cases h
      obtain ⟨vs', g1, g2⟩ := resA_ok hr h2
      obtain ⟨v', q1, q2⟩ := hr.tmps t v h1
      refine ⟨v' :: vs', ?_, LR.cons q2 g2⟩
      have e : a.tmps.getD t undef = v' := by simp [Array.getD_eq_getD_getElem?, q1]
      simp only [List.mapM_cons, Sem.run_bind, Sem.run_pure, e, Result.andThen_ok, g1]
    · cases h
  | .cell b t :: l, vs, h => by
    simp only [resA] at h
    split at h
    · cases h
    · rename_i x hx
      split at h
      · cases h
      · rename_i e he
        split at h
        · rename_i v H1 vs1 h1 h2
          cases h
          obtain ⟨vs', g1, g2⟩ := resA_ok hr h2
          obtain ⟨x', q1, q2⟩ := hr.tmps b x hx
          obtain ⟨_, v', k1, k2⟩ := loadA_ok (P := P) (w := w) he q2 h1 hr.heap
          refine ⟨v' :: vs', ?_, LR.cons k2 g2⟩
          have e : a.tmps.getD b undef = x' := by simp [Array.getD_eq_getD_getElem?, q1]
          have hk : ((do loadVar t (← asAddr x')) : Sem Value).run P w = .ok v' w := by
            cases x <;> simp only [loadA] at he <;> try (cases he; done)
            cases q2
            simpa only [Instr.loadAt, Instr.sureAddr, asAddr, Sem.run_bind, Sem.run_pure, Result.andThen_ok] using k1
          simp only [List.mapM_cons, Sem.run_bind, Sem.run_pure, e] at hk ⊢
          rw [hk]
          simp only [Result.andThen_ok, g1]
        · cases h

/-- A function, called at arguments in a heap whose free names begin at 'fr'. -/
def runF (P : Program) (cs : CS) (nn F : Nat) (fn : Func) (c : Code) (args : List AVal) (H : HL) (fr : Nat) : Option (AVal × HL × Nat) :=
  cond (Nat.ble args.length fn.ntmps) (match evC P cs fn.ntmps nn F fr c ⟨startT args 0, H, fr⟩ with
    | none => none
    | some (.exit _, _) => none
    | some (_, s) => match resA P s.T s.H fn.results.toList with
      | none => none
      | some [v] => some (v, s.H, s.fr)
      | some vs => some (.tup vs, s.H, s.fr)) none

theorem runF_ok {P : Program} {cs : CS} (hcs : CSOk P cs) (hm : P.follows .mixedOrders = true) {f : FuncId} {fn : Func} {c : Code} (hf : P.funcs[f]? = some fn) (hb : fn.body = some c) {nn F : Nat} {args : List AVal} {H : HL} {fr : Nat} {v : AVal} {H' : HL} {fr' : Nat}
    (h : runF P cs nn F fn c args H fr = some (v, H', fr')) {σ : Sig} {args' : Array Value} {w : World} (ha : LR σ args args') (hH : HRel σ (aget H) w) (hg : GRel P σ) (hfr : Fresh σ fr) :
    Calls P f args' w fun r w' => ∃ σ' v', r = .returned v' ∧ VR σ' v v' ∧ HRel σ' (aget H') w' ∧ Frm σ (aget H) w σ' (aget H') w' ∧ Fresh σ' fr' := by
  unfold runF at h
  cases hn : Nat.ble args.length fn.ntmps <;> rw [hn] at h <;> simp only [cond_true, cond_false] at h
  · cases h
  have hn := Nat.le_of_ble_eq_true hn
  refine calls_of_wp hf hb ?_
  have hr0 : RRel P σ fn.ntmps (startT args 0) H { tmps := args' ++ Array.replicate (fn.ntmps - args'.size) undef, defers := [] } w := by
    refine ⟨fun s v hv => ?_, by simp [← ha.1]; omega, rfl, hH, hg⟩
    obtain ⟨_, h1⟩ := startT_get hv
    obtain ⟨v', g1, g2⟩ := ha.get (by simpa using h1)
    refine ⟨v', ?_, g2⟩
    simp only
    rw [Array.getElem?_append_left (Array.getElem?_eq_some_iff.1 g1).1]
    exact g1
  have full : ∀ {σ' : Sig} {Hx : Heap} {w' : World}, FrmB fr σ (aget H) w σ' Hx w' → Frm σ (aget H) w σ' Hx w' := fun {σ' Hx w'} g => ⟨fun n p hp => g.ext n p (Nat.lt_of_not_le fun hle => by rw [hfr n hle] at hp; cases hp) hp, g.size, g.os, g.output, g.tape, g.old⟩
  have fin : ∀ (s : SA), (match resA P s.T s.H fn.results.toList with
      | none => none
      | some [v] => some (v, s.H, s.fr)
      | some vs => some (.tup vs, s.H, s.fr)) = some (v, H', fr') → ∀ σ' a' w', RRel P σ' fn.ntmps s.T s.H a' w' → FrmB fr σ (aget H) w σ' (aget s.H) w' → Fresh σ' s.fr →
      a'.defers = [] ∧ ∃ u, (results fn a'.tmps).run P w' = .ok u w' ∧ ∃ σ'' v', Ending.returned u = .returned v' ∧ VR σ'' v v' ∧ HRel σ'' (aget H') w' ∧ Frm σ (aget H) w σ'' (aget H') w' ∧ Fresh σ'' fr' := fun s hs σ' a' w' g1 g2 g3 => by
    refine ⟨g1.defers, ?_⟩
    cases hres : resA P s.T s.H fn.results.toList with
    | none => rw [hres] at hs; cases hs
    | some vs =>
      rw [hres] at hs
      obtain ⟨vs', k1, k2⟩ := resA_ok g1 hres
      have hrun : (fn.results.mapM (m := Sem) fun
          | .tmp t => pure (a'.tmps.getD t undef)
          | .cell b t => do loadVar t (← asAddr (a'.tmps.getD b undef))).run P w' = .ok vs'.toArray w' := by
        rw [Array.mapM_eq_mapM_toList]
        simp only [Sem.run_map, k1, Result.andThen_ok]
      have hres2 : (results fn a'.tmps).run P w' = .ok (if h : vs'.toArray.size = 1 then vs'.toArray[0] else .tuple vs'.toArray) w' := by
        unfold results
        simp only [Sem.run_bind]
        exact congrArg (fun r => Result.andThen r fun (vs : Array Value) w'' => (pure (if h : vs.size = 1 then vs[0] else .tuple vs) : Sem Value).run P w'') hrun
      refine ⟨_, hres2, ?_⟩
      match vs, k2, hs with
      | [u], k2, hs =>
        simp only [Option.some.injEq, Prod.mk.injEq] at hs
        obtain ⟨rfl, rfl, rfl⟩ := hs
        obtain ⟨x', e1, e2⟩ := k2.inv1
        have : vs' = [x'] := by simpa using e1
        subst this
        exact ⟨σ', x', rfl, e2, g1.heap, full g2, g3⟩
      | [], k2, hs =>
        simp only [Option.some.injEq, Prod.mk.injEq] at hs
        obtain ⟨rfl, rfl, rfl⟩ := hs
        have hl : vs'.toArray.size ≠ 1 := by have := k2.1; simp at this ⊢; omega
        rw [dif_neg hl]
        exact ⟨σ', _, rfl, .tup k2.1 k2.2, g1.heap, full g2, g3⟩
      | x :: y :: l, k2, hs =>
        simp only [Option.some.injEq, Prod.mk.injEq] at hs
        obtain ⟨rfl, rfl, rfl⟩ := hs
        have hl : vs'.toArray.size ≠ 1 := by have := k2.1; simp at this ⊢; omega
        rw [dif_neg hl]
        exact ⟨σ', _, rfl, .tup k2.1 k2.2, g1.heap, full g2, g3⟩
  cases he : evC P cs fn.ntmps nn F fr c ⟨startT args 0, H, fr⟩ with
  | none => rw [he] at h; cases h
  | some p =>
    obtain ⟨x, s⟩ := p
    rw [he] at h
    refine evC_ok hcs hm c _ x s he σ _ w _ hr0 hfr fun σ' a' w' g1 g2 g3 => ?_
    cases x with
    | exit id => cases h
    | normal => exact fin s h σ' a' w' g1 g2 g3
    | ret => exact fin s h σ' a' w' g1 g2 g3

/-! ### what is said of calls -/
theorem LR.cut0 {σ : Sig} {l : List AVal} {l' : Array Value} (h : ∀ v ∈ l, ltV 0 v = true) (hl : LR σ l l') (σ' : Sig) : LR σ' l l' :=
  ⟨hl.1, fun i v v' h1 h2 => (ltV_ok (h v (List.mem_of_getElem? h1)) (hl.2 i v v' h1 h2)).mono fun n p hp => by simp [cut] at hp⟩
theorem VR.cut0 {σ : Sig} {v : AVal} {v' : Value} (h : ltV 0 v = true) (hv : VR σ v v') (σ' : Sig) : VR σ' v v' :=
  (ltV_ok h hv).mono fun n p hp => by simp [cut] at hp
def allV : List AVal → Bool
  | [] => true
  | v :: l => cond (ltV 0 v) (allV l) false
theorem allV_mem : ∀ {l : List AVal}, allV l = true → ∀ v ∈ l, ltV 0 v = true
  | [], _, v, hv => by cases hv
  | x :: l, h, v, hv => by
    simp only [allV] at h
    cases hx : ltV 0 x <;> rw [hx] at h <;> simp only [cond_true, cond_false] at h
    · cases h
    · rcases List.mem_cons.1 hv with rfl | hv
      · exact hx
      · exact allV_mem h v hv

/-- A function that only reckons: it is handed plain data and hands back plain data. -/
theorem callOk_pure {P : Program} {cs : CS} (hcs : CSOk P cs) (hm : P.follows .mixedOrders = true) {f : FuncId} {fn : Func} {c : Code} (hf : P.funcs[f]? = some fn) (hb : fn.body = some c) {nn F : Nat} {args : List AVal} {v : AVal} {H' : HL} {fr' : Nat}
    (h : runF P cs nn F fn c args [] P.globals.size = some (v, H', fr')) (ha : allV args = true) (hv : ltV 0 v = true) : CallOk P f args (.pure v) := by
  intro σ args' H w base v0 H0 hl hg hH happ hfree
  simp only [EffA.app, Option.some.injEq, Prod.mk.injEq] at happ
  obtain ⟨rfl, rfl⟩ := happ
  have hl0 : LR (cut P.globals.size σ) args args' := hl.cut0 (allV_mem ha) _
  have hg0 : GRel P (cut P.globals.size σ) := fun g hgl => by
    obtain ⟨sz, hs⟩ := hg g hgl
    exact ⟨sz, cut_of hs hgl⟩
  refine (runF_ok hcs hm hf hb h hl0 ⟨fun n o hn => by simp [aget] at hn, fun n m o o' p q hn => by simp [aget] at hn⟩ hg0 (cut_fresh _ _)).mono fun r w' hrw => ?_
  obtain ⟨σ', v', rfl, g1, g2, g3, g4⟩ := hrw
  have hold : ∀ b, b < w.heap.size → w'.heap[b]? = w.heap[b]? := fun b hb => (g3.old b hb fun ⟨n, o, p, a1, _⟩ => by simp [aget] at a1).1
  refine ⟨σ, v', rfl, g1.cut0 hv σ, ⟨fun n o hn => ?_, hH.inj⟩, ⟨Sig.le_refl σ, g3.size, g3.os, g3.output, g3.tape, fun b hb hn => ⟨hold b hb, hn⟩⟩, Only.refl σ base⟩
  obtain ⟨p, hp, ho⟩ := hH.obj n o hn
  exact ⟨p, hp, ho.mono (Sig.le_refl σ) (hold _ ho.lt)⟩
end Go.Eng
