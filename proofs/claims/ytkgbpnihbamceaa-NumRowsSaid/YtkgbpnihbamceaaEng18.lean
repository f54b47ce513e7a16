/- Engine, part 18: code piece by piece; loops. -/
import Derived.Test.YtkgbpnihbamceaaEng17
namespace Go.Eng
set_option linter.unusedVariables false
set_option linter.unusedSimpArgs false
open Go

/-- Saying less of a call. -/
theorem CallOk.less {P : Program} {f : FuncId} {args : List AVal} {e e' : EffA} (h : CallOk P f args e) (he : ∀ base H r, e'.app base H = some r → e.app base H = some r) : CallOk P f args e' :=
  fun σ args' H w base v H' hl hg hH happ hf => h σ args' H w base v H' hl hg hH (he base H (v, H') happ) hf
theorem callOk_run {P : Program} {cs : CS} (hcs : CSOk P cs) (hm : P.follows .mixedOrders = true) {nn F : Nat} {f : FuncId} {args : List AVal} {r : AVal × HL × Nat} (h : run1 P cs nn F f args [] P.globals.size = some r) (ha : allV args = true) (hv : ltV 0 r.1 = true) : CallOk P f args (.pure r.1) := by
  obtain ⟨fn, c, hf, hb, hr⟩ := run1_some h
  obtain ⟨v, H', fr'⟩ := r
  exact callOk_pure hcs hm hf hb hr ha hv
/-- Lists of words as cells, and back. -/
def words32 : List AVal → Option (List UInt32)
  | [] => some []
  | .u32 x :: l => match words32 l with
    | some xs => some (x :: xs)
    | none => none
  | _ => none
theorem words32_eq : ∀ {c : List AVal} {x : List UInt32}, words32 c = some x → c = x.map .u32
  | [], x, h => by simp only [words32, Option.some.injEq] at h; subst h; rfl
  | v :: l, x, h => by
    cases v <;> simp only [words32] at h <;> try (cases h; done)
    split at h
    · rename_i xs hx
      cases h
      rw [words32_eq hx]; rfl
    · cases h
def words64 : List AVal → Option (List UInt64)
  | [] => some []
  | .u64 x :: l => match words64 l with
    | some xs => some (x :: xs)
    | none => none
  | _ => none
theorem words64_eq : ∀ {c : List AVal} {x : List UInt64}, words64 c = some x → c = x.map .u64
  | [], x, h => by simp only [words64, Option.some.injEq] at h; subst h; rfl
  | v :: l, x, h => by
    cases v <;> simp only [words64] at h <;> try (cases h; done)
    split at h
    · rename_i xs hx
      cases h
      rw [words64_eq hx]; rfl
    · cases h
theorem ltL_u32 (m : Nat) : ∀ (x : List UInt32), ltL m (x.map .u32) = true
  | [] => rfl
  | _ :: l => ltL_u32 m l
theorem ltL_u64 (m : Nat) : ∀ (x : List UInt64), ltL m (x.map .u64) = true
  | [] => rfl
  | _ :: l => ltL_u64 m l
theorem ltL_u8 (m : Nat) : ∀ (x : List UInt8), ltL m (x.map .u8) = true
  | [] => rfl
  | _ :: l => ltL_u8 m l
/-- What an effect on one block of plain data comes to. -/
theorem blkE_app {P : Program} {cs : CS} {nn F : Nat} {f : FuncId} {n off base : Nat} {rest : List AVal} {H : HL} {c c' : List AVal} {v : AVal} {r : AVal × HL × Nat} (hn : aget H n = some (.cells false c)) (hc : ltL 0 c = true)
    (hr : run1 P cs nn F f (.ptr P.globals.size off :: rest) [(P.globals.size, .cells false c)] (P.globals.size + 1) = some r) (h1 : r.1 = v) (h2 : aget r.2.1 P.globals.size = some (.cells false c')) (hv : ltV 0 v = true) (hc' : ltL 0 c' = true) :
    (blkE P cs nn F f n off rest).app base H = some (v, aset H n (.cells false c')) := by
  obtain ⟨v', H', fr'⟩ := r
  simp only at h1 h2
  subst h1
  simp only [blkE, EffA.app, hn, hc, cond_true, hr, h2, hv, hc', Bool.and_self, appU]

/-- The pieces of a sequence. -/
def pieces : Code → List Code
  | .seq a b => pieces a ++ pieces b
  | c => [c]
def evS (P : Program) (cs : CS) (nt nn F bs : Nat) : List Code → SA → Option (XA × SA)
  | [], s => some (.normal, s)
  | c :: l, s => match evC P cs nt nn F bs c s with
    | some (.normal, s') => evS P cs nt nn F bs l s'
    | r => r
theorem evS_one {P : Program} {cs : CS} {nt nn F bs : Nat} {c : Code} {s : SA} : evS P cs nt nn F bs [c] s = evC P cs nt nn F bs c s := by
  simp only [evS]
  split
  · rename_i h; rw [h]
  · rfl
theorem evS_app {P : Program} {cs : CS} {nt nn F bs : Nat} : ∀ {l m : List Code} {s : SA}, evS P cs nt nn F bs (l ++ m) s = match evS P cs nt nn F bs l s with
    | some (.normal, s') => evS P cs nt nn F bs m s'
    | r => r
  | [], m, s => rfl
  | c :: l, m, s => by
    simp only [evS, List.cons_append]
    cases hc : evC P cs nt nn F bs c s with
    | none => rfl
    | some p =>
      obtain ⟨x, s1⟩ := p
      cases x with
      | normal => exact evS_app
      | exit id => rfl
      | ret => rfl
theorem evC_pieces {P : Program} {cs : CS} {nt nn F bs : Nat} : ∀ (c : Code) (s : SA), evC P cs nt nn F bs c s = evS P cs nt nn F bs (pieces c) s
  | .seq a b, s => by
    rw [pieces, evS_app, ← evC_pieces a s]
    simp only [evC]
    cases evC P cs nt nn F bs a s with
    | none => rfl
    | some p =>
      obtain ⟨x, s1⟩ := p
      cases x with
      | normal => exact evC_pieces b s1
      | exit id => rfl
      | ret => rfl
  | .skip, s => evS_one.symm
  | .label _, s => evS_one.symm
  | .region _ _ _, s => evS_one.symm
  | .cond _ _ _, s => evS_one.symm
  | .block _ _, s => evS_one.symm
  | .loop _, s => evS_one.symm
  | .exit _, s => evS_one.symm
  | .ret, s => evS_one.symm
  | .rangeFunc _ _ _ _, s => evS_one.symm
  | .scope _, s => evS_one.symm
  | .goto _, s => evS_one.symm
  | .refuse _, s => evS_one.symm
theorem evS_append {P : Program} {cs : CS} {nt nn F bs : Nat} {l m : List Code} {s s' : SA} (h : evS P cs nt nn F bs l s = some (.normal, s')) : evS P cs nt nn F bs (l ++ m) s = evS P cs nt nn F bs m s' := by
  rw [evS_app, h]
/-- So many pieces, from one on. -/
theorem evS_seg {P : Program} {cs : CS} {nt nn F bs : Nat} {l : List Code} {k m : Nat} {s s' : SA} (h : evS P cs nt nn F bs ((l.drop k).take m) s = some (.normal, s')) :
    evS P cs nt nn F bs (l.drop k) s = evS P cs nt nn F bs (l.drop (k + m)) s' := by
  have e : l.drop k = (l.drop k).take m ++ l.drop (k + m) := by rw [← List.drop_drop]; exact (List.take_append_drop m (l.drop k)).symm
  rw [e, evS_append h]

/-- The body of a loop in a block. -/
def loopOf : Code → Code
  | .block _ (.loop b) => b
  | c => c
theorem iterA_inv {f : SA → Option (XA × SA)} {hd : SA → SA} (I : Nat → SA) {x : XA} {s1 : SA} (hx : x ≠ .normal) : ∀ (N : Nat), (∀ k, k < N → ∃ s', f (I k) = some (.normal, s') ∧ hd s' = I (k + 1)) → f (I N) = some (x, s1) → ∀ F, N < F → ∀ j, j ≤ N → iterA f hd (F - j) (I j) = some (x, s1) := by
  intro N hstep hend F hF j hj
  obtain ⟨m, hm⟩ : ∃ m, N - j = m := ⟨_, rfl⟩
  induction m generalizing j with
  | zero =>
    have : j = N := by omega
    subst this
    obtain ⟨n, hn⟩ : ∃ n, F - j = n + 1 := ⟨F - j - 1, by omega⟩
    rw [hn]
    simp only [iterA, hend]
    cases x with
    | normal => exact absurd rfl hx
    | exit id => rfl
    | ret => rfl
  | succ m ih =>
    obtain ⟨s', h1, h2⟩ := hstep j (by omega)
    obtain ⟨n, hn⟩ : ∃ n, F - j = n + 1 := ⟨F - j - 1, by omega⟩
    rw [hn]
    simp only [iterA, h1, h2]
    have := ih (j + 1) (by omega) (by omega)
    rw [show F - (j + 1) = n by omega] at this
    exact this
theorem evC_loop {P : Program} {cs : CS} {nt nn F bs : Nat} {id : Nat} {b : Code} (I : Nat → SA) (N : Nat) {s1 : SA} (hstep : ∀ k, k < N → ∃ s', evC P cs nt nn F bs b (I k) = some (.normal, s') ∧ headA P bs (I 0) s' = I (k + 1)) (hend : evC P cs nt nn F bs b (I N) = some (.exit id, s1)) (hF : N < F) :
    evC P cs nt nn F bs (.block id (.loop b)) (I 0) = some (.normal, s1) := by
  have := iterA_inv (f := evC P cs nt nn F bs b) (hd := headA P bs (I 0)) I (x := .exit id) (s1 := s1) (by simp) N hstep hend F hF 0 (by omega)
  simp only [evC]
  rw [Nat.sub_zero] at this
  rw [this]
  simp
theorem evC_loop_ret {P : Program} {cs : CS} {nt nn F bs : Nat} {id : Nat} {b : Code} (I : Nat → SA) (N : Nat) {s1 : SA} (hstep : ∀ k, k < N → ∃ s', evC P cs nt nn F bs b (I k) = some (.normal, s') ∧ headA P bs (I 0) s' = I (k + 1)) (hend : evC P cs nt nn F bs b (I N) = some (.ret, s1)) (hF : N < F) :
    evC P cs nt nn F bs (.block id (.loop b)) (I 0) = some (.ret, s1) := by
  have := iterA_inv (f := evC P cs nt nn F bs b) (hd := headA P bs (I 0)) I (x := .ret) (s1 := s1) (by simp) N hstep hend F hF 0 (by omega)
  simp only [evC]
  rw [Nat.sub_zero] at this
  rw [this]
/-- A round of a loop, to the loop's head. -/
def roundA (f : SA → Option (XA × SA)) (hd : SA → SA) (s : SA) : Option SA :=
  match f s with
  | some (.normal, s') => some (hd s')
  | _ => none
theorem roundA_some {f : SA → Option (XA × SA)} {hd : SA → SA} {s s1 : SA} (h : roundA f hd s = some s1) : ∃ s', f s = some (.normal, s') ∧ hd s' = s1 := by
  unfold roundA at h
  split at h
  · rename_i s' hs
    cases h
    exact ⟨s', hs, rfl⟩
  · cases h
/-- A loop in a block, as a piece of a sequence. -/
theorem evS_loop {P : Program} {cs : CS} {nt nn F bs : Nat} {l : List Code} {k id : Nat} {b : Code} (hk : l[k]? = some (.block id (.loop b))) (I : Nat → SA) (N : Nat) {s1 : SA} (hstep : ∀ k, k < N → roundA (evC P cs nt nn F bs b) (headA P bs (I 0)) (I k) = some (I (k + 1)))
    (hend : evC P cs nt nn F bs b (I N) = some (.exit id, s1)) (hF : N < F) : evS P cs nt nn F bs (l.drop k) (I 0) = evS P cs nt nn F bs (l.drop (k + 1)) s1 := by
  have hlt := (List.getElem?_eq_some_iff.1 hk).1
  have e : l.drop k = .block id (.loop b) :: l.drop (k + 1) := by
    rw [List.drop_eq_getElem_cons hlt]
    rw [List.getElem?_eq_getElem hlt] at hk
    rw [Option.some.inj hk]
  rw [e]
  simp only [evS, evC_loop I N (fun k h => roundA_some (hstep k h)) hend hF]
/-- What a function hands back where its code ends so. -/
def finV (P : Program) (fn : Func) : Option (XA × SA) → Option AVal
  | none => none
  | some (.exit _, _) => none
  | some (_, s) => match resA P s.T s.H fn.results.toList with
    | none => none
    | some [v] => some v
    | some vs => some (.tup vs)
theorem run1_val {P : Program} {cs : CS} {nn F : Nat} {f : FuncId} {fn : Func} {c : Code} {args : List AVal} {H : HL} {fr : Nat} (hf : P.funcs[f]? = some fn) (hb : fn.body = some c) (hn : Nat.ble args.length fn.ntmps = true) :
    (run1 P cs nn F f args H fr).map (·.1) = finV P fn (evS P cs fn.ntmps nn F fr (pieces c) ⟨startT args 0, H, fr⟩) := by
  unfold run1
  simp only [hf, hb]
  unfold runF
  rw [hn, evC_pieces]
  cases evS P cs fn.ntmps nn F fr (pieces c) ⟨startT args 0, H, fr⟩ with
  | none => rfl
  | some p =>
    obtain ⟨x, s⟩ := p
    cases x with
    | exit id => rfl
    | normal =>
      simp only [cond_true, finV]
      cases resA P s.T s.H fn.results.toList with
      | none => rfl
      | some vs => match vs with
        | [] => rfl
        | [_] => rfl
        | _ :: _ :: _ => rfl
    | ret =>
      simp only [cond_true, finV]
      cases resA P s.T s.H fn.results.toList with
      | none => rfl
      | some vs => match vs with
        | [] => rfl
        | [_] => rfl
        | _ :: _ :: _ => rfl
/-- A function's run out of its pieces. -/
theorem run1_of {P : Program} {cs : CS} {nn F : Nat} {f : FuncId} {fn : Func} {c : Code} {args : List AVal} {H : HL} {fr : Nat} (hf : P.funcs[f]? = some fn) (hb : fn.body = some c) (hn : Nat.ble args.length fn.ntmps = true) {x : XA} {s : SA}
    (h : evS P cs fn.ntmps nn F fr (pieces c) ⟨startT args 0, H, fr⟩ = some (x, s)) (hx : (match x with | .exit _ => false | _ => true) = true) : run1 P cs nn F f args H fr = match resA P s.T s.H fn.results.toList with
      | none => none
      | some [v] => some (v, s.H, s.fr)
      | some vs => some (.tup vs, s.H, s.fr) := by
  unfold run1
  simp only [hf, hb]
  unfold runF
  rw [hn, evC_pieces, h]
  cases x with
  | normal => rfl
  | ret => rfl
  | exit id => cases hx
end Go.Eng
