/- Texts Ae11, Eng20: what they show stands ahead of each. -/
import Derived.Test.YtifohjjmbohhnaaT13
import Derived.Test.YtifohjjmbohhnaaT4
import Derived.WalkKit
import Derived.ProofKit
import Derived.OpenShut
import Derived.ShutString
import Derived.ChangeSame
/- The statement on what is sealed and turned. -/
namespace Go.Proofs.Ytifohjjmbohhnaa.Ae
set_option linter.unusedVariables false
set_option linter.unusedSimpArgs false
open Go Go.Eng Go.Proofs.Ytifohjjmbohhnaa
set_option maxRecDepth 100000
set_option maxHeartbeats 1000000
set_option linter.unusedSimpArgs false
set_option linter.unusedVariables false
def sum2 (a s : List UInt8) : Bool := decide ((4096 : Int) < IntKind.wrap .i64 ((a.length : Int) + (s.length : Int)))
def sy5 : List Nat := [25,29,36,37,53,57,60,65,73,77,78,200083,83,88,89,92,100092,99,100,104,105,106,115,116,120,121,122,127,131,135,138]
def pX (X : List UInt8) (m : Nat) (x : UInt8) : List AVal := putA (X.map .u8) (0 + ((m : Int).toNat * 1)) (cellsA (.u8 x))
def qD (X a : List UInt8) (m : Nat) (x : UInt8) (d : List UInt8) : Bool := strAt (pX X m x) (0 + (Int.toNat 0 * 1)) ((a.length : Int).toNat - Int.toNat 0) d
def qE (X a : List UInt8) (m : Nat) (x : UInt8) (e : List UInt8) : Bool := strAt (pX X m x) (0 + ((a.length : Int).toNat * 1)) ((X.length : Int).toNat - (a.length : Int).toNat) e
def qI1 (X a : List UInt8) : Bool := decide (0 ≤ (a.length : Int)) && (decide ((a.length : Int) ≤ (X.length : Int)) && decide ((X.length : Int) ≤ (X.length : Int)))
def qI2 (X a : List UInt8) : Bool := decide ((0 : Int) ≤ 0) && (decide (0 ≤ (a.length : Int)) && decide ((a.length : Int) ≤ (X.length : Int)))
def qB (X : List UInt8) (m : Nat) : Bool := decide (0 ≤ (m : Int)) && decide ((m : Int) < (X.length : Int))
def qW (y : Int) : Nat := BitVec.toNat ((BitVec.ofInt (IntKind.bits .i64) y) &&& (BitVec.ofInt (IntKind.bits .i64) 16777215))
def qZ (X : List UInt8) (y : Int) (m : Nat) : Bool := eqS (.int .i64 (Int.tmod (IntKind.wrap .i64 (qW y : Int)) (X.length : Int))) (.int .i64 (m : Int))
def obs (φ : Fn) (k n a s d e : List UInt8) (m : Nat) (y : Int) (b g : UInt8) : List Bool :=
  let C := φ.sv k n a s
  let X := a ++ C
  [φ.wr k n d e == φ.wr k n d e, φ.ov k n d e == φ.ov k n d e, φ.sl e, qE X a m (g ^^^ b) e, qI1 X a, qD X a m (g ^^^ b) d, qI2 X a, φ.sl e, qE X a m (g ^^^ b) e, qI1 X a, qD X a m (g ^^^ b) d, qI2 X a,
   Nat.ble ((0 + ((m : Int).toNat * 1)) + (cellsA (.u8 (g ^^^ b))).length) (X.map AVal.u8).length, qB X m, isAt (X.map .u8) (0 + ((m : Int).toNat * 1)) (.u8 g), qB X m, qZ X y m, !((X.length : Int) == 0), Nat.ble (a.length + C.length) 9223372036854775807, !((C.length : Int) != IntKind.wrap .i64 ((s.length : Int) + 16)), !!(φ.ov k n a C == s), !(φ.wr k n a C != 0), !(φ.sr k n a s != 0), φ.sl C, !sum2 a s, !((n.length : Int) != 12), !((k.length : Int) != 32)]
section
variable (φ : Fn) (k n a s d e : List UInt8) (m : Nat) (y : Int) (b g : UInt8)
theorem w5a : ansO (run1O Try.prog (psn φ) (nl6 φ) sy5 [true] [] (mask 5) 100 5 [.str k, .str n, .str a, .str s, .int .i64 y, .u8 b] [] Try.prog.globals.size) = some (.bool true, [((k.length : Int) != 32)]) := by kernel_rfl
theorem w5b : ansO (run1O Try.prog (psn φ) (nl6 φ) sy5 [false, true] [] (mask 5) 100 5 [.str k, .str n, .str a, .str s, .int .i64 y, .u8 b] [] Try.prog.globals.size) = some (.bool true, [((n.length : Int) != 12), !((k.length : Int) != 32)]) := by kernel_rfl
theorem w5c : ansO (run1O Try.prog (psn φ) (nl6 φ) sy5 [false, false, true] [] (mask 5) 100 5 [.str k, .str n, .str a, .str s, .int .i64 y, .u8 b] [] Try.prog.globals.size) = some (.bool true, [sum2 a s, !((n.length : Int) != 12), !((k.length : Int) != 32)]) := by kernel_rfl
theorem w5d : ansO (run1O Try.prog (psn φ) (nl6 φ) sy5 [false, false, false, false, false, false, false, true, true, true] [.int .i64 (m : Int), .u8 g, .str d, .str e, .str d, .str e] (mask 5) 100 5 [.str k, .str n, .str a, .str s, .int .i64 y, .u8 b] [] Try.prog.globals.size) = some (.bool true,
  (b != 0) :: obs φ k n a s d e m y b g) := by kernel_rfl
theorem w5e : ansO (run1O Try.prog (psn φ) (nl6 φ) sy5 [false, false, false, false, false, false, false, true, true, false, true] [.int .i64 (m : Int), .u8 g, .str d, .str e, .str d, .str e] (mask 5) 100 5 [.str k, .str n, .str a, .str s, .int .i64 y, .u8 b] [] Try.prog.globals.size) = some (.bool true,
  (φ.wr k n d e == 0) :: (!(b != 0)) :: obs φ k n a s d e m y b g) := by kernel_rfl
end
theorem strAt_map (L : List UInt8) (o m : Nat) (h : o + m ≤ L.length) : strAt (L.map .u8) o m ((L.drop o).take m) = true := by
  unfold strAt
  rw [← List.map_drop, ← List.map_take, bytesA_map, List.length_map, Nat.ble_eq_true_of_le h]
  simp
theorem pX_eq (X : List UInt8) {m : Nat} (x : UInt8) (h : m < X.length) : pX X m x = (X.set m x).map .u8 := by
  unfold pX
  rw [Int.toNat_natCast, Nat.mul_one, Nat.zero_add]
  exact putA_map .u8 X m x h
theorem qW_le (y : Int) : qW y ≤ 16777215 := by
  unfold qW
  rw [BitVec.toNat_and]
  exact Nat.le_trans Nat.and_le_right (Nat.le_of_eq (by decide))
theorem law5 (k n a s : List UInt8) (y : Int) (b : UInt8) (hka : k.length ≤ reachBytes) (hna : n.length ≤ reachBytes) (hla : a.length ≤ reachBytes) (hls : s.length ≤ reachBytes) : CallOk Try.prog 5 [.str k, .str n, .str a, .str s, .int .i64 y, .u8 b] (.pure (.bool true)) := by
  unfold reachBytes at *
  by_cases h1 : k.length = 32
  case neg =>
    have e : ((k.length : Int) != 32) = true := by simp only [bne_iff_ne, ne_eq]; omega
    exact callOk_val nl6_ok hmix (ansO_run (nl6_ps _) (w5a realFn k n a s y b) (by rw [e]; rfl)) rfl rfl
  have e1 : ((k.length : Int) != 32) = false := by rw [h1]; rfl
  by_cases h2 : n.length = 12
  case neg =>
    have e : ((n.length : Int) != 12) = true := by simp only [bne_iff_ne, ne_eq]; omega
    exact callOk_val nl6_ok hmix (ansO_run (nl6_ps _) (w5b realFn k n a s y b) (by rw [e, e1]; rfl)) rfl rfl
  have e2 : ((n.length : Int) != 12) = false := by rw [h2]; rfl
  cases h3 : sum2 a s with
  | true => exact callOk_val nl6_ok hmix (ansO_run (nl6_ps _) (w5c realFn k n a s y b) (by rw [h3, e1, e2]; rfl)) rfl rfl
  | false =>
  have hl : a.length + s.length ≤ 4096 := by
    unfold sum2 at h3
    have := of_decide_eq_false h3
    rw [wrapI ((a.length : Int) + (s.length : Int)) (by omega) (by omega)] at this
    omega
  have hm : Cha.may k n = true := Go.Cha.may_true.2 ⟨h1, h2⟩
  have s1 := se_ok (a := a) (s := s) hm (by omega) (by omega)
  have o1 := op_se (a := a) (s := s) hm (by omega) (by omega)
  obtain ⟨C, hC⟩ : ∃ C, C = ct k n s ++ tagA k n a (ct k n s) := ⟨_, rfl⟩
  rw [← hC] at s1 o1
  have f1 : realFn.sv k n a s = C := by show (seF _ _ _ _).1 = _; rw [s1]
  have f2 : realFn.sr k n a s = 0 := by show (seF _ _ _ _).2 = _; rw [s1]
  have f3 : realFn.wr k n a C = 0 := by show (opF _ _ _ _).2 = _; rw [o1]
  have f4 : realFn.ov k n a C = s := by show (opF _ _ _ _).1 = _; rw [o1]
  have hCl : C.length = s.length + 16 := by rw [hC, List.length_append, ct_len, tag_len hm]
  have f5 : realFn.sl C = true := slen (by omega)
  obtain ⟨X, hX⟩ : ∃ X, X = a ++ C := ⟨_, rfl⟩
  have hXl : X.length = a.length + (s.length + 16) := by rw [hX, List.length_append, hCl]
  obtain ⟨m, hmd⟩ : ∃ m, qW y % X.length = m := ⟨_, rfl⟩
  have hmX : m < X.length := by rw [← hmd]; exact Nat.mod_lt _ (by omega)
  have hq := qW_le y
  obtain ⟨g, hg⟩ : ∃ g, X[m]? = some g := ⟨_, List.getElem?_eq_getElem hmX⟩
  have hX' : (X.set m (g ^^^ b)).length = X.length := List.length_set ..
  have q1 : ∀ d, d = (X.set m (g ^^^ b)).take a.length → qD X a m (g ^^^ b) d = true := fun d hd => by
    unfold qD
    rw [pX_eq _ _ hmX, hd, Int.toNat_natCast]
    exact strAt_map (X.set m (g ^^^ b)) 0 a.length (by rw [hX']; omega)
  have q2 : ∀ e, e = (X.set m (g ^^^ b)).drop a.length → qE X a m (g ^^^ b) e = true := fun e he => by
    unfold qE
    rw [pX_eq _ _ hmX, he, Int.toNat_natCast, Int.toNat_natCast, Nat.zero_add, Nat.mul_one]
    have := strAt_map (X.set m (g ^^^ b)) a.length (X.length - a.length) (by rw [hX']; omega)
    rwa [List.take_of_length_le (by rw [List.length_drop, hX']; exact Nat.le_refl _)] at this
  have q3 : qI1 X a = true := by unfold qI1; simp only [Bool.and_eq_true, decide_eq_true_eq]; omega
  have q4 : qI2 X a = true := by unfold qI2; simp only [Bool.and_eq_true, decide_eq_true_eq]; omega
  have q5 : qB X m = true := by unfold qB; simp only [Bool.and_eq_true, decide_eq_true_eq]; omega
  have q6 : isAt (X.map .u8) (0 + ((m : Int).toNat * 1)) (.u8 g) = true := isAt_of (by rw [Int.toNat_natCast, Nat.mul_one, Nat.zero_add, List.getElem?_map, hg]; rfl) (by simp [eqS])
  have q7 : Nat.ble ((0 + ((m : Int).toNat * 1)) + (cellsA (.u8 (g ^^^ b))).length) (X.map AVal.u8).length = true := by
    rw [Int.toNat_natCast, Nat.mul_one, Nat.zero_add, List.length_map]
    exact Nat.ble_eq_true_of_le hmX
  have q8 : qZ X y m = true := by
    unfold qZ
    rw [wrapI _ (by omega) (by omega), ← Int.ofNat_tmod, hmd]
    simp [eqS]
  have q9 : ((X.length : Int) == 0) = false := by simp only [beq_eq_false_iff_ne, ne_eq]; omega
  have q10 : Nat.ble (a.length + C.length) 9223372036854775807 = true := Nat.ble_eq_true_of_le (by omega)
  have q11 : ((C.length : Int) != IntKind.wrap .i64 ((s.length : Int) + 16)) = false := by
    rw [wrapI _ (by omega) (by omega), hCl]
    simp
  obtain ⟨d, hd⟩ : ∃ d, d = (X.set m (g ^^^ b)).take a.length := ⟨_, rfl⟩
  obtain ⟨e, he⟩ : ∃ e, e = (X.set m (g ^^^ b)).drop a.length := ⟨_, rfl⟩
  have f6 : realFn.sl e = true := slen (by rw [he, List.length_drop, hX']; omega)
  have all : allT (obs realFn k n a s d e m y b g) = true := by
    unfold obs
    simp only [f1, f2, f3, f4, f5, f6, ← hX, e1, e2, h3, q1 d hd, q2 e he, q3, q4, q5, q6, q7, q8, q9, q10, q11, allT, beq_self_eq_true, bne_self_eq_false, Bool.not_false, Bool.not_true, cond_true]
  by_cases hb : b = 0
  · have hb0 : (b != 0) = false := by rw [hb]; rfl
    have hset : X.set m (g ^^^ b) = X := by
      rw [hb, UInt8.xor_zero]
      apply List.ext_getElem?
      intro j
      by_cases hj : m = j
      · rw [← hj, List.getElem?_set_self hmX, hg]
      · rw [List.getElem?_set_ne hj]
    have ed : d = a := by rw [hd, hset, hX, List.take_left]
    have ee : e = C := by rw [he, hset, hX, List.drop_left]
    have f7 : realFn.wr k n d e = 0 := by rw [ed, ee]; exact f3
    exact callOk_val nl6_ok hmix (ansO_run (nl6_ps _) (w5e realFn k n a s d e m y b g) (by rw [f7, hb0]; exact all)) rfl rfl
  · have hb0 : (b != 0) = true := by simp [hb]
    exact callOk_val nl6_ok hmix (ansO_run (nl6_ps _) (w5d realFn k n a s d e m y b g) (by rw [hb0]; exact all)) rfl rfl
end Go.Proofs.Ytifohjjmbohhnaa.Ae

/- Engine, part 20: from a law's answer to the row. -/
namespace Go.Eng
set_option linter.unusedVariables false
set_option linter.unusedSimpArgs false
open Go Go.WideShapes Go.ChangeShapes
theorem post_of_grew {H : Type} {enc : TypeId × Value → H} {P : Program} {f : Func} {s : ChangeSpec} {apart fresh handsOn again : Bool} {W W' : World} {args : Array Value} {v : Value} {ds gs : List (DataW H)} {before pa pv : List MemPlace}
    (hW : DataW.Whole enc P f.params.toList s.vars apart W args.toList ds gs before)
    (hres : ∀ (b : Nat) (sp : Nat → Bool) (hd : Bool), DataW.TrodAll enc P W' b sp hd f.resultTypes.toList (v.resultList f.resultTypes.size) (s.fn H (ds ++ gs)).results [])
    (hargs : ∀ sp : Nat → Bool, (∀ p ∈ before, sp p.block = true) → DataW.TrodAll enc P W' 0 sp true f.params.toList args.toList (s.fn H (ds ++ gs)).args pa)
    (hvars : ∀ sp : Nat → Bool, (∀ p ∈ before, sp p.block = true) → DataW.TrodVars enc P W' sp s.vars (s.fn H (ds ++ gs)).vars pv)
    (hps : before = pa ++ pv) (hg : Grew W W')
    (hok : ∀ (j : Nat) (t : TypeId) (r : Value), f.resultTypes[j]? = some t → (v.resultList f.resultTypes.size)[j]? = some r → Value.okWide P W' .any 0 t r) :
    s.post enc P f apart fresh handsOn again W args v W' := by
  have hlt := hW.lt
  have hold : ∀ p ∈ before, (fun b => decide (b < W.heap.size)) p.block = true := fun p hp => by simpa using hlt p hp
  refine ⟨ds, gs, before, [], pa, pv, hW, hres _ _ _, hargs _ hold, hvars _ hold, World.keptBut_mono (fun p hp => hp.elim) hg.1, fun _ => ?_⟩
  obtain ⟨_, _, _, _, _, hz, hn⟩ := hW
  have hmem : ∀ p, p ∈ ([] ++ pa) ++ pv → p ∈ before := fun p hp => by rw [hps]; simpa using hp
  refine ⟨hok, _, _, ([] ++ pa) ++ pv, ⟨[] ++ pa, pv, trodAll_append (hargs _ (fun _ _ => rfl)) (hres _ _ _), hvars _ (fun _ _ => rfl), rfl, fun b off hp => ?_, fun ha => ?_⟩, fun p hp _ => ?_⟩
  · have hb := hmem _ hp
    rw [hg.2.1 ⟨b, off, none⟩ (hlt _ hb)]
    exact hz b off hb
  · have := hn ha
    rw [hps] at this
    simpa using this
  · exact hmem _ hp
/-! ### the arguments -/
theorem vr_str (σ : Sig) (a : ByteArray) : VR σ (.str a.data.toList) (.string a) := by
  have := VR.str (σ := σ) a.data.toList
  rwa [Array.toArray_toList] at this
theorem wf_le {k : IntKind} {n : Int} (h : (Lit.int k n).wf = true) : k.min ≤ n ∧ n ≤ k.max := by
  simpa only [Lit.wf, Bool.and_eq_true, decide_eq_true_eq] using h
theorem vr_u8 {a : Int} (h : (Lit.int .u8 a).wf = true) : ∃ x : UInt8, ∀ σ, VR σ (.u8 x) (.int .u8 a) := by
  have h' := wf_le h
  have h1 : (0 : Int) ≤ a := h'.1
  have h2 : a ≤ 255 := h'.2
  refine ⟨UInt8.ofNat a.toNat, fun σ => ?_⟩
  have e : ((UInt8.ofNat a.toNat).toNat : Int) = a := by rw [UInt8.toNat_ofNat_of_lt' (show a.toNat < 256 by omega)]; omega
  have := VR.u8 (σ := σ) (UInt8.ofNat a.toNat)
  rwa [e] at this
theorem vr_u32 {a : Int} (h : (Lit.int .u32 a).wf = true) : ∃ x : UInt32, ∀ σ, VR σ (.u32 x) (.int .u32 a) := by
  have h' := wf_le h
  have h1 : (0 : Int) ≤ a := h'.1
  have h2 : a ≤ 4294967295 := h'.2
  refine ⟨UInt32.ofNat a.toNat, fun σ => ?_⟩
  have e : ((UInt32.ofNat a.toNat).toNat : Int) = a := by rw [UInt32.toNat_ofNat_of_lt' (show a.toNat < 4294967296 by omega)]; omega
  have := VR.u32 (σ := σ) (UInt32.ofNat a.toNat)
  rwa [e] at this
theorem vr_u64 {a : Int} (h : (Lit.int .u64 a).wf = true) : ∃ x : UInt64, ∀ σ, VR σ (.u64 x) (.int .u64 a) := by
  have h' := wf_le h
  have h1 : (0 : Int) ≤ a := h'.1
  have h2 : a ≤ 18446744073709551615 := h'.2
  refine ⟨UInt64.ofNat a.toNat, fun σ => ?_⟩
  have e : ((UInt64.ofNat a.toNat).toNat : Int) = a := by rw [UInt64.toNat_ofNat_of_lt' (show a.toNat < 18446744073709551616 by omega)]; omega
  have := VR.u64 (σ := σ) (UInt64.ofNat a.toNat)
  rwa [e] at this
end Go.Eng
