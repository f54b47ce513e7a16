/- Texts Pv6, Pq1, Pq2, Pq3, Pq4, Pq5, Pq6, Eng20: what they show stands ahead of each. -/
import Derived.Test.YticajoggdghdkaaT8
import Derived.Test.YticajoggdghdkaaT4
import Derived.WalkKit
import Derived.ProofKit
import Derived.OpenShut
import Derived.ShutString
import Derived.ChangeSame
/- The program's tag is the document's. -/
namespace Go.Proofs.Yticajoggdghdkaa
set_option linter.unusedVariables false
set_option linter.unusedSimpArgs false
open Go Go.Eng Go.Poly
set_option maxRecDepth 100000
set_option maxHeartbeats 1000000
set_option linter.unusedSimpArgs false
set_option linter.unusedVariables false
/-- The digits of a piece: its bytes, and 1 behind them. -/
def pN (p : List UInt8) (i : Nat) : Nat := if i = p.length then 1 else if i < p.length then (p.getD i 0).toNat else 0
/-- The digits of the key's first half. -/
def rN (kf : Nat → UInt8) (i : Nat) : Nat := if i < 16 then (mk kf i).toNat else 0
/-! ### the program's side -/
theorem A5_n {h x : Nat → UInt64} (hh : ∀ i, i < 5 → nt h i < 67108869) (hx : ∀ i, i < 5 → nt x i < 67108864) : ∀ k, k ≤ 5 → ∀ i, i < 5 → nt (A5 h x k) i = if i < k then nt h i + nt x i else nt h i
  | 0, _, i, _ => by rw [if_neg (by omega)]; rfl
  | k + 1, hk, i, hi => by
    have ih := A5_n hh hx k (by omega)
    show nt (updF (A5 h x k) k (A5 h x k k + x k)) i = _
    rw [nt_updF]
    have e := ih k (by omega)
    rw [if_neg (by omega)] at e
    have e' : (A5 h x k k).toNat = nt h k := e
    have h1 := hh k (by omega)
    have h2 := hx k (by omega)
    by_cases c : i = k
    · subst c
      rw [if_pos rfl, if_pos (by omega), add_n (by rw [e']; unfold nt at *; omega), e']; rfl
    · rw [if_neg c, ih i hi]
      by_cases d : i < k
      · rw [if_pos d, if_pos (by omega)]
      · rw [if_neg d, if_neg (by omega)]
theorem beq_d (a b : Nat) : Nat.beq a b = decide (a = b) := by
  cases h : Nat.beq a b with
  | true => rw [decide_eq_true (Nat.eq_of_beq_eq_true h)]
  | false => rw [decide_eq_false fun e => by subst e; simp [Nat.beq_refl] at h]
theorem blt_d (a b : Nat) : Nat.blt a b = decide (a < b) := by
  cases h : Nat.blt a b with
  | true => exact (decide_eq_true (show a < b from Nat.le_of_ble_eq_true h)).symm
  | false => rw [decide_eq_false fun e => by rw [show Nat.blt a b = true from Nat.ble_eq_true_of_le e] at h; cases h]
theorem ble_d (a b : Nat) : Nat.ble a b = decide (a ≤ b) := by
  cases h : Nat.ble a b with
  | true => rw [decide_eq_true (Nat.le_of_ble_eq_true h)]
  | false => rw [decide_eq_false fun e => by rw [Nat.ble_eq_true_of_le e] at h; cases h]
theorem pK_gB {s : List UInt8} {k : Nat} (hk : k < nC s) (i : Nat) : gB (((s.map AVal.u8).drop (16 * k)).take (mC s k)) i = (pK s k).getD i 0 := by
  have e : ((s.map AVal.u8).drop (16 * k)).take (mC s k) = (pK s k).map AVal.u8 := by
    unfold pK
    rw [List.drop_take, List.map_take, List.map_drop, Nat.add_sub_cancel_left]
  rw [e, gB_map]
theorem xK_n {s : List UInt8} {k : Nat} (hk : k < nC s) : (∀ i, nt (xK θr s k) i < 67108864) ∧ V5 (xK θr s k) = vN 256 (pN (pK s k)) 17 := by
  obtain ⟨h1, h2, h3, h4⟩ := mC_bnd hk
  have hpl := pK_len hk
  obtain ⟨a, b⟩ := ofN_ok (gB (((s.map AVal.u8).drop (16 * k)).take (mC s k))) (m := mC s k) (n := mC s k) h4
  refine ⟨a, ?_⟩
  show V5 (ofN _ _ _ 17) = _
  rw [b]
  refine vN_congr fun i hi => ?_
  unfold bN pN bt
  rw [pK_gB hk, beq_d, blt_d, blt_d, hpl, decide_eq_true h3]
  simp only [Bool.true_and]
  by_cases c : i = mC s k
  · rw [if_pos c, decide_eq_true c]; rfl
  · rw [if_neg c, decide_eq_false c, cond_false]
    by_cases d : i < mC s k
    · rw [if_pos d, decide_eq_true d, cond_true, UInt8.toNat_toUInt64]
    · rw [if_neg d, decide_eq_false d]; rfl
theorem rK_n (kf : Nat → UInt8) : (∀ i, nt (rK θr kf) i < 67108864) ∧ V5 (rK θr kf) = vN 256 (rN kf) 16 := by
  obtain ⟨a, b⟩ := ofN_ok (gB (cellsB 16 (mk kf))) (m := 16) (n := 0) (by omega)
  refine ⟨a, ?_⟩
  show V5 (ofN (gB (cellsB 16 (mk kf))) 16 0 17) = _
  rw [b]
  have h16 : bN (gB (cellsB 16 (mk kf))) 16 0 16 = 0 := rfl
  show vN 256 _ 16 + bN (gB (cellsB 16 (mk kf))) 16 0 16 * 256 ^ 16 = _
  rw [h16, Nat.zero_mul, Nat.add_zero]
  refine vN_congr fun i hi => ?_
  unfold bN rN bt
  rw [gB_cellsB, blt_d, blt_d, if_pos hi, decide_eq_true hi]
  show ((nB 16 (mk kf) i).toUInt64).toNat = _
  rw [UInt8.toNat_toUInt64]
  unfold nB
  rw [if_pos hi]
theorem stepK_ok {kf : Nat → UInt8} {h x : Nat → UInt64} (hh : N5 (nt h)) (hx : ∀ i, i < 5 → nt x i < 67108864) : N5 (nt (stepK θr kf h x)) ∧ V5 (stepK θr kf h x) % Pp = (V5 h + V5 x) * V5 (rK θr kf) % Pp := by
  have hA := A5_n (N5_lt hh) hx 5 (by omega)
  have hA5 : ∀ i, i < 5 → nt (nU 5 (A5 h x 5)) i = nt h i + nt x i := fun i hi => by rw [nt_nU _ _ i hi, hA i hi, if_pos hi]
  have hl : ∀ i, i < 5 → nt (nU 5 (A5 h x 5)) i < M62 := fun i hi => by
    rw [hA5 i hi]
    have := N5_lt hh i hi
    have := hx i hi
    unfold M62
    omega
  obtain ⟨c1, c2, _⟩ := carF_ok hl
  have d1 : ∀ i, i < 5 → nt (nU 5 (carF (nU 5 (A5 h x 5)))) i < 134217728 := fun i hi => by
    rw [nt_nU _ _ i hi]
    have := N5_lt c1 i hi
    omega
  have d2 : ∀ i, i < 5 → nt (nU 5 (rK θr kf)) i < 134217728 := fun i hi => by
    rw [nt_nU _ _ i hi]
    have := (rK_n kf).1 i
    omega
  obtain ⟨e1, e2⟩ := mulF_ok d1 d2
  have e : stepK θr kf h x = mulF (nU 5 (carF (nU 5 (A5 h x 5)))) (nU 5 (rK θr kf)) := by
    unfold stepK
    rw [gU_cellsU, gU_cellsU, gU_cellsU]; rfl
  rw [e]
  refine ⟨e1, ?_⟩
  rw [e2, V5_nU, V5_nU]
  refine mod_mul ?_ rfl
  rw [c2]
  have : V5 (nU 5 (A5 h x 5)) = V5 h + V5 x := by
    unfold V5
    rw [← vN_add]
    exact vN_congr hA5
  rw [this]
/-! ### the document's side -/
theorem mk8_n (kf : Nat → UInt8) (i : Nat) : nt (mk8 kf) i = rN kf i := by
  unfold nt mk8 rN mk
  rw [ble_d]
  by_cases h : i < 16
  · rw [if_pos h, decide_eq_false (by omega), cond_false]
    cases (Nat.beq i 3 || (Nat.beq i 7 || (Nat.beq i 11 || Nat.beq i 15))) with
    | true =>
      simp only [cond_true]
      rw [UInt64.toNat_and, UInt8.toNat_and, UInt8.toNat_toUInt64]; rfl
    | false =>
      simp only [cond_false]
      cases (Nat.beq i 4 || (Nat.beq i 8 || Nat.beq i 12)) with
      | true =>
        simp only [cond_true]
        rw [UInt64.toNat_and, UInt8.toNat_and, UInt8.toNat_toUInt64]; rfl
      | false =>
        simp only [cond_false]
        rw [UInt8.toNat_toUInt64]
  · rw [if_neg h, decide_eq_true (by omega)]; rfl
theorem rN_lt (kf : Nat → UInt8) (i : Nat) : rN kf i < 256 := by
  unfold rN
  split
  · exact (mk kf i).toNat_lt
  · omega
theorem vN_18z {t : Nat → Nat} (h16 : t 16 = 0) (h17 : t 17 = 0) : vN 256 t 18 = vN 256 t 16 := by
  rw [vN_18, h16, h17]
  generalize 256 ^ 16 = p
  generalize 256 ^ 17 = q
  omega
theorem rN_high (kf : Nat → UInt8) {i : Nat} (h : 16 ≤ i) : rN kf i = 0 := by unfold rN; rw [if_neg (by omega)]
theorem lt_130 {v : Nat} (h : v < 256 ^ 16) : v < 2 ^ 130 := by omega
theorem V18_mk8 (kf : Nat → UInt8) : C18 (nt (mk8 kf)) ∧ V18 (mk8 kf) = vN 256 (rN kf) 16 := by
  have e : V18 (mk8 kf) = vN 256 (rN kf) 16 := by
    unfold V18
    rw [vN_congr (x := nt (mk8 kf)) (y := rN kf) fun i _ => mk8_n kf i, vN_18z (rN_high kf (by omega)) (rN_high kf (by omega))]
  refine ⟨⟨fun i _ => by rw [mk8_n]; exact rN_lt kf i, ?_⟩, e⟩
  show V18 (mk8 kf) < 2 ^ 130
  rw [e]
  exact lt_130 (vN_lt (b := 256) (by omega) (x := rN kf) (n := 16) fun i _ => rN_lt kf i)
theorem B8_n {h : Nat → UInt64} {p : List UInt8} (hh : ∀ i, nt h i < 256 ∨ 18 ≤ i) : ∀ k, k ≤ 17 → ∀ i, nt (B8 h p k) i = if i < k then nt h i + (p.getD i 0).toNat else nt h i
  | 0, _, i => by rw [if_neg (by omega)]; rfl
  | k + 1, hk, i => by
    have ih := B8_n (p := p) hh k (by omega)
    show nt (updF (B8 h p k) k (B8 h p k k + (p.getD k 0).toUInt64)) i = _
    rw [nt_updF]
    have e := ih k
    rw [if_neg (by omega)] at e
    have e' : (B8 h p k k).toNat = nt h k := e
    have h1 : nt h k < 256 := by
      rcases hh k with h1 | h1
      · exact h1
      · omega
    have h2 := (p.getD k 0).toNat_lt
    by_cases c : i = k
    · subst c
      rw [if_pos rfl, if_pos (by omega), add_n (by rw [e', UInt8.toNat_toUInt64]; omega), e', UInt8.toNat_toUInt64]
    · rw [if_neg c, ih i]
      by_cases d : i < k
      · rw [if_pos d, if_pos (by omega)]
      · rw [if_neg d, if_neg (by omega)]
theorem oneD_n {h : Nat → UInt64} {p : List UInt8} (hC : C18 (nt h)) (hp : p.length ≤ 16) : (∀ i, i < 18 → nt (oneD h p) i ≤ 4096) ∧ V18 (oneD h p) = V18 h + vN 256 (pN p) 17 := by
  have hh : ∀ i, nt h i < 256 ∨ 18 ≤ i := fun i => by
    by_cases c : i < 18
    · exact .inl (hC.1 i c)
    · exact .inr (by omega)
  have hB := B8_n (p := p) hh p.length (by omega)
  have e : ∀ i, i < 18 → nt (oneD h p) i = nt h i + pN p i := fun i hi => by
    unfold oneD
    rw [nt_updF]
    unfold pN
    have hl := hC.1 i hi
    by_cases c : i = p.length
    · rw [if_pos c, if_pos c]
      have e2 := hB p.length
      rw [if_neg (by omega)] at e2
      have e3 : (B8 h p p.length p.length).toNat = nt h p.length := e2
      have e1 : (1 : UInt64).toNat = 1 := rfl
      rw [add_n (by rw [e3, e1, ← c]; omega), e3, e1, c]
    · rw [if_neg c, if_neg c, hB i]
      by_cases d : i < p.length
      · rw [if_pos d, if_pos d]
      · rw [if_neg d, if_neg d, Nat.add_zero]
  refine ⟨fun i hi => ?_, ?_⟩
  · rw [e i hi]
    have := hC.1 i hi
    have h2 := (p.getD i 0).toNat_lt
    unfold pN
    split
    · omega
    · split <;> omega
  · unfold V18
    rw [vN_congr e, vN_add]
    congr 1
    have h17 : pN p 17 = 0 := by unfold pN; rw [if_neg (by omega), if_neg (by omega)]
    rw [vN_18b, h17, Nat.zero_mul, Nat.add_zero]
theorem stepD_ok {kf : Nat → UInt8} {h : Nat → UInt64} {p : List UInt8} (hh : C18 (nt h)) (hp : p.length ≤ 16) : C18 (nt (stepD θr kf h p)) ∧ V18 (stepD θr kf h p) % Pp = (V18 h + vN 256 (pN p) 17) * vN 256 (rN kf) 16 % Pp := by
  obtain ⟨a1, a2⟩ := oneD_n hh hp
  have b1 : ∀ i, i < 18 → nt (nU 18 (oneD h p)) i ≤ 4096 := fun i hi => by rw [nt_nU _ _ i hi]; exact a1 i hi
  obtain ⟨c1, c2⟩ := carR_ok b1
  obtain ⟨r1, r2⟩ := V18_mk8 kf
  have d1 : C18 (nt (nU 18 (carR (nU 18 (oneD h p))))) := C18_congr (nt_nU _ 18) c1
  have d2 : C18 (nt (nU 18 (mk8 kf))) := C18_congr (nt_nU _ 18) r1
  obtain ⟨e1, e2⟩ := mulRF_ok d1 d2
  have e : stepD θr kf h p = mulRF (nU 18 (carR (nU 18 (oneD h p)))) (nU 18 (mk8 kf)) := by
    unfold stepD
    rw [gU_cellsU, gU_cellsU, gU_cellsU]; rfl
  rw [e]
  refine ⟨e1, ?_⟩
  rw [e2, V18_nU, V18_nU, r2]
  refine mod_mul ?_ rfl
  rw [c2, V18_nU, a2]
/-- Piece by piece both numbers are the same. -/
theorem both_h (kf : Nat → UInt8) (s : List UInt8) : ∀ k, k ≤ nC s → N5 (nt (hK θr kf s k)) ∧ C18 (nt (hD θr kf s k)) ∧ V5 (hK θr kf s k) % Pp = V18 (hD θr kf s k) % Pp
  | 0, _ => by
    have z5 : ∀ i, nt (hK θr kf s 0) i = 0 := fun i => rfl
    have z18 : ∀ i, nt (hD θr kf s 0) i = 0 := fun i => rfl
    have v18 : vN 256 (nt (hD θr kf s 0)) 18 = 0 := vN_zero 256 fun i _ => z18 i
    have v5 : vN B26 (nt (hK θr kf s 0)) 5 = 0 := vN_zero B26 fun i _ => z5 i
    refine ⟨⟨by rw [z5]; omega, fun i _ _ => by rw [z5]; unfold B26; omega⟩, ⟨fun i _ => by rw [z18]; omega, by rw [v18]; omega⟩, ?_⟩
    unfold V5 V18
    rw [v18, v5]
  | k + 1, hk => by
    obtain ⟨h1, h2, h3⟩ := both_h kf s k (by omega)
    have hkN : k < nC s := by omega
    obtain ⟨x1, x2⟩ := xK_n hkN
    have hp := pK_len hkN
    have hm := (mC_bnd hkN).2.2.2
    obtain ⟨a1, a2⟩ := stepK_ok (kf := kf) h1 fun i _ => x1 i
    obtain ⟨b1, b2⟩ := stepD_ok (kf := kf) (p := pK s k) h2 (by omega)
    refine ⟨a1, b1, ?_⟩
    show V5 (stepK θr kf (hK θr kf s k) (xK θr s k)) % Pp = V18 (stepD θr kf (hD θr kf s k) (pK s k)) % Pp
    rw [a2, b2, x2, (rK_n kf).2]
    exact mod_mul (mod_add h3 rfl) rfl
/-- The bytes of the number at the end. -/
def endD (kf : Nat → UInt8) (s : List UInt8) : Nat → UInt64 := wholeF (gU (cellsU 18 (hD θr kf s (nC s))))
theorem both_end (kf : Nat → UInt8) (s : List UInt8) : ∀ i, i < 16 → (xw (endK θr kf s) i &&& 255) = endD kf s i := fun i hi => by
  obtain ⟨h1, h2, h3⟩ := both_h kf s (nC s) (Nat.le_refl _)
  have a0 : ∀ i, i < 5 → nt (nU 5 (hK θr kf s (nC s))) i < M62 := fun i hi => by rw [nt_nU _ _ i hi]; exact N5_62 h1 i hi
  obtain ⟨a1, a2⟩ := redF_ok a0
  have b0 : ∀ i, i < 18 → nt (nU 18 (hD θr kf s (nC s))) i ≤ 4096 := fun i hi => by rw [nt_nU _ _ i hi]; have := h2.1 i hi; omega
  obtain ⟨b1, b2⟩ := wholeF_ok b0
  have e1 : endK θr kf s = redF (nU 5 (hK θr kf s (nC s))) := by unfold endK; rw [gU_cellsU]; rfl
  have e2 : endD kf s = wholeF (nU 18 (hD θr kf s (nC s))) := by unfold endD; rw [gU_cellsU]
  have e3 : V5 (endK θr kf s) = V18 (endD kf s) := by rw [e1, e2, a2, b2, V5_nU, V18_nU, h3]
  apply UInt64.toNat_inj.1
  rw [← e1] at a1
  rw [← e2] at b1
  rw [xw_n a1 i hi, e3]
  exact vN_digit (b := 256) (by omega) (x := nt (endD kf s)) (n := 18) b1.1 (by omega)
theorem c1_d1 (kf : Nat → UInt8) (s : List UInt8) (c : UInt64) {i : Nat} (hi : i < 16) : c1 (endK θr kf s) kf c i = d1 (endD kf s) kf c i := by
  unfold c1 d1
  rw [both_end kf s i hi, UInt64.add_comm]
theorem cN_dN (kf : Nat → UInt8) (s : List UInt8) : ∀ i, i ≤ 16 → cN (endK θr kf s) kf i = dN (endD kf s) kf i
  | 0, _ => rfl
  | i + 1, h => by
    show shr_u64 (c1 _ kf _ i) 8 = shr_u64 (d1 _ kf _ i) 8
    rw [cN_dN kf s i (by omega), c1_d1 kf s _ (by omega)]
theorem tN_uN (kf : Nat → UInt8) (s : List UInt8) : ∀ i, i ≤ 16 → tN (endK θr kf s) kf i = uN (endD kf s) kf i
  | 0, _ => rfl
  | i + 1, h => by
    show updF _ i (c1 _ kf _ i).toUInt8 = updF _ i (d1 _ kf _ i).toUInt8
    rw [tN_uN kf s i (by omega), cN_dN kf s i (by omega), c1_d1 kf s _ (by omega)]
/-- The program's tag is the document's. -/
theorem tag_eq (kf : Nat → UInt8) (s : List UInt8) : tagF θr kf s = docF θr kf s := by
  show (List.range 16).map (tN (endK θr kf s) kf 16) = (List.range 16).map (uN (endD kf s) kf 16)
  rw [tN_uN kf s 16 (Nat.le_refl _)]
end Go.Proofs.Yticajoggdghdkaa

/- Whether two texts are the same. -/
namespace Go.Proofs.Yticajoggdghdkaa
set_option linter.unusedVariables false
set_option linter.unusedSimpArgs false
open Go Go.Eng
set_option maxRecDepth 100000
set_option maxHeartbeats 1000000
set_option linter.unusedSimpArgs false
set_option linter.unusedVariables false
noncomputable def p9 : List Code := pieces (bodyOf Try.f9)
noncomputable def L9 : Code := loopOf (p9.getD 3 .skip)
def T9 (a b : List UInt8) (x : UInt8) (m i : Nat) : TL := [(0, .str a), (1, .str b), (4, .bool false), (5, .u8 x), (11, .int .i64 (m : Int)), (12, .int .i64 (i : Int))]
def S9 (a b : List UInt8) (x : UInt8) (m i : Nat) : SA := ⟨T9 a b x m i, [], 64⟩
section
variable (a b : List UInt8) (x x0 : UInt8) (m i j F : Nat)
theorem p9_3 : (pieces (bodyOf Try.f9))[3]? = some (.block 0 (.loop L9)) := by kernel_rfl
theorem w9a : segO (evSO Try.prog noPS noCS [200011] Try.f9.ntmps (mask 9) (F + 100) 0 ((pieces (bodyOf Try.f9)).take 3) ⟨startT [.str a, .str b] 0, [], 0⟩ ⟨[], [.int .i64 (m : Int)], []⟩) = some (S9 a b 0 m 0, [eqS (.int .i64 (if (b.length : Int) < (a.length : Int) then (b.length : Int) else (a.length : Int))) (.int .i64 (m : Int))]) := by kernel_rfl
theorem w9r : roundO2 Try.prog noPS noCS [13,18,21,200012] [true] [.int .i64 (j : Int)] Try.f9.ntmps (mask 9) F 0 L9 (S9 a b x0 m 0) (S9 a b x m i) = some (S9 a b (x ||| (a.getD (i : Int).toNat 0 ^^^ b.getD (i : Int).toNat 0)) m j, [eqS (.int .i64 (IntKind.wrap .i64 ((i : Int) + 1))) (.int .i64 (j : Int)), decide (0 ≤ (i : Int)) && decide ((i : Int) < (b.length : Int)), decide (0 ≤ (i : Int)) && decide ((i : Int) < (a.length : Int)), decide ((i : Int) < (m : Int))]) := by kernel_rfl
theorem w9x : evSO Try.prog noPS noCS [13] Try.f9.ntmps (mask 9) F 0 [L9] (S9 a b x m i) ⟨[false], [], []⟩ = some (.exit 0, ⟨T9 a b x m i ++ [(13, .bool false)], [], 72⟩, ⟨[], [], [!(decide ((i : Int) < (m : Int)))]⟩) := by kernel_rfl
theorem w9t : ansF Try.prog Try.f9 (evSO Try.prog noPS noCS [26] Try.f9.ntmps (mask 9) F 0 ((pieces (bodyOf Try.f9)).drop 4) ⟨T9 a b x m i ++ [(13, .bool false)], [], 72⟩ ⟨[true], [], []⟩) = some (.bool ((a.length : Int) == (b.length : Int)), [x == 0]) := by kernel_rfl
theorem w9f : ansF Try.prog Try.f9 (evSO Try.prog noPS noCS [26] Try.f9.ntmps (mask 9) F 0 ((pieces (bodyOf Try.f9)).drop 4) ⟨T9 a b x m i ++ [(13, .bool false)], [], 72⟩ ⟨[false], [], []⟩) = some (.bool false, [!(x == 0)]) := by kernel_rfl
theorem ok9 : okS Try.prog (S9 a b x m i) = true := by kernel_rfl
end
def xr (a b : List UInt8) : Nat → UInt8
  | 0 => 0
  | i + 1 => xr a b i ||| (a.getD i 0 ^^^ b.getD i 0)
theorem or_z {x y : UInt8} : (x ||| y) = 0 ↔ x = 0 ∧ y = 0 := by
  constructor
  · intro h
    have h1 := congrArg UInt8.toNat h
    rw [UInt8.toNat_or] at h1
    have h2 : x.toNat ||| y.toNat = 0 := h1
    exact ⟨UInt8.toNat_inj.1 (Nat.or_eq_zero_iff.1 h2).1, UInt8.toNat_inj.1 (Nat.or_eq_zero_iff.1 h2).2⟩
  · rintro ⟨rfl, rfl⟩; rfl
theorem xor_z {x y : UInt8} : (x ^^^ y) = 0 ↔ x = y := UInt8.xor_eq_zero_iff
theorem xr_z (a b : List UInt8) : ∀ n, xr a b n = 0 ↔ ∀ i, i < n → a.getD i 0 = b.getD i 0
  | 0 => ⟨fun _ i h => by omega, fun _ => rfl⟩
  | n + 1 => by
    show (xr a b n ||| _) = 0 ↔ _
    rw [or_z, xr_z a b n, xor_z]
    constructor
    · rintro ⟨h1, h2⟩ i hi
      by_cases e : i = n
      · subst e; exact h2
      · exact h1 i (by omega)
    · intro h
      exact ⟨fun i hi => h i (by omega), h n (by omega)⟩
theorem same_val (a b : List UInt8) : (cond (xr a b (min a.length b.length) == 0) ((a.length : Int) == (b.length : Int)) false) = (a == b) := by
  by_cases hl : a.length = b.length
  · have e : ((a.length : Int) == (b.length : Int)) = true := by rw [hl]; simp
    rw [e]
    have hm : min a.length b.length = a.length := by omega
    by_cases hx : xr a b (min a.length b.length) = 0
    · have : a = b := by
        apply List.ext_getElem hl
        intro i h1 h2
        have := (xr_z a b _).1 hx i (by omega)
        rw [List.getD_eq_getElem?_getD, List.getD_eq_getElem?_getD, List.getElem?_eq_getElem h1, List.getElem?_eq_getElem h2] at this
        exact this
      rw [hx, this]; simp
    · have : a ≠ b := by
        intro h
        subst h
        exact hx ((xr_z a a _).2 fun i _ => rfl)
      have e1 : (xr a b (min a.length b.length) == 0) = false := by simp [hx]
      have e2 : (a == b) = false := by simp [this]
      rw [e1, e2]; rfl
  · have : a ≠ b := fun h => hl (by rw [h])
    have e : ((a.length : Int) == (b.length : Int)) = false := by simp; omega
    have e2 : (a == b) = false := by simp [this]
    rw [e, e2]
    cases (xr a b (min a.length b.length) == 0) <;> rfl
theorem run9 (a b : List UInt8) (hs : a.length < 1000000000000) : (run1 Try.prog noCS (mask 9) (a.length + 100 + 100) 9 [.str a, .str b] [] Try.prog.globals.size).map (·.1) = some (.bool (a == b)) := by
  rw [gl]
  obtain ⟨m, hm⟩ : ∃ m, m = min a.length b.length := ⟨_, rfl⟩
  have hp := segO_pre (noPS_ok _) (w9a a b m (a.length + 100)) (by
    have : eqS (.int .i64 (if (b.length : Int) < (a.length : Int) then (b.length : Int) else (a.length : Int))) (.int .i64 (m : Int)) = true := eqI (by split <;> omega)
    simp only [allT, this, cond_true])
  have hr : ∀ i, i < m → roundA (evC Try.prog noCS Try.f9.ntmps (mask 9) (a.length + 100 + 100) 0 L9) (headA Try.prog 0 (S9 a b (xr a b 0) m 0)) (S9 a b (xr a b i) m i) = some (S9 a b (xr a b (i + 1)) m (i + 1)) := fun i hi => by
    have q := w9r a b (xr a b i) 0 m i (i + 1) (a.length + 100 + 100)
    rw [Int.toNat_natCast] at q
    refine roundO2_ok (noPS_ok _) q ?_ (ok9 ..)
    have o1 : eqS (.int .i64 (IntKind.wrap .i64 ((i : Int) + 1))) (.int .i64 ((i + 1 : Nat) : Int)) = true := eqS_i64 (by rw [wrapI _ (by omega) (by omega)]; omega)
    have o2 : (decide (0 ≤ (i : Int)) && decide ((i : Int) < (b.length : Int))) = true := by simp only [Bool.and_eq_true, decide_eq_true_eq]; omega
    have o3 : (decide (0 ≤ (i : Int)) && decide ((i : Int) < (a.length : Int))) = true := by simp only [Bool.and_eq_true, decide_eq_true_eq]; omega
    have o4 : decide ((i : Int) < (m : Int)) = true := decide_eq_true (by omega)
    simp only [allT, o1, o2, o3, o4, cond_true]
  have hx := (evSO_ok (noPS_ok _) _ _ _ _ _ _ (w9x a b (xr a b m) m m (a.length + 100 + 100)) (by simp [allT])).1
  rw [evS_one] at hx
  have hv := same_val a b
  rw [← hm] at hv
  have ht : finV Try.prog Try.f9 (evS Try.prog noCS Try.f9.ntmps (mask 9) (a.length + 100 + 100) 0 ((pieces (bodyOf Try.f9)).drop 4) ⟨T9 a b (xr a b m) m m ++ [(13, .bool false)], [], 72⟩) = some (.bool (a == b)) := by
    cases hc : (xr a b m == 0) <;> rw [hc] at hv <;> simp only [cond_true, cond_false] at hv <;> rw [← hv]
    · exact (ansF_ok2 (noPS_ok _) (w9f a b (xr a b m) m m _) (by rw [hc]; rfl)).1
    · exact (ansF_ok2 (noPS_ok _) (w9t a b (xr a b m) m m _) (by rw [hc]; rfl)).1
  exact run_loop (fn := Try.f9) (c := bodyOf Try.f9) (by kernel_rfl) (by kernel_rfl) (by kernel_rfl) 3 p9_3 (fun i => S9 a b (xr a b i) m i) m hp hr hx (by omega) ht
theorem call9 (a b : List UInt8) (hs : a.length < 1000000000000) : CallOk Try.prog 9 [.str a, .str b] (.pure (.bool (a == b))) := callOk_val (noCS_ok _) hmix (run9 a b hs) rfl rfl
end Go.Proofs.Yticajoggdghdkaa

/- Tags as summaries; the bytes of a tag. -/
namespace Go.Proofs.Yticajoggdghdkaa
set_option linter.unusedVariables false
set_option linter.unusedSimpArgs false
open Go Go.Eng Go.Poly
set_option maxRecDepth 100000
set_option maxHeartbeats 1000000
set_option linter.unusedSimpArgs false
set_option linter.unusedVariables false
def kfOf (k : List UInt8) (i : Nat) : UInt8 := k.getD i 0
theorem keyL_of {k : List UInt8} (h : k.length = 32) : keyL (kfOf k) = k := by
  unfold keyL
  apply List.ext_getElem
  · simp [h]
  · intro i h1 h2
    rw [List.getElem_map, List.getElem_range]
    unfold kfOf
    rw [List.getD_eq_getElem?_getD, List.getElem?_eq_getElem h2]; rfl
def tvR (k s : List UInt8) : List UInt8 := cond (Nat.beq k.length 32) (tagF θr (kfOf k) s) []
def trR (k : List UInt8) : Int := cond (Nat.beq k.length 32) 0 2
def shR (s : List UInt8) : Bool := Nat.ble s.length 1000000
def smR (a b : List UInt8) : Bool := a == b
structure Fz where
  tv : List UInt8 → List UInt8 → List UInt8
  tr : List UInt8 → Int
  sm : List UInt8 → List UInt8 → Bool
  sh : List UInt8 → Bool
def realFz : Fz := ⟨tvR, trR, smR, shR⟩
theorem call7 (k s : List UInt8) (h : shR s = true) : CallOk Try.prog 7 [.str k, .str s] (.pure (.tup [.str (tvR k s), .int .i64 (trR k)])) := by
  have hs := Nat.le_of_ble_eq_true h
  unfold tvR trR
  by_cases hk : k.length = 32
  · rw [hk, show Nat.beq 32 32 = true by rfl, cond_true, cond_true]
    have := callOk7 nq_ok (kfOf k) s (by omega)
    rw [keyL_of hk] at this
    exact this
  · have hb : Nat.beq k.length 32 = false := by rw [beq_d, decide_eq_false hk]
    rw [hb, cond_false, cond_false]
    refine callOk_val nq_ok hmix (ansO_run (noPS_ok _) (run7n θr k s) ?_) rfl rfl
    have : ((k.length : Int) != 32) = true := by simp only [bne_iff_ne, ne_eq]; omega
    simp only [allT, this, cond_true]
theorem call8 (k s : List UInt8) (h : shR s = true) : CallOk Try.prog 8 [.str k, .str s] (.pure (.tup [.str (tvR k s), .int .i64 (trR k)])) := by
  have hs := Nat.le_of_ble_eq_true h
  unfold tvR trR
  by_cases hk : k.length = 32
  · rw [hk, show Nat.beq 32 32 = true by rfl, cond_true, cond_true]
    have := callOk8 nq_ok (kfOf k) s (by omega)
    rw [keyL_of hk, ← tag_eq] at this
    exact this
  · have hb : Nat.beq k.length 32 = false := by rw [beq_d, decide_eq_false hk]
    rw [hb, cond_false, cond_false]
    refine callOk_val nq_ok hmix (ansO_run (noPS_ok _) (run8n θr k s) ?_) rfl rfl
    have : ((k.length : Int) != 32) = true := by simp only [bne_iff_ne, ne_eq]; omega
    simp only [allT, this, cond_true]
def z7 (φ : Fz) : List AVal → Option (EffA × Bool)
  | [.str k, .str s] => some (.pure (.tup [.str (φ.tv k s), .int .i64 (φ.tr k)]), φ.sh s)
  | _ => none
def z9 (φ : Fz) : List AVal → Option (EffA × Bool)
  | [.str a, .str b] => some (.pure (.bool (φ.sm a b)), φ.sh a)
  | _ => none
theorem z7_ok : CSOk Try.prog (csP (psOne 7 (z7 realFz))) := csP_one fun args v he => by
  unfold z7 at he
  split at he
  · rename_i k s
    simp only [Option.some.injEq, Prod.mk.injEq] at he
    obtain ⟨rfl, h⟩ := he
    exact call7 k s h
  · cases he
theorem z8_ok : CSOk Try.prog (csP (psOne 8 (z7 realFz))) := csP_one fun args v he => by
  unfold z7 at he
  split at he
  · rename_i k s
    simp only [Option.some.injEq, Prod.mk.injEq] at he
    obtain ⟨rfl, h⟩ := he
    exact call8 k s h
  · cases he
theorem z9_ok : CSOk Try.prog (csP (psOne 9 (z9 realFz))) := csP_one fun args v he => by
  unfold z9 at he
  split at he
  · rename_i a b
    simp only [Option.some.injEq, Prod.mk.injEq] at he
    obtain ⟨rfl, h⟩ := he
    exact call9 a b (by have : a.length ≤ 1000000 := Nat.le_of_ble_eq_true h; omega)
  · cases he
def psz (φ : Fz) : PS := psAlt (psOne 7 (z7 φ)) (psAlt (psOne 8 (z7 φ)) (psOne 9 (z9 φ)))
theorem psz_ok : CSOk Try.prog (csP (psz realFz)) := csP_alt z7_ok (csP_alt z8_ok z9_ok)
def nz0 (φ : Fz) : CS := csAlt (csP (psz φ)) noCS
theorem nz0_ok : CSOk Try.prog (nz0 realFz) := csAlt_ok psz_ok (noCS_ok _)
theorem nz0_ps (φ : Fz) : PSOk (psz φ) (nz0 φ) := csP_ok
/-! ### the bytes of a tag -/
def Eb (kf : Nat → UInt8) (s : List UInt8) (i : Nat) : Nat := V5 (endK θr kf s) / 256 ^ i % 256
def cyN (kf : Nat → UInt8) (E : Nat → Nat) : Nat → Nat
  | 0 => 0
  | i + 1 => (cyN kf E i + (E i + (kf (16 + i)).toNat)) / 256
theorem cy_le {kf : Nat → UInt8} {E : Nat → Nat} (hE : ∀ i, E i < 256) : ∀ i, cyN kf E i ≤ 1
  | 0 => Nat.zero_le _
  | i + 1 => by
    have := cy_le (kf := kf) hE i
    have := hE i
    have := (kf (16 + i)).toNat_lt
    show (cyN kf E i + (E i + (kf (16 + i)).toNat)) / 256 ≤ 1
    omega
theorem end_T5 (kf : Nat → UInt8) (s : List UInt8) : T5 (nt (endK θr kf s)) := by
  obtain ⟨h1, h2, h3⟩ := both_h kf s (nC s) (Nat.le_refl _)
  have a0 : ∀ i, i < 5 → nt (nU 5 (hK θr kf s (nC s))) i < M62 := fun i hi => by rw [nt_nU _ _ i hi]; exact N5_62 h1 i hi
  have e1 : endK θr kf s = redF (nU 5 (hK θr kf s (nC s))) := by unfold endK; rw [gU_cellsU]; rfl
  rw [e1]
  exact (redF_ok a0).1
theorem end_V5 (kf : Nat → UInt8) (s : List UInt8) : V5 (endK θr kf s) = V5 (hK θr kf s (nC s)) % Pp := by
  obtain ⟨h1, h2, h3⟩ := both_h kf s (nC s) (Nat.le_refl _)
  have a0 : ∀ i, i < 5 → nt (nU 5 (hK θr kf s (nC s))) i < M62 := fun i hi => by rw [nt_nU _ _ i hi]; exact N5_62 h1 i hi
  have e1 : endK θr kf s = redF (nU 5 (hK θr kf s (nC s))) := by unfold endK; rw [gU_cellsU]; rfl
  rw [e1, (redF_ok a0).2, V5_nU]
theorem Eb_lt (kf : Nat → UInt8) (s : List UInt8) (i : Nat) : Eb kf s i < 256 := Nat.mod_lt _ (by omega)
theorem c1_n (kf : Nat → UInt8) (s : List UInt8) {c : UInt64} {k : Nat} (hc : c.toNat = k) (hk : k ≤ 1) {i : Nat} (hi : i < 16) : (c1 (endK θr kf s) kf c i).toNat = k + (Eb kf s i + (kf (16 + i)).toNat) := by
  have h1 := xw_n (end_T5 kf s) i hi
  have h2 := Eb_lt kf s i
  have h3 := (kf (16 + i)).toNat_lt
  have h1' : (xw (endK θr kf s) i &&& 255).toNat = Eb kf s i := h1
  have e : ((xw (endK θr kf s) i &&& 255) + (kf (16 + i)).toUInt64).toNat = Eb kf s i + (kf (16 + i)).toNat := by
    rw [add_n (by rw [h1', UInt8.toNat_toUInt64]; omega), h1', UInt8.toNat_toUInt64]
  unfold c1
  rw [add_n (by rw [e, hc]; omega), e, hc]
theorem cN_n (kf : Nat → UInt8) (s : List UInt8) : ∀ i, i ≤ 16 → (cN (endK θr kf s) kf i).toNat = cyN kf (Eb kf s) i
  | 0, _ => rfl
  | i + 1, h => by
    show (shr_u64 (c1 (endK θr kf s) kf (cN (endK θr kf s) kf i) i) 8).toNat = (cyN kf (Eb kf s) i + (Eb kf s i + (kf (16 + i)).toNat)) / 256
    rw [shr_n _ _ (by omega), c1_n kf s (cN_n kf s i (by omega)) (cy_le (Eb_lt kf s) i) (by omega)]
theorem tN_get (h : Nat → UInt64) (kf : Nat → UInt8) : ∀ n, ∀ i, i < n → tN h kf n i = (c1 h kf (cN h kf i) i).toUInt8
  | 0, i, hi => by omega
  | n + 1, i, hi => by
    show updF (tN h kf n) n (c1 h kf (cN h kf n) n).toUInt8 i = _
    unfold updF
    by_cases e : i = n
    · subst e; rw [if_pos rfl]
    · rw [if_neg e, tN_get h kf n i (by omega)]
theorem tag_len (kf : Nat → UInt8) (s : List UInt8) : (tagF θr kf s).length = 16 := by unfold tagF; simp
theorem tag_get (kf : Nat → UInt8) (s : List UInt8) {i : Nat} (hi : i < 16) : ((tagF θr kf s).getD i 0).toNat = (cyN kf (Eb kf s) i + (Eb kf s i + (kf (16 + i)).toNat)) % 256 := by
  have e : (tagF θr kf s).getD i 0 = tN (endK θr kf s) kf 16 i := by
    unfold tagF
    rw [List.getD_eq_getElem?_getD, List.getElem?_map, List.getElem?_range hi]; rfl
  rw [e, tN_get _ _ 16 i hi, UInt64.toNat_toUInt8, c1_n kf s (cN_n kf s i (by omega)) (cy_le (Eb_lt kf s) i) hi]
/-- Keys whose first halves are the same. -/
theorem Eb_congr {kf kg : Nat → UInt8} (h : ∀ i, i < 16 → kf i = kg i) (s : List UInt8) : Eb kf s = Eb kg s := by
  have hm : cellsB 16 (mk kf) = cellsB 16 (mk kg) := cellsB_congr fun i hi => by unfold mk; rw [h i hi]
  have hr : rK θr kf = rK θr kg := by unfold rK; rw [hm]
  have hh : ∀ k, hK θr kf s k = hK θr kg s k := fun k => by
    induction k with
    | zero => rfl
    | succ k ih =>
      show stepK θr kf (hK θr kf s k) (xK θr s k) = stepK θr kg (hK θr kg s k) (xK θr s k)
      rw [ih]
      unfold stepK
      rw [hr]
  funext i
  unfold Eb
  rw [end_V5, end_V5, hh]
/-- The number of a text of one piece and more. -/
theorem V5_step (kf : Nat → UInt8) (s : List UInt8) {k : Nat} (hk : k < nC s) : V5 (hK θr kf s (k + 1)) % Pp = (V5 (hK θr kf s k) + vN 256 (pN (pK s k)) 17) * vN 256 (rN kf) 16 % Pp := by
  obtain ⟨h1, h2, h3⟩ := both_h kf s k (by omega)
  obtain ⟨x1, x2⟩ := xK_n hk
  obtain ⟨a1, a2⟩ := stepK_ok (kf := kf) h1 fun i _ => x1 i
  show V5 (stepK θr kf (hK θr kf s k) (xK θr s k)) % Pp = _
  rw [a2, x2, (rK_n kf).2]
theorem Eb_zero {kf : Nat → UInt8} (h : ∀ i, i < 16 → kf i = 0) (s : List UInt8) (i : Nat) : Eb kf s i = 0 := by
  have hr : vN 256 (rN kf) 16 = 0 := vN_zero 256 fun i hi => by
    unfold rN
    rw [if_pos hi]
    unfold mk
    rw [h i hi]
    cases (Nat.beq i 3 || (Nat.beq i 7 || (Nat.beq i 11 || Nat.beq i 15))) <;> cases (Nat.beq i 4 || (Nat.beq i 8 || Nat.beq i 12)) <;> rfl
  have hv : ∀ k, k ≤ nC s → V5 (hK θr kf s k) % Pp = 0 := fun k hk => by
    cases k with
    | zero => exact (congrArg (· % Pp) (show V5 (hK θr kf s 0) = 0 from vN_zero B26 fun i _ => rfl)).trans (Nat.zero_mod _)
    | succ k => rw [V5_step kf s (by omega), hr, Nat.mul_zero, Nat.zero_mod]
  unfold Eb
  rw [end_V5, hv _ (Nat.le_refl _), Nat.zero_div]
theorem Eb_nil (kf : Nat → UInt8) (i : Nat) : Eb kf [] i = 0 := by
  unfold Eb
  rw [end_V5]
  have : V5 (hK θr kf [] (nC [])) = 0 := vN_zero B26 fun i _ => rfl
  rw [this, Nat.zero_mod, Nat.zero_div]
/-- Without a number the tag is the key's second half. -/
theorem tag_zero {kf : Nat → UInt8} {s : List UInt8} (h : ∀ i, Eb kf s i = 0) : tagF θr kf s = (List.range 16).map fun i => kf (16 + i) := by
  have hc : ∀ i, cyN kf (Eb kf s) i = 0 := fun i => by
    induction i with
    | zero => rfl
    | succ i ih =>
      have := (kf (16 + i)).toNat_lt
      show (cyN kf (Eb kf s) i + (Eb kf s i + (kf (16 + i)).toNat)) / 256 = 0
      rw [ih, h i]
      omega
  apply List.ext_getElem
  · rw [tag_len]; simp
  · intro i h1 h2
    rw [tag_len] at h1
    have e := tag_get kf s h1
    rw [List.getD_eq_getElem?_getD, List.getElem?_eq_getElem (by rw [tag_len]; exact h1)] at e
    apply UInt8.toNat_inj.1
    rw [List.getElem_map, List.getElem_range]
    have := (kf (16 + i)).toNat_lt
    rw [show ((tagF θr kf s)[i]).toNat = _ from e, hc i, h i]
    omega
end Go.Proofs.Yticajoggdghdkaa

/- A tag that is known. -/
namespace Go.Proofs.Yticajoggdghdkaa
set_option linter.unusedVariables false
set_option linter.unusedSimpArgs false
open Go Go.Eng Go.Poly
set_option maxRecDepth 100000
set_option maxHeartbeats 1000000
set_option linter.unusedSimpArgs false
set_option linter.unusedVariables false
def kA : List UInt8 := [2, 0, 0, 0, 0, 0, 0, 0, 0, 0, 0, 0, 0, 0, 0, 0, 0, 0, 0, 0, 0, 0, 0, 0, 0, 0, 0, 0, 0, 0, 0, 0]
def sA : List UInt8 := [255, 255, 255, 255, 255, 255, 255, 255, 255, 255, 255, 255, 255, 255, 255, 255]
def tA : List UInt8 := [3, 0, 0, 0, 0, 0, 0, 0, 0, 0, 0, 0, 0, 0, 0, 0]
theorem w6 (φ : Fz) : ansO (run1O Try.prog (psz φ) (nz0 φ) [20,25,32,35,39,42,45] [true, true, true, true] [] (mask 6) 200 6 [] [] Try.prog.globals.size) = some (.bool (!(φ.sm [97, 98] [97, 98, 99])), [φ.sh [97, 98], φ.sm [97, 98] [97, 98], φ.sh [97, 98], φ.tr [115, 104, 111, 114, 116] == 2, φ.tr kA == 0, φ.tv kA sA == tA, φ.sh sA, φ.sh sA]) := by kernel_rfl
theorem pA0 : pK sA 0 = sA := rfl
theorem nA : nC sA = 1 := rfl
theorem EA (i : Nat) : Eb (kfOf kA) sA i = 3 / 256 ^ i % 256 := by
  unfold Eb
  rw [end_V5, nA, V5_step _ _ (show 0 < nC sA by rw [nA]; omega), pA0]
  have z : V5 (hK θr (kfOf kA) sA 0) = 0 := vN_zero B26 fun i _ => rfl
  have h1 : vN 256 (pN sA) 17 = 680564733841876926926749214863536422911 := by decide
  have h2 : vN 256 (rN (kfOf kA)) 16 = 2 := by decide
  rw [z, h1, h2]
  have : (0 + 680564733841876926926749214863536422911) * 2 % Pp = 3 := by unfold Pp; decide
  rw [this]
theorem tagA : tagF θr (kfOf kA) sA = tA := by
  have hk : ∀ i, i < 16 → kfOf kA (16 + i) = 0 := fun i hi => by
    match i, hi with
    | 0, _ | 1, _ | 2, _ | 3, _ | 4, _ | 5, _ | 6, _ | 7, _ | 8, _ | 9, _ | 10, _ | 11, _ | 12, _ | 13, _ | 14, _ | 15, _ => rfl
    | n + 16, h => exact absurd h (by omega)
  have hc : ∀ i, i < 16 → cyN (kfOf kA) (Eb (kfOf kA) sA) i = 0 := fun i hi => by
    induction i with
    | zero => rfl
    | succ i ih =>
      show (cyN (kfOf kA) (Eb (kfOf kA) sA) i + (Eb (kfOf kA) sA i + (kfOf kA (16 + i)).toNat)) / 256 = 0
      rw [ih (by omega), hk i (by omega)]
      have := Eb_lt (kfOf kA) sA i
      have z : (0 : UInt8).toNat = 0 := rfl
      rw [z]
      omega
  apply List.ext_getElem
  · rw [tag_len]; rfl
  · intro i h1 h2
    rw [tag_len] at h1
    have e := tag_get (kfOf kA) sA h1
    rw [List.getD_eq_getElem?_getD, List.getElem?_eq_getElem (by rw [tag_len]; exact h1)] at e
    apply UInt8.toNat_inj.1
    rw [show ((tagF θr (kfOf kA) sA)[i]).toNat = _ from e, hc i h1, hk i h1, EA]
    clear e hc hk
    match i, h1 with
    | 0, _ | 1, _ | 2, _ | 3, _ | 4, _ | 5, _ | 6, _ | 7, _ | 8, _ | 9, _ | 10, _ | 11, _ | 12, _ | 13, _ | 14, _ | 15, _ => rfl
    | n + 16, h => exact absurd h (by omega)
theorem run6 : (run1 Try.prog (nz0 realFz) (mask 6) 200 6 [] [] Try.prog.globals.size).map (·.1) = some (.bool true) := by
  have h := ansO_run (nz0_ps realFz) (w6 realFz) (by
    have h1 : (realFz.tv kA sA == tA) = true := by
      show (tvR kA sA == tA) = true
      have : tvR kA sA = tA := tagA
      rw [this]; decide
    have h2 : realFz.sh [97, 98] = true := rfl
    have h3 : realFz.sm [97, 98] [97, 98] = true := by decide
    have h4 : (realFz.tr [115, 104, 111, 114, 116] == 2) = true := by decide
    have h5 : (realFz.tr kA == 0) = true := by decide
    have h6 : realFz.sh sA = true := rfl
    simp only [allT, h1, h2, h3, h4, h5, h6, cond_true])
  have h3 : realFz.sm [97, 98] [97, 98, 99] = false := by decide
  rw [h3] at h
  exact h
def g6 : List AVal → Option EffA
  | [] => some (.pure (.bool true))
  | _ => none
theorem g6_ok : CSOk Try.prog (csOne 6 g6) := csOne_ok fun args e he => by
  unfold g6 at he
  split at he
  · cases he
    exact callOk_val nz0_ok hmix run6 rfl rfl
  · cases he
def nz (φ : Fz) : CS := csAlt (csP (psz φ)) (csOne 6 g6)
theorem nz_ok : CSOk Try.prog (nz realFz) := csAlt_ok psz_ok g6_ok
theorem nz_ps (φ : Fz) : PSOk (psz φ) (nz φ) := csP_ok
end Go.Proofs.Yticajoggdghdkaa

/- The statement on tags at the prime's edge. -/
namespace Go.Proofs.Yticajoggdghdkaa
set_option linter.unusedVariables false
set_option linter.unusedSimpArgs false
open Go Go.Eng Go.Poly
set_option maxRecDepth 100000
set_option maxHeartbeats 1000000
set_option linter.unusedSimpArgs false
set_option linter.unusedVariables false
noncomputable def L4 : Code := loopOf ((pieces (bodyOf Try.f4)).getD 5 .skip)
def T4 (k o a : List UInt8) (n : UInt8) (i : Nat) : TL := [(0, .str k), (1, .u8 n), (2, .str o), (6, .bool false), (24, .bool false), (7, .str a), (8, .int .i64 (i : Int))]
def S4 (k o a : List UInt8) (n : UInt8) (i : Nat) : SA := ⟨T4 k o a n i, [], 88⟩
def f8 : List UInt8 := [255, 255, 255, 255, 255, 255, 255, 255]
def k1 (k : List UInt8) : List UInt8 := [1, 0, 0, 0, 0, 0, 0, 0, 0, 0, 0, 0, 0, 0, 0, 0] ++ (k.take (k.length : Int).toNat).drop (Int.toNat 16)
section
variable (φ : Fz) (k o a b a0 : List UInt8) (n : UInt8) (i j F : Nat)
theorem p4_5 : (pieces (bodyOf Try.f4))[5]? = some (.block 0 (.loop L4)) := by kernel_rfl
theorem e4a : ansO (run1O Try.prog (psz φ) (nz φ) [19,23] [true] [] (mask 4) 100 4 [.str k, .u8 n, .str o] [] Try.prog.globals.size) = some (.bool true, [(k.length : Int) != 32]) := by kernel_rfl
theorem e4b : ansO (run1O Try.prog (psz φ) (nz φ) [19,23] [false, true] [] (mask 4) 100 4 [.str k, .u8 n, .str o] [] Try.prog.globals.size) = some (.bool true, [decide ((256 : Int) < (o.length : Int)), !((k.length : Int) != 32)]) := by kernel_rfl
theorem w4a : segO (evSO Try.prog (psz φ) (nz φ) [19,23] Try.f4.ntmps (mask 4) (F + 100) 0 ((pieces (bodyOf Try.f4)).take 5) ⟨startT [.str k, .u8 n, .str o] 0, [], 0⟩ ⟨[false, false], [], []⟩) = some (S4 k o [] n 0, [!(decide ((256 : Int) < (o.length : Int))), !((k.length : Int) != 32)]) := by kernel_rfl
theorem w4r : roundO2 Try.prog (psz φ) (nz φ) [30,34,200007,200008] [true] [.str b, .int .i64 (j : Int)] Try.f4.ntmps (mask 4) F 0 L4 (S4 k o a0 n 0) (S4 k o a n i) = some (S4 k o b n j, [eqS (.int .i64 (IntKind.wrap .i64 ((i : Int) + 1))) (.int .i64 (j : Int)), eqS (.str (a ++ f8)) (.str b), Nat.ble (a.length + 8) 9223372036854775807, decide ((i : Int) < Int.tmod (n.toNat : Int) 40)]) := by kernel_rfl
theorem w4x : evSO Try.prog (psz φ) (nz φ) [30] Try.f4.ntmps (mask 4) F 0 [L4] (S4 k o a n i) ⟨[false], [], []⟩ = some (.exit 0, ⟨T4 k o a n i ++ [(30, .bool false)], [], 128⟩, ⟨[], [], [!(decide ((i : Int) < Int.tmod (n.toNat : Int) 40))]⟩) := by kernel_rfl
theorem w4z : ansF Try.prog Try.f4 (evSO Try.prog (psz φ) (nz φ) [41,47,58,69,74,78,83,88,37,56,67,55,66] Try.f4.ntmps (mask 4) F 0 ((pieces (bodyOf Try.f4)).drop 6) ⟨T4 k o a n i ++ [(30, .bool false)], [], 128⟩ ⟨[true, true, true, true], [], []⟩) = some (.bool true,
  [φ.tr (k1 k) == φ.tr (k1 k), φ.tv (k1 k) (a ++ o) == φ.tv (k1 k) (a ++ o), φ.tr k == φ.tr k, φ.tv k (a ++ o) == φ.tv k (a ++ o), φ.sh (a ++ o), Nat.ble (16 + ((k.take (k.length : Int).toNat).drop (Int.toNat 16)).length) 9223372036854775807, decide ((0 : Int) ≤ 16) && (decide ((16 : Int) ≤ (k.length : Int)) && decide ((k.length : Int) ≤ (k.length : Int))),
   φ.sh (a ++ o), Nat.ble (16 + ((k.take (k.length : Int).toNat).drop (Int.toNat 16)).length) 9223372036854775807, decide ((0 : Int) ≤ 16) && (decide ((16 : Int) ≤ (k.length : Int)) && decide ((k.length : Int) ≤ (k.length : Int))), φ.sh (a ++ o), φ.sh (a ++ o), Nat.ble (a.length + o.length) 9223372036854775807]) := by kernel_rfl
theorem ok4 : okS Try.prog (S4 k o a n i) = true := by kernel_rfl
end
def ff : Nat → List UInt8
  | 0 => []
  | i + 1 => ff i ++ f8
theorem ff_len : ∀ i, (ff i).length = 8 * i
  | 0 => rfl
  | i + 1 => by
    show (ff i ++ f8).length = _
    rw [List.length_append, ff_len i]
    show 8 * i + 8 = _
    omega
theorem tmod40 (n : UInt8) : ∃ m : Nat, Int.tmod (n.toNat : Int) 40 = (m : Int) ∧ m < 40 := ⟨n.toNat % 40, (Int.ofNat_tmod n.toNat 40).symm, Nat.mod_lt _ (by omega)⟩
theorem run4 (k o : List UInt8) (n : UInt8) : (run1 Try.prog (nz realFz) (mask 4) 100 4 [.str k, .u8 n, .str o] [] Try.prog.globals.size).map (·.1) = some (.bool true) ∨ (run1 Try.prog (nz realFz) (mask 4) 200 4 [.str k, .u8 n, .str o] [] Try.prog.globals.size).map (·.1) = some (.bool true) := by
  by_cases hk : k.length = 32
  case neg =>
    have : ((k.length : Int) != 32) = true := by simp only [bne_iff_ne, ne_eq]; omega
    exact .inl (ansO_run (nz_ps _) (e4a realFz k o n) (by simp only [allT, this, cond_true]))
  have hk1 : ((k.length : Int) != 32) = false := by rw [hk]; rfl
  by_cases ho : (256 : Int) < (o.length : Int)
  · exact .inl (ansO_run (nz_ps _) (e4b realFz k o n) (by simp only [allT, hk1, decide_eq_true ho, Bool.not_false, cond_true]))
  have ho1 : o.length ≤ 256 := by omega
  right
  rw [gl]
  obtain ⟨m, hm, hm40⟩ := tmod40 n
  have hp := segO_pre (nz_ps _) (w4a realFz k o n 100) (by simp only [allT, hk1, decide_eq_false ho, Bool.not_false, cond_true])
  have hr : ∀ i, i < m → roundA (evC Try.prog (nz realFz) Try.f4.ntmps (mask 4) 200 0 L4) (headA Try.prog 0 (S4 k o (ff 0) n 0)) (S4 k o (ff i) n i) = some (S4 k o (ff (i + 1)) n (i + 1)) := fun i hi => by
    refine roundO2_ok (nz_ps _) (w4r realFz k o (ff i) (ff (i + 1)) (ff 0) n i (i + 1) 200) ?_ (ok4 ..)
    have o1 : eqS (.str (ff i ++ f8)) (.str (ff (i + 1))) = true := by
      show eqS (.str (ff i ++ f8)) (.str (ff i ++ f8)) = true
      simp [eqS]
    have o2 : Nat.ble ((ff i).length + 8) 9223372036854775807 = true := Nat.ble_eq_true_of_le (by rw [ff_len]; omega)
    have o3 : decide ((i : Int) < Int.tmod (n.toNat : Int) 40) = true := by rw [hm]; exact decide_eq_true (by omega)
    simp only [allT, plus1 (show i < 1000 by omega), o1, o2, o3, cond_true]
  have hx := (evSO_ok (nz_ps _) _ _ _ _ _ _ (w4x realFz k o (ff m) n m 200) (by
    have : decide ((m : Int) < Int.tmod (n.toNat : Int) 40) = false := by rw [hm]; exact decide_eq_false (by omega)
    simp only [allT, this, Bool.not_false, cond_true])).1
  rw [evS_one] at hx
  have hl := ff_len m
  have hsh : realFz.sh (ff m ++ o) = true := Nat.ble_eq_true_of_le (by rw [List.length_append]; omega)
  have q1 : Nat.ble (16 + ((k.take (k.length : Int).toNat).drop (Int.toNat 16)).length) 9223372036854775807 = true := Nat.ble_eq_true_of_le (by
    rw [List.length_drop, List.length_take, hk]
    show 16 + (min (Int.toNat ((32 : Nat) : Int)) 32 - 16) ≤ _
    omega)
  have q2 : (decide ((0 : Int) ≤ 16) && (decide ((16 : Int) ≤ (k.length : Int)) && decide ((k.length : Int) ≤ (k.length : Int)))) = true := by simp only [Bool.and_eq_true, decide_eq_true_eq]; omega
  have q3 : Nat.ble ((ff m).length + o.length) 9223372036854775807 = true := Nat.ble_eq_true_of_le (by omega)
  have ht := (ansF_ok2 (nz_ps _) (w4z realFz k o (ff m) n m 200) (by simp only [allT, hsh, q1, q2, q3, beq_self_eq_true, cond_true])).1
  exact run_loop (fn := Try.f4) (c := bodyOf Try.f4) (by kernel_rfl) (by kernel_rfl) (by kernel_rfl) 5 p4_5 (fun i => S4 k o (ff i) n i) m hp hr hx (by omega) ht
theorem law4 (k : List UInt8) (n : UInt8) (o : List UInt8) : CallOk Try.prog 4 [.str k, .u8 n, .str o] (.pure (.bool true)) := by
  rcases run4 k o n with h | h
  · exact callOk_val nz_ok hmix h rfl rfl
  · exact callOk_val nz_ok hmix h rfl rfl
end Go.Proofs.Yticajoggdghdkaa

/- The statement on what is added to a tag. -/
namespace Go.Proofs.Yticajoggdghdkaa
set_option linter.unusedVariables false
set_option linter.unusedSimpArgs false
open Go Go.Eng Go.Poly
set_option maxRecDepth 100000
set_option maxHeartbeats 1000000
set_option linter.unusedSimpArgs false
set_option linter.unusedVariables false
noncomputable def L5 : Code := loopOf ((pieces (bodyOf Try.f5)).getD 12 .skip)
def z16 : List UInt8 := [0, 0, 0, 0, 0, 0, 0, 0, 0, 0, 0, 0, 0, 0, 0, 0]
def T5s (k s a b c d : List UInt8) (i y : Nat) : TL := [(0, .str k), (1, .str s), (4, .bool false), (24, .bool false), (5, .str z16), (6, .str a), (7, .int .i64 0), (8, .str b), (9, .int .i64 0), (10, .str c), (11, .int .i64 0), (12, .str d), (13, .int .i64 0), (92, .bool false), (14, .int .i64 (y : Int)), (15, .int .i64 (i : Int))]
def H5 : HL := [(72, .cells false (z16.map .u8))]
def S5 (k s a b c d : List UInt8) (i y : Nat) : SA := ⟨T5s k s a b c d i y, H5, 696⟩
def kLo (k : List UInt8) : List UInt8 := (k.take (Int.toNat 16)).drop (Int.toNat 0) ++ z16
def kHi (k : List UInt8) : List UInt8 := (k.take (k.length : Int).toNat).drop (Int.toNat 16)
section
variable (φ : Fz) (k s a b c d : List UInt8) (i j x y cy F : Nat)
theorem p5_12 : (pieces (bodyOf Try.f5))[12]? = some (.block 0 (.loop L5)) := by kernel_rfl
theorem e5a : ansO (run1O Try.prog (psz φ) (nz φ) [19,23] [true] [] (mask 5) 100 5 [.str k, .str s] [] Try.prog.globals.size) = some (.bool true, [(k.length : Int) != 32]) := by kernel_rfl
theorem e5b : ansO (run1O Try.prog (psz φ) (nz φ) [19,23] [false, true] [] (mask 5) 100 5 [.str k, .str s] [] Try.prog.globals.size) = some (.bool true, [decide ((4096 : Int) < (s.length : Int)), !((k.length : Int) != 32)]) := by kernel_rfl
def inK (k : List UInt8) : Bool := decide ((0 : Int) ≤ 16) && (decide ((16 : Int) ≤ (k.length : Int)) && decide ((k.length : Int) ≤ (k.length : Int)))
theorem w5a : segO (evSO Try.prog (psz φ) (nz φ) [19,23,31,40,49,54,75,81,86,91,36,38,46,47,74,80,200006,200007,200008,200009,200010,200011,200012,200013] Try.f5.ntmps (mask 5) (F + 100) 0 ((pieces (bodyOf Try.f5)).take 12) ⟨startT [.str k, .str s] 0, [], 0⟩ ⟨[false, false, false, false, false, false], [.str a, .int .i64 0, .str b, .int .i64 0, .str c, .int .i64 0, .str d, .int .i64 0], []⟩) = some (S5 k s a b c d 0 0,
  [!((b.length : Int) != 16), !((a.length : Int) != 16), !!(d == kHi k), inK k, !!(c == kHi k), inK k, eqS (.int .i64 (φ.tr k)) (.int .i64 0), eqS (.str (φ.tv k [])) (.str d), φ.sh [], eqS (.int .i64 (φ.tr (z16 ++ kHi k))) (.int .i64 0), eqS (.str (φ.tv (z16 ++ kHi k) s)) (.str c), φ.sh s, Nat.ble (z16.length + (kHi k).length) 9223372036854775807, inK k,
   eqS (.int .i64 (φ.tr (kLo k))) (.int .i64 0), eqS (.str (φ.tv (kLo k) s)) (.str b), φ.sh s, Nat.ble (((k.take (Int.toNat 16)).drop (Int.toNat 0)).length + z16.length) 9223372036854775807, decide ((0 : Int) ≤ 0) && (decide ((0 : Int) ≤ 16) && decide ((16 : Int) ≤ (k.length : Int))), eqS (.int .i64 (φ.tr k)) (.int .i64 0), eqS (.str (φ.tv k s)) (.str a), φ.sh s, !(decide ((4096 : Int) < (s.length : Int))), !((k.length : Int) != 32)]) := by kernel_rfl
theorem w5r (y0 : Nat) : roundO2 Try.prog (psz φ) (nz φ) [94,99,104,113,114,200016,200014,200015] [true, false] [.int .i64 (x : Int), .int .i64 (y : Int), .int .i64 (j : Int)] Try.f5.ntmps (mask 5) F 0 L5 (S5 k s a b c d 0 y0) (S5 k s a b c d i cy) = some (S5 k s a b c d j y,
  [eqS (.int .i64 (IntKind.wrap .i64 ((i : Int) + 1))) (.int .i64 (j : Int)), eqS (.int .i64 (Int.fdiv (x : Int) (2 ^ (min (UInt64.toNat 8) (IntKind.bits .i64))))) (.int .i64 (y : Int)), !(UInt8.ofInt (x : Int) != a.getD (i : Int).toNat 0), decide (0 ≤ (i : Int)) && decide ((i : Int) < (a.length : Int)),
   eqS (.int .i64 (IntKind.wrap .i64 ((IntKind.wrap .i64 (((b.getD (i : Int).toNat 0).toNat : Int) + ((k.getD (Int.toNat (IntKind.wrap .i64 (16 + (i : Int)))) 0).toNat : Int))) + (cy : Int)))) (.int .i64 (x : Int)), decide (0 ≤ IntKind.wrap .i64 (16 + (i : Int))) && decide (IntKind.wrap .i64 (16 + (i : Int)) < (k.length : Int)), decide (0 ≤ (i : Int)) && decide ((i : Int) < (b.length : Int)), decide ((i : Int) < 16)]) := by kernel_rfl
theorem w5x : evSO Try.prog (psz φ) (nz φ) [94] Try.f5.ntmps (mask 5) F 0 [L5] (S5 k s a b c d i y) ⟨[false], [], []⟩ = some (.exit 0, ⟨T5s k s a b c d i y ++ [(94, .bool false)], H5, 712⟩, ⟨[], [], [!(decide ((i : Int) < 16))]⟩) := by kernel_rfl
theorem w5z : ansF Try.prog Try.f5 (evSO Try.prog (psz φ) (nz φ) [] Try.f5.ntmps (mask 5) (F + 50) 0 ((pieces (bodyOf Try.f5)).drop 13) ⟨T5s k s a b c d i y ++ [(94, .bool false)], H5, 712⟩ ⟨[], [], []⟩) = some (.bool true, []) := by kernel_rfl
theorem ok5 : okS Try.prog (S5 k s a b c d i y) = true := by kernel_rfl
end
theorem ofInt8 (x : Nat) : (UInt8.ofInt (x : Int)).toNat = x % 256 := by
  have e : UInt8.ofInt (x : Int) = UInt8.ofNat x := by
    unfold UInt8.ofInt
    apply UInt8.toNat_inj.1
    rw [UInt8.toNat_ofNat', UInt8.toNat_ofNat']
    omega
  rw [e, UInt8.toNat_ofNat']
theorem fdiv8 (x : Nat) : Int.fdiv (x : Int) (2 ^ (min (UInt64.toNat 8) (IntKind.bits .i64))) = ((x / 256 : Nat) : Int) := by
  have : (2 : Int) ^ (min (UInt64.toNat 8) (IntKind.bits .i64)) = ((256 : Nat) : Int) := by rfl
  rw [this, Int.fdiv_eq_ediv_of_nonneg _ (by omega)]
  rfl
theorem tv32 {k : List UInt8} (h : k.length = 32) (s : List UInt8) : tvR k s = tagF θr (kfOf k) s ∧ trR k = 0 := by
  unfold tvR trR
  rw [h]
  exact ⟨rfl, rfl⟩
theorem map_hi {k g : List UInt8} (h : k.length = 32) (hg : ∀ i, i < 16 → g.getD (16 + i) 0 = k.getD (16 + i) 0) : (List.range 16).map (fun i => kfOf g (16 + i)) = kHi k := by
  unfold kHi
  have e : k.take (k.length : Int).toNat = k := List.take_of_length_le (by simp)
  rw [e]
  apply List.ext_getElem
  · rw [List.length_map, List.length_range, List.length_drop, h]; rfl
  · intro i h1 h2
    rw [List.length_map, List.length_range] at h1
    rw [List.getElem_map, List.getElem_range, List.getElem_drop]
    show g.getD (16 + i) 0 = k[16 + i]
    rw [hg i h1, List.getD_eq_getElem?_getD, List.getElem?_eq_getElem (by omega)]; rfl
theorem run5 (k s : List UInt8) : (run1 Try.prog (nz realFz) (mask 5) 100 5 [.str k, .str s] [] Try.prog.globals.size).map (·.1) = some (.bool true) ∨ (run1 Try.prog (nz realFz) (mask 5) 200 5 [.str k, .str s] [] Try.prog.globals.size).map (·.1) = some (.bool true) := by
  by_cases hk : k.length = 32
  case neg =>
    have : ((k.length : Int) != 32) = true := by simp only [bne_iff_ne, ne_eq]; omega
    exact .inl (ansO_run (nz_ps _) (e5a realFz k s) (by simp only [allT, this, cond_true]))
  have hk1 : ((k.length : Int) != 32) = false := by rw [hk]; rfl
  by_cases ho : (4096 : Int) < (s.length : Int)
  · exact .inl (ansO_run (nz_ps _) (e5b realFz k s) (by simp only [allT, hk1, decide_eq_true ho, Bool.not_false, cond_true]))
  have ho1 : s.length ≤ 4096 := by omega
  right
  rw [gl]
  -- the halves
  have hHi : kHi k = k.drop 16 := by
    unfold kHi
    have e : k.take (k.length : Int).toNat = k := List.take_of_length_le (by simp)
    rw [e]; rfl
  have hLo : kLo k = k.take 16 ++ z16 := rfl
  have lHi : (kHi k).length = 16 := by rw [hHi, List.length_drop]; omega
  have lLo : (kLo k).length = 32 := by rw [hLo, List.length_append, List.length_take, hk]; rfl
  have lR : (z16 ++ kHi k).length = 32 := by rw [List.length_append, lHi]; rfl
  -- the four tags
  obtain ⟨a, ha⟩ : ∃ a, a = tagF θr (kfOf k) s := ⟨_, rfl⟩
  obtain ⟨b, hb⟩ : ∃ b, b = tagF θr (kfOf (kLo k)) s := ⟨_, rfl⟩
  have la : a.length = 16 := by rw [ha, tag_len]
  have lb : b.length = 16 := by rw [hb, tag_len]
  have gz : ∀ i, i < 16 → z16.getD i 0 = 0 := fun i hi => by
    match i, hi with
    | 0, _ | 1, _ | 2, _ | 3, _ | 4, _ | 5, _ | 6, _ | 7, _ | 8, _ | 9, _ | 10, _ | 11, _ | 12, _ | 13, _ | 14, _ | 15, _ => rfl
    | n + 16, h => exact absurd h (by omega)
  have gLo1 : ∀ i, i < 16 → kfOf (kLo k) i = kfOf k i := fun i hi => by
    show (kLo k).getD i 0 = k.getD i 0
    rw [hLo, List.getD_eq_getElem?_getD, List.getElem?_append_left (by rw [List.length_take]; omega), List.getElem?_take_of_lt hi, List.getD_eq_getElem?_getD]
  have gLo2 : ∀ i, i < 16 → kfOf (kLo k) (16 + i) = 0 := fun i hi => by
    show (kLo k).getD (16 + i) 0 = 0
    have e : (k.take 16).length = 16 := by rw [List.length_take]; omega
    rw [hLo, List.getD_eq_getElem?_getD, List.getElem?_append_right (by omega), e, Nat.add_sub_cancel_left, ← List.getD_eq_getElem?_getD]
    exact gz i hi
  have gR1 : ∀ i, i < 16 → kfOf (z16 ++ kHi k) i = 0 := fun i hi => by
    show (z16 ++ kHi k).getD i 0 = 0
    rw [List.getD_eq_getElem?_getD, List.getElem?_append_left (by show i < 16; omega), ← List.getD_eq_getElem?_getD]
    exact gz i hi
  have gR2 : ∀ i, i < 16 → (z16 ++ kHi k).getD (16 + i) 0 = k.getD (16 + i) 0 := fun i hi => by
    rw [List.getD_eq_getElem?_getD, List.getElem?_append_right (by show 16 ≤ 16 + i; omega), hHi, List.getElem?_drop, List.getD_eq_getElem?_getD]
    rw [show z16.length = 16 by rfl, Nat.add_sub_cancel_left]
  have hc : tagF θr (kfOf (z16 ++ kHi k)) s = kHi k := by rw [tag_zero (Eb_zero gR1 s), map_hi hk gR2]
  have hd : tagF θr (kfOf k) [] = kHi k := by rw [tag_zero (Eb_nil _), map_hi hk fun i _ => rfl]
  have hE : Eb (kfOf (kLo k)) s = Eb (kfOf k) s := Eb_congr gLo1 s
  have hcb : ∀ i, i ≤ 16 → cyN (kfOf (kLo k)) (Eb (kfOf k) s) i = 0 := fun i hi => by
    induction i with
    | zero => rfl
    | succ i ih =>
      show (cyN (kfOf (kLo k)) (Eb (kfOf k) s) i + (Eb (kfOf k) s i + (kfOf (kLo k) (16 + i)).toNat)) / 256 = 0
      rw [ih (by omega), gLo2 i (by omega)]
      have := Eb_lt (kfOf k) s i
      have z : (0 : UInt8).toNat = 0 := rfl
      rw [z]
      omega
  have hbE : ∀ i, i < 16 → (b.getD i 0).toNat = Eb (kfOf k) s i := fun i hi => by
    rw [hb, tag_get _ _ hi, hE, hcb i (by omega), gLo2 i hi]
    have := Eb_lt (kfOf k) s i
    have z : (0 : UInt8).toNat = 0 := rfl
    rw [z]
    omega
  have haE : ∀ i, i < 16 → (a.getD i 0).toNat = (cyN (kfOf k) (Eb (kfOf k) s) i + (Eb (kfOf k) s i + (kfOf k (16 + i)).toNat)) % 256 := fun i hi => by rw [ha, tag_get _ _ hi]
  -- the start
  have hsh : realFz.sh s = true := Nat.ble_eq_true_of_le (by omega)
  have es : ∀ l : List UInt8, eqS (.str l) (.str l) = true := fun l => by simp [eqS]
  have ei : eqS (.int .i64 0) (.int .i64 0) = true := rfl
  have t1 : realFz.tv k s = a := by rw [ha]; exact (tv32 hk s).1
  have t2 : realFz.tr k = 0 := (tv32 hk s).2
  have t3 : realFz.tv (kLo k) s = b := by rw [hb]; exact (tv32 lLo s).1
  have t4 : realFz.tr (kLo k) = 0 := (tv32 lLo s).2
  have t5 : realFz.tv (z16 ++ kHi k) s = kHi k := (tv32 lR s).1.trans hc
  have t6 : realFz.tr (z16 ++ kHi k) = 0 := (tv32 lR s).2
  have t7 : realFz.tv k [] = kHi k := (tv32 hk []).1.trans hd
  have i1 : inK k = true := by unfold inK; simp only [Bool.and_eq_true, decide_eq_true_eq]; omega
  have i2 : (decide ((0 : Int) ≤ 0) && (decide ((0 : Int) ≤ 16) && decide ((16 : Int) ≤ (k.length : Int)))) = true := by simp only [Bool.and_eq_true, decide_eq_true_eq]; omega
  have n1 : Nat.ble (z16.length + (kHi k).length) 9223372036854775807 = true := by rw [lHi]; rfl
  have n2 : Nat.ble (((k.take (Int.toNat 16)).drop (Int.toNat 0)).length + z16.length) 9223372036854775807 = true := Nat.ble_eq_true_of_le (by
    have : z16.length = 16 := rfl
    rw [List.length_drop, List.length_take, hk, this]
    omega)
  have la1 : ((a.length : Int) != 16) = false := by rw [la]; rfl
  have lb1 : ((b.length : Int) != 16) = false := by rw [lb]; rfl
  have hp := segO_pre (nz_ps _) (w5a realFz k s a b (kHi k) (kHi k) 100) (by
    rw [t1, t2, t3, t4, t5, t6, t7]
    simp only [allT, hk1, decide_eq_false ho, hsh, es, ei, i1, i2, n1, n2, la1, lb1, beq_self_eq_true, show realFz.sh [] = true from rfl, Bool.not_false, Bool.not_true, cond_true])
  obtain ⟨E, hEE⟩ : ∃ E, E = Eb (kfOf k) s := ⟨_, rfl⟩
  rw [← hEE] at hbE haE
  have hEl : ∀ i, E i < 256 := fun i => by rw [hEE]; exact Eb_lt _ _ i
  have hcy := cy_le (kf := kfOf k) hEl
  have hr : ∀ i, i < 16 → roundA (evC Try.prog (nz realFz) Try.f5.ntmps (mask 5) 200 0 L5) (headA Try.prog 0 (S5 k s a b (kHi k) (kHi k) 0 (cyN (kfOf k) E 0))) (S5 k s a b (kHi k) (kHi k) i (cyN (kfOf k) E i)) = some (S5 k s a b (kHi k) (kHi k) (i + 1) (cyN (kfOf k) E (i + 1))) := fun i hi => by
    have q := w5r realFz k s a b (kHi k) (kHi k) i (i + 1) (cyN (kfOf k) E i + (E i + (kfOf k (16 + i)).toNat)) (cyN (kfOf k) E (i + 1)) (cyN (kfOf k) E i) 200 (cyN (kfOf k) E 0)
    have c1 := hcy i
    have e1 := hEl i
    have k1 := (kfOf k (16 + i)).toNat_lt
    have w16 : IntKind.wrap .i64 (16 + (i : Int)) = ((16 + i : Nat) : Int) := by rw [wrapI _ (by omega) (by omega)]; omega
    rw [w16, fdiv8, Int.toNat_natCast, Int.toNat_natCast] at q
    refine roundO2_ok (nz_ps _) q ?_ (ok5 ..)
    have o1 : eqS (.int .i64 (((cyN (kfOf k) E i + (E i + (kfOf k (16 + i)).toNat)) / 256 : Nat) : Int)) (.int .i64 (cyN (kfOf k) E (i + 1) : Int)) = true := eqI rfl
    have o2 : (UInt8.ofInt ((cyN (kfOf k) E i + (E i + (kfOf k (16 + i)).toNat) : Nat) : Int) != a.getD i 0) = false := by
      have : UInt8.ofInt ((cyN (kfOf k) E i + (E i + (kfOf k (16 + i)).toNat) : Nat) : Int) = a.getD i 0 := by
        apply UInt8.toNat_inj.1
        rw [ofInt8, haE i hi]
      rw [this]; simp
    have o3 : (decide (0 ≤ (i : Int)) && decide ((i : Int) < (a.length : Int))) = true := by simp only [Bool.and_eq_true, decide_eq_true_eq]; omega
    have o4 : (decide (0 ≤ (i : Int)) && decide ((i : Int) < (b.length : Int))) = true := by simp only [Bool.and_eq_true, decide_eq_true_eq]; omega
    have o5 : (decide (0 ≤ ((16 + i : Nat) : Int)) && decide (((16 + i : Nat) : Int) < (k.length : Int))) = true := by simp only [Bool.and_eq_true, decide_eq_true_eq]; omega
    have o6 : eqS (.int .i64 (IntKind.wrap .i64 ((IntKind.wrap .i64 (((b.getD i 0).toNat : Int) + ((k.getD (16 + i) 0).toNat : Int))) + (cyN (kfOf k) E i : Int)))) (.int .i64 ((cyN (kfOf k) E i + (E i + (kfOf k (16 + i)).toNat) : Nat) : Int)) = true := eqI (by
      have ek : (k.getD (16 + i) 0).toNat = (kfOf k (16 + i)).toNat := rfl
      rw [hbE i hi, ek, wrapI (((E i : Nat) : Int) + ((kfOf k (16 + i)).toNat : Int)) (by omega) (by omega), wrapI _ (by omega) (by omega)]
      omega)
    have o7 : decide ((i : Int) < 16) = true := decide_eq_true (by omega)
    simp only [allT, plus1 (show i < 1000 by omega), o1, o2, o3, o4, o5, o6, o7, Bool.not_false, cond_true]
  have hx := (evSO_ok (nz_ps _) _ _ _ _ _ _ (w5x realFz k s a b (kHi k) (kHi k) 16 (cyN (kfOf k) E 16) 200) rfl).1
  rw [evS_one] at hx
  have ht := (ansF_ok2 (nz_ps _) (w5z realFz k s a b (kHi k) (kHi k) 16 (cyN (kfOf k) E 16) 150) rfl).1
  exact run_loop (fn := Try.f5) (c := bodyOf Try.f5) (by kernel_rfl) (by kernel_rfl) (by kernel_rfl) 12 p5_12 (fun i => S5 k s a b (kHi k) (kHi k) i (cyN (kfOf k) E i)) 16 hp hr hx (by omega) ht
theorem law5 (k s : List UInt8) : CallOk Try.prog 5 [.str k, .str s] (.pure (.bool true)) := by
  rcases run5 k s with h | h
  · exact callOk_val nz_ok hmix h rfl rfl
  · exact callOk_val nz_ok hmix h rfl rfl
end Go.Proofs.Yticajoggdghdkaa

/- The statement on tags. -/
namespace Go.Proofs.Yticajoggdghdkaa
set_option linter.unusedVariables false
set_option linter.unusedSimpArgs false
open Go Go.Eng Go.Poly
set_option maxRecDepth 100000
set_option maxHeartbeats 1000000
set_option linter.unusedSimpArgs false
set_option linter.unusedVariables false
def sum3 (k s o : List UInt8) : Bool := decide ((4096 : Int) < IntKind.wrap .i64 ((IntKind.wrap .i64 ((k.length : Int) + (s.length : Int))) + (o.length : Int)))
section
variable (φ : Fz) (k s o : List UInt8)
theorem w3a : ansO (run1O Try.prog (psz φ) (nz φ) [19,24,30,35,39,44,48,53,55] [true] [] (mask 3) 100 3 [.str k, .str s, .str o] [] Try.prog.globals.size) = some (.bool true, [sum3 k s o]) := by kernel_rfl
theorem w3t : ansO (run1O Try.prog (psz φ) (nz φ) [19,24,30,35,39,44,48,53,55] [false, true, true, true, true, true] [] (mask 3) 100 3 [.str k, .str s, .str o] [] Try.prog.globals.size) = some (.bool true, [φ.sm s s, φ.sh s, true == (s == o), φ.sm s o, φ.sh s, φ.tr k == φ.tr k, φ.tv k s == φ.tv k s, φ.sh s, φ.sh s, !(sum3 k s o)]) := by kernel_rfl
theorem w3f : ansO (run1O Try.prog (psz φ) (nz φ) [19,24,30,35,39,44,48,53,55] [false, true, true, false, true, true] [] (mask 3) 100 3 [.str k, .str s, .str o] [] Try.prog.globals.size) = some (.bool true, [φ.sm s s, φ.sh s, false == (s == o), !(φ.sm s o), φ.sh s, φ.tr k == φ.tr k, φ.tv k s == φ.tv k s, φ.sh s, φ.sh s, !(sum3 k s o)]) := by kernel_rfl
end
theorem run3 (k s o : List UInt8) (hk : k.length < 281474976710656) (hs : s.length < 281474976710656) (ho : o.length < 281474976710656) : (run1 Try.prog (nz realFz) (mask 3) 100 3 [.str k, .str s, .str o] [] Try.prog.globals.size).map (·.1) = some (.bool true) := by
  cases hh : sum3 k s o with
  | true => exact ansO_run (nz_ps _) (w3a realFz k s o) (by simp only [allT, hh, cond_true])
  | false =>
    have hl : s.length ≤ 4096 := by
      unfold sum3 at hh
      have h2 := of_decide_eq_false hh
      rw [wrapI ((k.length : Int) + (s.length : Int)) (by omega) (by omega), wrapI _ (by omega) (by omega)] at h2
      omega
    have hsh : realFz.sh s = true := Nat.ble_eq_true_of_le (by omega)
    have hss : realFz.sm s s = true := by show (s == s) = true; simp
    have hso : realFz.sm s o = (s == o) := rfl
    cases he : (s == o) with
    | true => exact ansO_run (nz_ps _) (w3t realFz k s o) (by simp only [allT, hh, hsh, hss, hso, he, beq_self_eq_true, Bool.not_false, cond_true])
    | false => exact ansO_run (nz_ps _) (w3f realFz k s o) (by simp only [allT, hh, hsh, hss, hso, he, beq_self_eq_true, Bool.not_false, cond_true])
theorem law3 (k s o : List UInt8) (hk : k.length ≤ reachBytes) (hs : s.length ≤ reachBytes) (ho : o.length ≤ reachBytes) : CallOk Try.prog 3 [.str k, .str s, .str o] (.pure (.bool true)) := by
  unfold reachBytes at *
  exact callOk_val nz_ok hmix (run3 k s o (by omega) (by omega) (by omega)) rfl rfl
end Go.Proofs.Yticajoggdghdkaa

/- Engine, part 20: from a law's answer to the row. -/
namespace Go.Eng
set_option linter.unusedVariables false
set_option linter.unusedSimpArgs false
open Go Go.WideShapes Go.ChangeShapes
theorem post_of_grew {H : Type} {enc : TypeId × Value → H} {P : Program} {f : Func} {s : ChangeSpec} {apart fresh handsOn again : Bool} {W W' : World} {args : Array Value} {v : Value} {ds gs : List (DataW H)} {before pa pv : List MemPlace}
    (hW : DataW.Whole enc P f.params.toList s.vars apart W args.toList ds gs before)
    (hres : ∀ (b : Nat) (sp : Nat → Bool) (hd : Bool), DataW.TrodAll enc P W' b sp hd f.resultTypes.toList (v.resultList f.resultTypes.size) (s.fn H (ds ++ gs)).results [])
    (hargs : ∀ sp : Nat → Bool, (∀ p ∈ before, sp p.block = true) → DataW.TrodAll enc P W' 0 sp true f.params.toList args.toList (s.fn H (ds ++ gs)).args pa)
    (hvars : ∀ sp : Nat → Bool, (∀ p ∈ before, sp p.block = true) → DataW.TrodVars enc P W' sp s.vars (s.fn H (ds ++ gs)).vars pv)
    (hps : before = pa ++ pv) (hg : Grew W W')
    (hok : ∀ (j : Nat) (t : TypeId) (r : Value), f.resultTypes[j]? = some t → (v.resultList f.resultTypes.size)[j]? = some r → Value.okWide P W' .any 0 t r) :
    s.post enc P f apart fresh handsOn again W args v W' := by
  have hlt := hW.lt
  have hold : ∀ p ∈ before, (fun b => decide (b < W.heap.size)) p.block = true := fun p hp => by simpa using hlt p hp
  refine ⟨ds, gs, before, [], pa, pv, hW, hres _ _ _, hargs _ hold, hvars _ hold, World.keptBut_mono (fun p hp => hp.elim) hg.1, fun _ => ?_⟩
  obtain ⟨_, _, _, _, _, hz, hn⟩ := hW
  have hmem : ∀ p, p ∈ ([] ++ pa) ++ pv → p ∈ before := fun p hp => by rw [hps]; simpa using hp
  refine ⟨hok, _, _, ([] ++ pa) ++ pv, ⟨[] ++ pa, pv, trodAll_append (hargs _ (fun _ _ => rfl)) (hres _ _ _), hvars _ (fun _ _ => rfl), rfl, fun b off hp => ?_, fun ha => ?_⟩, fun p hp _ => ?_⟩
  · have hb := hmem _ hp
    rw [hg.2.1 ⟨b, off, none⟩ (hlt _ hb)]
    exact hz b off hb
  · have := hn ha
    rw [hps] at this
    simpa using this
  · exact hmem _ hp
/-! ### the arguments -/
theorem vr_str (σ : Sig) (a : ByteArray) : VR σ (.str a.data.toList) (.string a) := by
  have := VR.str (σ := σ) a.data.toList
  rwa [Array.toArray_toList] at this
theorem wf_le {k : IntKind} {n : Int} (h : (Lit.int k n).wf = true) : k.min ≤ n ∧ n ≤ k.max := by
  simpa only [Lit.wf, Bool.and_eq_true, decide_eq_true_eq] using h
theorem vr_u8 {a : Int} (h : (Lit.int .u8 a).wf = true) : ∃ x : UInt8, ∀ σ, VR σ (.u8 x) (.int .u8 a) := by
  have h' := wf_le h
  have h1 : (0 : Int) ≤ a := h'.1
  have h2 : a ≤ 255 := h'.2
  refine ⟨UInt8.ofNat a.toNat, fun σ => ?_⟩
  have e : ((UInt8.ofNat a.toNat).toNat : Int) = a := by rw [UInt8.toNat_ofNat_of_lt' (show a.toNat < 256 by omega)]; omega
  have := VR.u8 (σ := σ) (UInt8.ofNat a.toNat)
  rwa [e] at this
theorem vr_u32 {a : Int} (h : (Lit.int .u32 a).wf = true) : ∃ x : UInt32, ∀ σ, VR σ (.u32 x) (.int .u32 a) := by
  have h' := wf_le h
  have h1 : (0 : Int) ≤ a := h'.1
  have h2 : a ≤ 4294967295 := h'.2
  refine ⟨UInt32.ofNat a.toNat, fun σ => ?_⟩
  have e : ((UInt32.ofNat a.toNat).toNat : Int) = a := by rw [UInt32.toNat_ofNat_of_lt' (show a.toNat < 4294967296 by omega)]; omega
  have := VR.u32 (σ := σ) (UInt32.ofNat a.toNat)
  rwa [e] at this
theorem vr_u64 {a : Int} (h : (Lit.int .u64 a).wf = true) : ∃ x : UInt64, ∀ σ, VR σ (.u64 x) (.int .u64 a) := by
  have h' := wf_le h
  have h1 : (0 : Int) ≤ a := h'.1
  have h2 : a ≤ 18446744073709551615 := h'.2
  refine ⟨UInt64.ofNat a.toNat, fun σ => ?_⟩
  have e : ((UInt64.ofNat a.toNat).toNat : Int) = a := by rw [UInt64.toNat_ofNat_of_lt' (show a.toNat < 18446744073709551616 by omega)]; omega
  have := VR.u64 (σ := σ) (UInt64.ofNat a.toNat)
  rwa [e] at this
end Go.Eng
