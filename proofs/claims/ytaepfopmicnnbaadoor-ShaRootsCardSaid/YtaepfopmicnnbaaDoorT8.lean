/- Texts Sd1, Sd2, Eng41, Sd3, Sd4, Sd5, Sd6, Sp1, Sp2, Sp3: what they show stands ahead of each. -/
import Derived.Test.YtaepfopmicnnbaaDoorT7
/- The document's piece: what it makes. -/
namespace Go.Proofs.YtaepfopmicnnbaaDoor
set_option linter.unusedVariables false
set_option linter.unusedSimpArgs false
open Go Go.Eng
set_option maxRecDepth 1000000
set_option linter.unusedSimpArgs false
set_option linter.unusedVariables false
def schedD (φ : Fr) (w0 w1 w9 w14 : UInt64) : UInt64 := ((w0 + ((φ.rotd w1 1 ^^^ φ.rotd w1 8) ^^^ shr_u64 w1 7)) + w9) + ((φ.rotd w14 19 ^^^ φ.rotd w14 61) ^^^ shr_u64 w14 6)
def rndTD (φ : Fr) (g w : UInt64) (x : Nat → UInt64) : UInt64 := (((x 7 + ((φ.rotd (x 4) 14 ^^^ φ.rotd (x 4) 18) ^^^ φ.rotd (x 4) 41)) + ((x 4 &&& x 5) ^^^ (~~~(x 4) &&& x 6))) + g) + w
def rndLD (φ : Fr) (g w : UInt64) (x : Nat → UInt64) : List UInt64 := [rndTD φ g w x + (((φ.rotd (x 0) 28 ^^^ φ.rotd (x 0) 34) ^^^ φ.rotd (x 0) 39) + (((x 0 &&& x 1) ^^^ (x 0 &&& x 2)) ^^^ (x 1 &&& x 2))), x 0, x 1, x 2, x 3 + rndTD φ g w x, x 4, x 5, x 6]
def rndD (φ : Fr) (g w : UInt64) (x : Nat → UInt64) : Nat → UInt64 := fun j => (rndLD φ g w x).getD j 0
def W2D (φ : Fr) (w : Nat → UInt64) : Nat → Nat → UInt64
  | 0 => w
  | i + 1 => updF (W2D φ w i) (i + 16) (schedD φ (W2D φ w i i) (W2D φ w i (i + 1)) (W2D φ w i (i + 9)) (W2D φ w i (i + 14)))
def X3D (φ : Fr) (g w h : Nat → UInt64) : Nat → Nat → UInt64
  | 0 => h
  | i + 1 => rndD φ (g i) (w i) (X3D φ g w h i)
def pieceD (φ : Fr) (g h : Nat → UInt64) (b : Nat → UInt8) : Nat → UInt64 := A4 h (X3D φ g (W2D φ (W1 b 128) 64) h 80) 8
def UA (h : Nat → UInt64) (o i : Nat) : TL := [(0, .agg (cellsU 8 h)), (1, .slice 1 o 128 1), (2, .ptr 2 0), (4, .ptr 10 0), (5, .ptr 18 0), (6, .int .i64 (i : Int))]
def UB (h : Nat → UInt64) (o i : Nat) : TL := UA h o 128 ++ [(19, .bool false), (7, .int .i64 (i : Int))]
def UC (h : Nat → UInt64) (o i : Nat) : TL := UB h o 80 ++ [(37, .bool false), (10, .ptr 82 0), (11, .ptr 106 0), (12, .int .i64 (i : Int))]
def UD (h : Nat → UInt64) (o i : Nat) : TL := UC h o 80 ++ [(80, .bool false), (17, .int .i64 (i : Int))]
def VA (b : Nat → UInt8) (L : Nat) (h w : Nat → UInt64) : HL := [(1, .cells false (cellsB L b)), (2, .cells false (cellsU 8 h)), (10, .cells false (cellsU 8 fun _ => 0)), (18, .cells false (cellsU 80 w))]
def VC (b : Nat → UInt8) (L : Nat) (h w κ x : Nat → UInt64) : HL := VA b L h w ++ [(82, .cells false (cellsU 80 κ)), (106, .cells false (cellsU 8 x))]
def SA16 (b : Nat → UInt8) (L : Nat) (h : Nat → UInt64) (o : Nat) (w : Nat → UInt64) (i : Nat) : SA := ⟨UA h o i, VA b L h w, 34⟩
def SB16 (b : Nat → UInt8) (L : Nat) (h : Nat → UInt64) (o : Nat) (w : Nat → UInt64) (i : Nat) : SA := ⟨UB h o i, VA b L h w, 58⟩
def SC16 (b : Nat → UInt8) (L : Nat) (h : Nat → UInt64) (o : Nat) (w κ x : Nat → UInt64) (i : Nat) : SA := ⟨UC h o i, VC b L h w κ x, 130⟩
def SD16 (b : Nat → UInt8) (L : Nat) (h : Nat → UInt64) (o : Nat) (w κ x h1 : Nat → UInt64) (i : Nat) : SA := ⟨UD h o i, VC b L h1 w κ x, 154⟩
theorem p16_3 : p16[3]? = some (.block 0 (.loop (b16 3))) := by kernel_rfl
theorem p16_5 : p16[5]? = some (.block 2 (.loop (b16 5))) := by kernel_rfl
theorem p16_9 : p16[9]? = some (.block 4 (.loop (b16 9))) := by kernel_rfl
theorem p16_11 : p16[11]? = some (.block 6 (.loop (b16 11))) := by kernel_rfl
theorem okB {T : TL} {L n fr : Nat} {b : Nat → UInt8} {H : HL} (h : okS Tryd.prog ⟨T, (n, .cells false []) :: H, fr⟩ = true) : okS Tryd.prog ⟨T, (n, .cells false (cellsB L b)) :: H, fr⟩ = true := by
  unfold okS at h ⊢
  simp only [ltH, ltL_B, ltL] at h ⊢
  exact h
section
variable (φ : Fr) (κ h h1 h2 w w0 x x0 : Nat → UInt64) (b : Nat → UInt8) (L o i j p q r s F : Nat)
theorem s16a : segO (evSO Tryd.prog noPS (n16 φ κ) [] Tryd.f16.ntmps (mask 16) F 2 ((p16.drop 0).take 3) (⟨startT [.agg (cellsU 8 h), .slice 1 o 128 1] 0, [(1, .cells false (cellsB L b))], 2⟩) ⟨[], [], []⟩) = some (SA16 b L h o (fun _ => 0) 0, []) := by kernel_rfl
theorem r16A : roundO2 Tryd.prog noPS (n16 φ κ) [19,200023,200025,26,27,31,32,35,100035,200021] [true] [.int .i64 (p : Int), .int .i64 (p : Int), .u64 (w p), .u8 (b (o+i)), .int .i64 (j : Int)] Tryd.f16.ntmps (mask 16) F 2 (b16 3) (SA16 b L h o w0 0) (SA16 b L h o w i) = some (⟨UA h o j, [(1, .cells false (cellsB L b)), (2, .cells false (cellsU 8 h)), (10, .cells false (cellsU 8 fun _ => 0)), (18, .cells false (putA (cellsU 80 w) (0 + (p : Int).toNat * 1) (cellsA (.u64 (shlW (w p) (b (o + i)))))))], 34⟩, [eqS (.int .i64 (IntKind.wrap .i64 ((i : Int) + 1))) (.int .i64 (j : Int)), Nat.ble (0 + (p : Int).toNat * 1 + (cellsA (.u64 (shlW (w p) (b (o + i))))).length) (cellsU 80 w).length, decide (0 ≤ (p : Int)) && decide ((p : Int) < 80), isAt (cellsB L b) (o + (i : Int).toNat * 1) (.u8 (b (o + i))), decide (0 ≤ (i : Int)) && decide ((i : Int) < 128), isAt (cellsU 80 w) (0 + (p : Int).toNat * 1) (.u64 (w p)), decide (0 ≤ (p : Int)) && decide ((p : Int) < 80), eqS (.int .i64 (IntKind.wrap .i64 (Int.tdiv (i : Int) 8))) (.int .i64 (p : Int)), eqS (.int .i64 (IntKind.wrap .i64 (Int.tdiv (i : Int) 8))) (.int .i64 (p : Int)), decide ((i : Int) < 128)]) := by kernel_rfl
theorem x16A : evSO Tryd.prog noPS (n16 φ κ) [19] Tryd.f16.ntmps (mask 16) F 2 [b16 3] (SA16 b L h o w i) ⟨[false], [], []⟩ = some (.exit 0, ⟨UA h o i ++ [(19, .bool false)], VA b L h w, 50⟩, ⟨[], [], [!(decide ((i : Int) < 128))]⟩) := by kernel_rfl
theorem s16b : segO (evSO Tryd.prog noPS (n16 φ κ) [] Tryd.f16.ntmps (mask 16) F 2 ((p16.drop 4).take 1) (⟨UA h o 128 ++ [(19, .bool false)], VA b L h w, 50⟩) ⟨[], [], []⟩) = some (SB16 b L h o w 16, []) := by kernel_rfl
theorem r16B : roundO2 Tryd.prog noPS (n16 φ κ) [37,200041,42,43,200045,46,47,200050,51,52,200063,64,65,76,100076,200039] [true] [.int .i64 (p : Int), .u64 (w p), .int .i64 (q : Int), .u64 (w q), .int .i64 (r : Int), .u64 (w r), .int .i64 (s : Int), .u64 (w s), .int .i64 (j : Int)] Tryd.f16.ntmps (mask 16) F 2 (b16 5) (SB16 b L h o w0 16) (SB16 b L h o w i) = some (⟨UB h o j, [(1, .cells false (cellsB L b)), (2, .cells false (cellsU 8 h)), (10, .cells false (cellsU 8 fun _ => 0)), (18, .cells false (putA (cellsU 80 w) (0 + (i : Int).toNat * 1) (cellsA (.u64 (schedD φ (w r) (w p) (w s) (w q))))))], 58⟩, [eqS (.int .i64 (IntKind.wrap .i64 ((i : Int) + 1))) (.int .i64 (j : Int)), Nat.ble (0 + (i : Int).toNat * 1 + (cellsA (.u64 (schedD φ (w r) (w p) (w s) (w q)))).length) (cellsU 80 w).length, decide (0 ≤ (i : Int)) && decide ((i : Int) < 80), isAt (cellsU 80 w) (0 + (s : Int).toNat * 1) (.u64 (w s)), decide (0 ≤ (s : Int)) && decide ((s : Int) < 80), eqS (.int .i64 (IntKind.wrap .i64 ((i : Int) - 7))) (.int .i64 (s : Int)), isAt (cellsU 80 w) (0 + (r : Int).toNat * 1) (.u64 (w r)), decide (0 ≤ (r : Int)) && decide ((r : Int) < 80), eqS (.int .i64 (IntKind.wrap .i64 ((i : Int) - 16))) (.int .i64 (r : Int)), isAt (cellsU 80 w) (0 + (q : Int).toNat * 1) (.u64 (w q)), decide (0 ≤ (q : Int)) && decide ((q : Int) < 80), eqS (.int .i64 (IntKind.wrap .i64 ((i : Int) - 2))) (.int .i64 (q : Int)), isAt (cellsU 80 w) (0 + (p : Int).toNat * 1) (.u64 (w p)), decide (0 ≤ (p : Int)) && decide ((p : Int) < 80), eqS (.int .i64 (IntKind.wrap .i64 ((i : Int) - 15))) (.int .i64 (p : Int)), decide ((i : Int) < 80)]) := by kernel_rfl
theorem x16B : evSO Tryd.prog noPS (n16 φ κ) [37] Tryd.f16.ntmps (mask 16) F 2 [b16 5] (SB16 b L h o w i) ⟨[false], [], []⟩ = some (.exit 2, ⟨UB h o i ++ [(37, .bool false)], VA b L h w, 74⟩, ⟨[], [], [!(decide ((i : Int) < 80))]⟩) := by kernel_rfl
theorem s16c : segO (evSO Tryd.prog noPS (n16 φ κ) [] Tryd.f16.ntmps (mask 16) F 2 ((p16.drop 6).take 3) (⟨UB h o 80 ++ [(37, .bool false)], VA b L h w, 74⟩) ⟨[], [], []⟩) = some (SC16 b L h o w κ h 0, []) := by kernel_rfl
theorem r16C : roundO2 Tryd.prog noPS (n16 φ κ) [80,108,109,112,113,200082] [true] [.u64 (κ i), .u64 (w i), .int .i64 (j : Int)] Tryd.f16.ntmps (mask 16) F 2 (b16 9) (SC16 b L h o w κ x0 0) (SC16 b L h o w κ x i) = some (SC16 b L h o w κ (rndD φ (κ i) (w i) x) j, [eqS (.int .i64 (IntKind.wrap .i64 ((i : Int) + 1))) (.int .i64 (j : Int)), isAt (cellsU 80 w) (0 + (i : Int).toNat * 1) (.u64 (w i)), decide (0 ≤ (i : Int)) && decide ((i : Int) < 80), isAt (cellsU 80 κ) (0 + (i : Int).toNat * 1) (.u64 (κ i)), decide (0 ≤ (i : Int)) && decide ((i : Int) < 80), decide ((i : Int) < 80)]) := by kernel_rfl
theorem x16C : evSO Tryd.prog noPS (n16 φ κ) [80] Tryd.f16.ntmps (mask 16) F 2 [b16 9] (SC16 b L h o w κ x i) ⟨[false], [], []⟩ = some (.exit 4, ⟨UC h o i ++ [(80, .bool false)], VC b L h w κ x, 146⟩, ⟨[], [], [!(decide ((i : Int) < 80))]⟩) := by kernel_rfl
theorem s16d : segO (evSO Tryd.prog noPS (n16 φ κ) [] Tryd.f16.ntmps (mask 16) F 2 ((p16.drop 10).take 1) (⟨UC h o 80 ++ [(80, .bool false)], VC b L h w κ x, 146⟩) ⟨[], [], []⟩) = some (SD16 b L h o w κ x h 0, []) := by kernel_rfl
theorem r16D : roundO2 Tryd.prog noPS (n16 φ κ) [162,167,168,170,171,173,100173,200164] [true] [.u64 (h1 i), .u64 (x i), .int .i64 (j : Int)] Tryd.f16.ntmps (mask 16) F 2 (b16 11) (SD16 b L h o w κ x h2 0) (SD16 b L h o w κ x h1 i) = some (⟨UD h o j, [(1, .cells false (cellsB L b)), (2, .cells false (putA (cellsU 8 h1) (0 + (i : Int).toNat * 1) (cellsA (.u64 (h1 i + x i))))), (10, .cells false (cellsU 8 fun _ => 0)), (18, .cells false (cellsU 80 w)), (82, .cells false (cellsU 80 κ)), (106, .cells false (cellsU 8 x))], 154⟩, [eqS (.int .i64 (IntKind.wrap .i64 ((i : Int) + 1))) (.int .i64 (j : Int)), Nat.ble (0 + (i : Int).toNat * 1 + (cellsA (.u64 (h1 i + x i))).length) (cellsU 8 h1).length, decide (0 ≤ (i : Int)) && decide ((i : Int) < 8), isAt (cellsU 8 x) (0 + (i : Int).toNat * 1) (.u64 (x i)), decide (0 ≤ (i : Int)) && decide ((i : Int) < 8), isAt (cellsU 8 h1) (0 + (i : Int).toNat * 1) (.u64 (h1 i)), decide (0 ≤ (i : Int)) && decide ((i : Int) < 8), decide ((i : Int) < 8)]) := by kernel_rfl
theorem x16D : evSO Tryd.prog noPS (n16 φ κ) [162] Tryd.f16.ntmps (mask 16) F 2 [b16 11] (SD16 b L h o w κ x h1 i) ⟨[false], [], []⟩ = some (.exit 6, ⟨UD h o i ++ [(162, .bool false)], VC b L h1 w κ x, 170⟩, ⟨[], [], [!(decide ((i : Int) < 8))]⟩) := by kernel_rfl
theorem z16 : evS Tryd.prog (n16 φ κ) Tryd.f16.ntmps (mask 16) F 2 (p16.drop 12) ⟨UD h o 8 ++ [(162, .bool false)], VC b L h1 w κ x, 170⟩ = some (.ret, ⟨UD h o 8 ++ [(162, .bool false)], [(1, .cells false (cellsB L b)), (2, .cells false (cellsU 8 h1)), (10, .cells false (cellsU 8 h1)), (18, .cells false (cellsU 80 w)), (82, .cells false (cellsU 80 κ)), (106, .cells false (cellsU 8 x))], 186⟩) := by kernel_rfl
theorem ok16A : okS Tryd.prog (SA16 b L h o w i) = true := okB (by kernel_rfl)
theorem ok16B : okS Tryd.prog (SB16 b L h o w i) = true := okB (by kernel_rfl)
theorem ok16C : okS Tryd.prog (SC16 b L h o w κ x i) = true := okB (by kernel_rfl)
theorem ok16D : okS Tryd.prog (SD16 b L h o w κ x h1 i) = true := okB (by kernel_rfl)
end
theorem end16 {φ : Fr} {κ : Nat → UInt64} {sy : List Nat} {F : Nat} {b : Code} {s s' : SA} {id : Nat} {c : Bool} (h : evSO Tryd.prog noPS (n16 φ κ) sy Tryd.f16.ntmps (mask 16) F 2 [b] s ⟨[false], [], []⟩ = some (.exit id, s', ⟨[], [], [!c]⟩)) (hc : c = false) : evC Tryd.prog (n16 φ κ) Tryd.f16.ntmps (mask 16) F 2 b s = some (.exit id, s') := by
  have := (evSO_ok (noPS_ok _) _ _ _ _ _ _ h (by rw [hc]; rfl)).1
  rwa [evS_one] at this
theorem isAt_cellsB {L k i o : Nat} (b : Nat → UInt8) (hk : o + i < L) : isAt (cellsB L b) (o + (i : Int).toNat * 1) (.u8 (b (o + i))) = true := by
  have e : o + (i : Int).toNat * 1 = o + i := by simp
  rw [e]
  unfold isAt
  rw [cellsB_at b hk]
  exact eqS_u8 _
/-- What a piece of 128 bytes makes of the words. -/
theorem ev16 (φ : Fr) (κ h : Nat → UInt64) (b : Nat → UInt8) (L o : Nat) (hL : o + 128 ≤ L) : evS Tryd.prog (n16 φ κ) Tryd.f16.ntmps (mask 16) 200 2 p16 ⟨startT [.agg (cellsU 8 h), .slice 1 o 128 1] 0, [(1, .cells false (cellsB L b))], 2⟩ =
    some (.ret, ⟨UD h o 8 ++ [(162, .bool false)], [(1, .cells false (cellsB L b)), (2, .cells false (cellsU 8 (pieceD φ κ h fun i => b (o + i)))), (10, .cells false (cellsU 8 (pieceD φ κ h fun i => b (o + i)))), (18, .cells false (cellsU 80 (W2D φ (W1 (fun i => b (o + i)) 128) 64))), (82, .cells false (cellsU 80 κ)), (106, .cells false (cellsU 8 (X3D φ κ (W2D φ (W1 (fun i => b (o + i)) 128) 64) h 80)))], 186⟩) := by
  obtain ⟨w, hw⟩ : ∃ w, w = W2D φ (W1 (fun i => b (o + i)) 128) 64 := ⟨_, rfl⟩
  obtain ⟨x, hx⟩ : ∃ x, x = X3D φ κ w h 80 := ⟨_, rfl⟩
  have hp : pieceD φ κ h (fun i => b (o + i)) = A4 h x 8 := by rw [hx, hw]; rfl
  rw [hp, ← hw, ← hx]
  have a1 := segO_ok (noPS_ok _) (s16a φ κ h b L o 200) rfl
  rw [List.drop_zero] at a1
  refine a1.trans ?_
  refine (evS_loop p16_3 (fun i => SA16 b L h o (W1 (fun i => b (o + i)) i) i) 128 (fun i hi => ?_) (end16 (x16A φ κ h (W1 (fun i => b (o + i)) 128) b L o 128 200) (by decide)) (by omega)).trans ?_
  · have hk : i / 8 < 80 := by omega
    have e := putA_cellsU (W1 (fun i => b (o + i)) i) (shlW (W1 (fun i => b (o + i)) i (i / 8)) (b (o + i))) hk
    have r := r16A φ κ h (W1 (fun i => b (o + i)) i) (W1 (fun i => b (o + i)) 0) b L o i (i + 1) (i / 8) 200
    rw [e] at r
    refine roundO2_ok (noPS_ok _) r ?_ (ok16A h (W1 (fun i => b (o + i)) (i + 1)) b L o (i + 1))
    have b1 : Nat.ble (0 + ((i / 8 : Nat) : Int).toNat * 1 + (cellsA (.u64 (shlW (W1 (fun i => b (o + i)) i (i / 8)) (b (o + i))))).length) 80 = true := ble_i hk
    simp only [nat0, Bool.true_and, Bool.and_self, allT, plus1 (show i < 1000 by omega), cellsU_len, cellsB_len, b1, lt_i (k := 80) hk, lt_i (k := 128) hi, isAt_cellsU (W1 (fun i => b (o + i)) i) hk, quo8 (show i < 1000 by omega), isAt_cellsB b (k := 0) (show o + i < L by omega), lt_i (k := 128) hi, cond_true]
  have a2 := segO_ok (noPS_ok _) (s16b φ κ h (W1 (fun i => b (o + i)) 128) b L o 200) rfl
  refine a2.trans ?_
  refine (evS_loop p16_5 (fun i => SB16 b L h o (W2D φ (W1 (fun i => b (o + i)) 128) i) (i + 16)) 64 (fun i hi => ?_) (end16 (x16B φ κ h (W2D φ (W1 (fun i => b (o + i)) 128) 64) b L o (64 + 16) 200) (by decide)) (by omega)).trans ?_
  · obtain ⟨w1, hw1⟩ : ∃ w1, w1 = W1 (fun i => b (o + i)) 128 := ⟨_, rfl⟩
    rw [← hw1]
    have h1 : i + 1 < 80 := by omega
    have h14 : i + 14 < 80 := by omega
    have h0 : i < 80 := by omega
    have h9 : i + 9 < 80 := by omega
    have h16 : i + 16 < 80 := by omega
    have e := putA_cellsU (W2D φ w1 i) (schedD φ (W2D φ w1 i i) (W2D φ w1 i (i + 1)) (W2D φ w1 i (i + 9)) (W2D φ w1 i (i + 14))) h16
    have r := r16B φ κ h (W2D φ w1 i) (W2D φ w1 0) b L o (i + 16) (i + 1 + 16) (i + 1) (i + 14) i (i + 9) 200
    rw [e] at r
    refine roundO2_ok (noPS_ok _) r ?_ (ok16B h (W2D φ w1 (i + 1)) b L o (i + 1 + 16))
    have q : eqS (.int .i64 (IntKind.wrap .i64 (((i + 16 : Nat) : Int) + 1))) (.int .i64 ((i + 1 + 16 : Nat) : Int)) = true := by
      have := plus1 (show i + 16 < 1000 by omega)
      rwa [show i + 1 + 16 = i + 16 + 1 by omega]
    have m7 : eqS (.int .i64 (IntKind.wrap .i64 (((i + 16 : Nat) : Int) - 7))) (.int .i64 ((i + 9 : Nat) : Int)) = true := minus (d := 7) (by omega) (by omega)
    have m16 : eqS (.int .i64 (IntKind.wrap .i64 (((i + 16 : Nat) : Int) - 16))) (.int .i64 ((i : Nat) : Int)) = true := minus (d := 16) (by omega) (by omega)
    have m2 : eqS (.int .i64 (IntKind.wrap .i64 (((i + 16 : Nat) : Int) - 2))) (.int .i64 ((i + 14 : Nat) : Int)) = true := minus (d := 2) (by omega) (by omega)
    have m15 : eqS (.int .i64 (IntKind.wrap .i64 (((i + 16 : Nat) : Int) - 15))) (.int .i64 ((i + 1 : Nat) : Int)) = true := minus (d := 15) (by omega) (by omega)
    have b1 : Nat.ble (0 + ((i + 16 : Nat) : Int).toNat * 1 + (cellsA (.u64 (schedD φ (W2D φ w1 i i) (W2D φ w1 i (i + 1)) (W2D φ w1 i (i + 9)) (W2D φ w1 i (i + 14))))).length) 80 = true := ble_i h16
    simp only [nat0, Bool.true_and, Bool.and_self, allT, q, m7, m16, m2, m15, cellsU_len, b1, lt_i (k := 80) h16, lt_i (k := 80) h1, lt_i (k := 80) h14, lt_i (k := 80) h0, lt_i (k := 80) h9, isAt_cellsU (W2D φ w1 i) h1, isAt_cellsU (W2D φ w1 i) h14, isAt_cellsU (W2D φ w1 i) h0, isAt_cellsU (W2D φ w1 i) h9, lt_i (k := 80) h16, cond_true]
  rw [← hw]
  have a3 := segO_ok (noPS_ok _) (s16c φ κ h w b L o 200) rfl
  refine a3.trans ?_
  refine (evS_loop p16_9 (fun i => SC16 b L h o w κ (X3D φ κ w h i) i) 80 (fun i hi => ?_) (end16 (x16C φ κ h w (X3D φ κ w h 80) b L o 80 200) (by decide)) (by omega)).trans ?_
  · have r := r16C φ κ h w (X3D φ κ w h i) (X3D φ κ w h 0) b L o i (i + 1) 200
    refine roundO2_ok (noPS_ok _) r ?_ (ok16C κ h w (X3D φ κ w h (i + 1)) b L o (i + 1))
    simp only [nat0, Bool.true_and, Bool.and_self, allT, plus1 (show i < 1000 by omega), lt_i (k := 80) hi, isAt_cellsU w hi, isAt_cellsU κ hi, lt_i (k := 80) hi, cond_true]
  rw [← hx]
  have a4 := segO_ok (noPS_ok _) (s16d φ κ h w x b L o 200) rfl
  refine a4.trans ?_
  refine (evS_loop p16_11 (fun i => SD16 b L h o w κ x (A4 h x i) i) 8 (fun i hi => ?_) (end16 (x16D φ κ h (A4 h x 8) w x b L o 8 200) (by decide)) (by omega)).trans (z16 φ κ h (A4 h x 8) w x b L o 200)
  have e := putA_cellsU (A4 h x i) (A4 h x i i + x i) hi
  have r := r16D φ κ h (A4 h x i) (A4 h x 0) w x b L o i (i + 1) 200
  rw [e] at r
  refine roundO2_ok (noPS_ok _) r ?_ (ok16D κ h (A4 h x (i + 1)) w x b L o (i + 1))
  have b1 : Nat.ble (0 + (i : Int).toNat * 1 + (cellsA (.u64 (A4 h x i i + x i))).length) 8 = true := ble_i hi
  simp only [nat0, Bool.true_and, Bool.and_self, allT, plus1 (show i < 1000 by omega), cellsU_len, b1, lt_i (k := 8) hi, isAt_cellsU x hi, isAt_cellsU (A4 h x i) hi, lt_i (k := 8) hi, cond_true]
end Go.Proofs.YtaepfopmicnnbaaDoor

/- The document's piece, as a summary. -/
namespace Go.Proofs.YtaepfopmicnnbaaDoor
set_option linter.unusedVariables false
set_option linter.unusedSimpArgs false
open Go Go.Eng
set_option maxRecDepth 1000000
set_option linter.unusedSimpArgs false
set_option linter.unusedVariables false
/-- The bytes of a block that is all bytes. -/
def shAllB (c : List AVal) : Bool := match shB c.length c with
  | some [] => true
  | _ => false
theorem shAllB_ok {c : List AVal} (h : shAllB c = true) : c = cellsB c.length (gB c) := by
  unfold shAllB at h
  split at h
  · rename_i hs
    have := shB_ok hs
    rwa [List.append_nil] at this
  · cases h
theorem shAllB_B (L : Nat) (b : Nat → UInt8) : shAllB (cellsB L b) = true := by
  have : ∀ (l : List UInt8), shB (l.map AVal.u8).length (l.map AVal.u8) = some [] := by
    intro l
    induction l with
    | nil => rfl
    | cons x l ih => simp only [List.map_cons, List.length_cons, shB]; exact ih
  unfold shAllB
  have e : cellsB L b = ((List.range L).map b).map .u8 := by simp [cellsB]
  rw [e, this]
theorem gB_cellsB' (L : Nat) (b : Nat → UInt8) {i : Nat} (h : i < L) : gB (cellsB L b) i = b i := by
  unfold gB
  rw [cellsB_at b h]
def k16 (f : (Nat → UInt64) → (Nat → UInt8) → Nat → UInt64) : List AVal → Option EffA
  | [.agg a, .slice m o n 1] => match shU 8 a with
    | some [] => cond (Nat.beq n 128) (some (oneE m fun _ c => cond (shAllB c && Nat.ble (o + 128) c.length) (some (.agg (cellsU 8 (f (gU a) fun i => gB c (o + i))), c)) none)) none
    | _ => none
  | _ => none
theorem f16_at : Tryd.prog.funcs[16]? = some Tryd.f16 := by kernel_rfl
theorem f16_body : Tryd.f16.body = some (bodyOf Tryd.f16) := by kernel_rfl
theorem ltS_U (n k : Nat) (f : Nat → UInt64) : ltV k (.agg (cellsU n f)) = true := ltL_U ..
theorem callOk16 {φ : Fr} {κ : Nat → UInt64} (hcs : CSOk Tryd.prog (n16 φ κ)) : CSOk Tryd.prog (csOne 16 (k16 (pieceD φ κ))) := by
  refine csOne_ok fun args e h => ?_
  have e1 : Tryd.prog.globals.size = 1 := gl
  unfold k16 at h
  split at h
  · rename_i a m o n
    split at h
    · rename_i ha
      cases hn : Nat.beq n 128 <;> rw [hn] at h <;> simp only [cond_true, cond_false] at h
      · cases h
      · cases h
        have hn := Nat.eq_of_beq_eq_true hn
        subst hn
        have ea := shU_ok ha
        rw [List.append_nil] at ea
        obtain ⟨h0, hh0⟩ : ∃ h0, h0 = gU a := ⟨_, rfl⟩
        rw [← hh0] at ea ⊢
        clear hh0
        subst ea
        refine callOk_one0 (cargs := [.agg (cellsU 8 h0), .slice 1 o 128 1]) hcs hmix (by rw [e1]; rfl) fun c v c' hk => ?_
        cases hc : (shAllB c && Nat.ble (o + 128) c.length) <;> rw [hc] at hk <;> simp only [cond_true, cond_false] at hk
        · cases hk
        · simp only [Option.some.injEq, Prod.mk.injEq] at hk
          obtain ⟨rfl, rfl⟩ := hk
          rw [Bool.and_eq_true] at hc
          have ec := shAllB_ok hc.1
          have hl : ltL 0 c = true := by rw [ec]; exact ltL_B ..
          have r := ev16 φ κ h0 (gB c) c.length o (Nat.le_of_ble_eq_true hc.2)
          rw [← ec] at r
          have r2 := run1_fin1 f16_at f16_body (by kernel_rfl) r (.inr rfl) (v := .agg (cellsU 8 (pieceD φ κ h0 fun i => gB c (o + i)))) rfl
          rw [e1]
          exact ⟨hl, hl, ltS_U .., 200, mask 16, _, _, r2, rfl⟩
    · cases h
  · cases h
end Go.Proofs.YtaepfopmicnnbaaDoor

/- Engine, part 41: rounds at whose end blocks of plain data of unknown length bear new names. -/
namespace Go.Eng
set_option linter.unusedVariables false
set_option linter.unusedSimpArgs false
open Go
theorem renS_plain {m n : Nat} {v : AVal} (h : ltS 0 v = true) : renS m n v = some v := by
  have h0 : ∀ n : Nat, Nat.ble (n + 1) 0 = false := fun n => rfl
  cases v <;> first | rfl | (simp only [ltS, h0] at h; done) | skip
  all_goals simp only [ltS, h0] at h
  all_goals first | cases h | skip
  all_goals (rename_i cs; cases cs <;> first | rfl | cases h)
theorem renL_plain {m n : Nat} : ∀ {c : List AVal}, ltL 0 c = true → renL m n c = some c
  | [], _ => rfl
  | v :: c, h => by
    simp only [ltL] at h
    cases hv : ltS 0 v <;> rw [hv] at h <;> simp only [cond_true, cond_false] at h
    · cases h
    · simp only [renL, renS_plain hv, renL_plain h]
def memD (k : Nat) : List Nat → Bool
  | [] => false
  | m :: l => cond (Nat.beq k m) true (memD k l)
/-- As 'renH'; that the blocks named in 'dl' are plain data is asked. -/
def renHx (dl : List Nat) (m n : Nat) : HL → Option (HL × List Bool)
  | [] => some ([], [])
  | (k, .cells ro c) :: l => match renN m n k, renHx dl m n l with
    | some k', some (l', ob) => cond (memD k dl) (some ((k', .cells ro c) :: l', ltL 0 c :: ob)) (match renL m n c with
      | some c' => some ((k', .cells ro c') :: l', ob)
      | none => none)
    | _, _ => none
theorem renHx_ok {dl : List Nat} {m n : Nat} : ∀ {H H' : HL} {ob : List Bool}, renHx dl m n H = some (H', ob) → allT ob = true → renH m n H = some H'
  | [], H', ob, h, _ => by cases h; rfl
  | (k, .cells ro c) :: l, H', ob, h, ha => by
    simp only [renHx] at h
    split at h
    · rename_i k' l' ob' h1 h2
      cases hm : memD k dl <;> rw [hm] at h <;> simp only [cond_true, cond_false] at h
      · split at h
        · rename_i c' hc
          cases h
          simp only [renH, h1, hc, renHx_ok h2 ha]
        · cases h
      · cases h
        have := allT_cons ha
        simp only [renH, h1, renL_plain this.1, renHx_ok h2 this.2]
    · cases h
def ren1x (dl : List Nat) (P : Program) (bs m n : Nat) (s : SA) : Option (SA × List Bool) :=
  cond (Nat.ble bs m && Nat.ble bs n && Nat.ble P.globals.size bs && Nat.ble (n + 1) s.fr && !(Nat.beq m n)) (match renT m n s.T, renHx dl m n (adel s.H n) with
    | some T, some (H, ob) => some (⟨T, H, s.fr⟩, ob)
    | _, _ => none) none
theorem ren1x_ok {dl : List Nat} {P : Program} {bs m n : Nat} {s s' : SA} {ob : List Bool} (h : ren1x dl P bs m n s = some (s', ob)) (ha : allT ob = true) : ren1 P bs m n s = some s' := by
  unfold ren1x at h
  unfold ren1 ren0
  simp only at h ⊢
  cases hc : (Nat.ble bs m && Nat.ble bs n && Nat.ble P.globals.size bs && Nat.ble (n + 1) s.fr && !(Nat.beq m n)) <;> rw [hc] at h <;> simp only [cond_true, cond_false] at h ⊢
  · cases h
  · split at h
    · rename_i T H ob' h1 h2
      cases h
      simp only [h1, renHx_ok h2 ha]
    · cases h
def renAllx (dl : List Nat) (P : Program) (bs : Nat) : List (Nat × Nat) → SA → List Bool → Option (SA × List Bool)
  | [], s, ob => some (s, ob)
  | (m, n) :: l, s, ob => match ren1x dl P bs m n s with
    | some (s', ob') => renAllx dl P bs l s' (ob' ++ ob)
    | none => none
theorem allT_append : ∀ {a b : List Bool}, allT (a ++ b) = true → allT a = true ∧ allT b = true
  | [], b, h => ⟨rfl, h⟩
  | x :: a, b, h => by
    have h1 := allT_cons (b := x) (l := a ++ b) h
    have h2 := allT_append h1.2
    refine ⟨?_, h2.2⟩
    simp only [allT, h1.1, h2.1, cond_true]
theorem renAllx_ok {dl : List Nat} {P : Program} {bs : Nat} : ∀ {l : List (Nat × Nat)} {s s' : SA} {ob ob' : List Bool}, renAllx dl P bs l s ob = some (s', ob') → allT ob' = true → renAll P bs l s = s' ∧ allT ob = true
  | [], s, s', ob, ob', h, ha => by cases h; exact ⟨rfl, ha⟩
  | (m, n) :: l, s, s', ob, ob', h, ha => by
    simp only [renAllx] at h
    split at h
    · rename_i s1 ob1 h1
      obtain ⟨e1, e2⟩ := renAllx_ok h ha
      have e3 := allT_append e2
      refine ⟨?_, e3.2⟩
      simp only [renAll, ren1x_ok h1 e3.1]
      exact e1
    · cases h
noncomputable def roundO3 (dl : List Nat) (P : Program) (ps : PS) (cs : CS) (sy : List Nat) (os : List Bool) (vs : List AVal) (nt nn F bs : Nat) (b : Code) (s0 s : SA) : Option (SA × List Bool) :=
  match evT P ps cs sy nt nn F bs b s ⟨os, vs, []⟩ with
  | some (.normal, s', q) => match renAllx dl P bs (pairsT s0.fr 0 s0.T s'.T) s' q.ob with
    | some (r, ob) => some (⟨reshape s0.T r.T, reshapeH s0.H r.H ++ extraH s0.H s0.fr r.H, s0.fr⟩, ob)
    | none => none
  | _ => none
theorem roundO3_ok {dl : List Nat} {P : Program} {ps : PS} {cs : CS} (hps : PSOk ps cs) {sy : List Nat} {os : List Bool} {vs : List AVal} {nt nn F bs : Nat} {b : Code} {s0 s s1 : SA} {ob : List Bool} (h : roundO3 dl P ps cs sy os vs nt nn F bs b s0 s = some (s1, ob)) (ha : allT ob = true) (ho : okS P s1 = true) :
    roundA (evC P cs nt nn F bs b) (headA P bs s0) s = some s1 := by
  unfold roundO3 at h
  split at h
  · rename_i s' q hev
    split at h
    · rename_i r ob' hr
      simp only [Option.some.injEq, Prod.mk.injEq] at h
      obtain ⟨h1, rfl⟩ := h
      obtain ⟨e1, e2⟩ := renAllx_ok hr ha
      have hh : headS P bs s0 s' = s1 := by
        unfold headS
        simp only
        rw [e1]
        exact h1
      simp only [roundA, (evT_ok hps b _ _ _ _ _ hev e2).1, headS_eq hh ho]
    · cases h
  · cases h
end Go.Eng

/- The document's digest: its walk. -/
namespace Go.Proofs.YtaepfopmicnnbaaDoor
set_option linter.unusedVariables false
set_option linter.unusedSimpArgs false
open Go Go.Eng
set_option maxRecDepth 1000000
set_option linter.unusedSimpArgs false
set_option linter.unusedVariables false
abbrev PieceF := (Nat → UInt64) → (Nat → UInt8) → Nat → UInt64
def n9 (P : PieceF) (η : Nat → UInt64) : CS := csAlt (csOne 11 (d11 η)) (csOne 16 (k16 P))
noncomputable def p9 : List Code := pieces (bodyOf Tryd.f9)
noncomputable def b9 (k : Nat) : Code := loopOf (p9.getD k .skip)
def apC (c : List UInt8) (x : UInt8) : List AVal := List.take (c.length * 1) (List.drop 0 (c.map .u8)) ++ [.u8 x]
def apOb (c : List UInt8) : Bool := true && (((Nat.ble ((c.length + 1) * 1) 140737488355328 && Nat.ble (c.length + 1) 140737488355328) && true) && Nat.ble (0 + c.length * 1) (c.map AVal.u8).length)
theorem apC_eq (c : List UInt8) (x : UInt8) : apC c x = (c ++ [x]).map .u8 := by
  unfold apC
  rw [List.drop_zero, Nat.mul_one, List.map_append, List.take_of_length_le (by simp)]; rfl
theorem apOb_ok {c : List UInt8} (h : c.length < 1000000000) : apOb c = true := by
  unfold apOb
  have h1 : Nat.ble ((c.length + 1) * 1) 140737488355328 = true := Nat.ble_eq_true_of_le (by omega)
  have h2 : Nat.ble (c.length + 1) 140737488355328 = true := Nat.ble_eq_true_of_le (by omega)
  have h3 : Nat.ble (0 + c.length * 1) (c.map AVal.u8).length = true := Nat.ble_eq_true_of_le (by rw [List.length_map]; omega)
  rw [h1, h2, h3]; rfl
theorem ltLm (k : Nat) (c : List UInt8) : ltL k (c.map AVal.u8) = true := ltL_u8 ..
def TA9 (l : List UInt8) (n : Nat) : TL := [(0, .str l), (2, .str []), (3, .slice 33 0 n 1)]
def HA9 (C : List AVal) : HL := [(25, .cells false [.u8 128]), (33, .cells false C)]
def TB9 (l : List UInt8) (n : Nat) (z : Int) : TL := TA9 l n ++ [(17, .bool false), (4, .int .i64 z)]
def TC9 (l : List UInt8) (n : Nat) (z : Int) (i : Nat) : TL := TB9 l n z ++ [(22, .bool false), (6, .ptr 113 0), (7, .int .i64 (i : Int))]
def HC9 (C : List AVal) (h : Nat → UInt64) : HL := HA9 C ++ [(113, .cells false (cellsU 8 h))]
def TD9 (l : List UInt8) (n : Nat) (z : Int) (m : Nat) (s : AVal) (i : Nat) : TL := TC9 l n z m ++ [(44, .bool false), (8, s), (9, .int .i64 (i : Int))]
def SA9 (l : List UInt8) (n : Nat) (C : List AVal) : SA := ⟨TA9 l n, HA9 C, 49⟩
def SB9 (l : List UInt8) (n : Nat) (C : List AVal) (z : Int) : SA := ⟨TB9 l n z, HA9 C, 89⟩
def SC9 (l : List UInt8) (n : Nat) (C : List AVal) (z : Int) (h : Nat → UInt64) (i : Nat) : SA := ⟨TC9 l n z i, HC9 C h, 137⟩
def SD9 (l : List UInt8) (n : Nat) (C : List AVal) (z : Int) (h : Nat → UInt64) (m k : Nat) (D : List AVal) (i : Nat) : SA := ⟨TD9 l n z m (.slice 184 0 k 1) i, HC9 C h ++ [(184, .cells false D)], 185⟩
def SD90 (l : List UInt8) (n : Nat) (C : List AVal) (z : Int) (h : Nat → UInt64) (m : Nat) : SA := ⟨TD9 l n z m .nilSlice 0, HC9 C h, 185⟩
theorem p9_2 : p9[2]? = some (.block 0 (.loop (b9 2))) := by kernel_rfl
theorem p9_4 : p9[4]? = some (.block 2 (.loop (b9 4))) := by kernel_rfl
theorem p9_7 : p9[7]? = some (.block 4 (.loop (b9 7))) := by kernel_rfl
theorem p9_10 : p9[10]? = some (.block 6 (.loop (b9 10))) := by kernel_rfl
def eff9 (P : PieceF) (h : Nat → UInt64) (i : Nat) : EffA := oneE 33 fun _ c => cond (shAllB c && Nat.ble (i + 128) c.length) (some (.agg (cellsU 8 (P (gU (cellsU 8 h)) fun k => gB c (i + k))), c)) none
section
variable (P : PieceF) (η h h1 : Nat → UInt64) (l c c0 d : List UInt8) (n n0 m i j p F : Nat) (y : UInt64) (z z0 z1 : Int)
theorem s9a : segO (evSO Tryd.prog noPS (n9 P η) [13] Tryd.f9.ntmps (mask 9) F 1 ((p9.drop 0).take 2) (⟨startT [.str l] 0, [], 1⟩) ⟨[], [], []⟩) = some (SA9 l (l.length + 1) (apC l 128), [apOb l]) := by kernel_rfl
theorem r9A : roundO3 [33,97,105] Tryd.prog noPS (n9 P η) [17,20] [true] [] Tryd.f9.ntmps (mask 9) F 1 (b9 2) (SA9 l n0 (c0.map .u8)) (SA9 l c.length (c.map .u8)) = some (SA9 l (c.length + 1) (apC c 0), [ltL 0 (apC c 0), apOb c, (Int.tmod (c.length : Int) 128) != 112]) := by kernel_rfl
theorem x9A : evSO Tryd.prog noPS (n9 P η) [17] Tryd.f9.ntmps (mask 9) F 1 [b9 2] (SA9 l c.length (c.map .u8)) ⟨[false], [], []⟩ = some (.exit 0, ⟨TA9 l c.length ++ [(17, .bool false)], HA9 (c.map .u8), 81⟩, ⟨[], [], [!((Int.tmod (c.length : Int) 128) != 112)]⟩) := by kernel_rfl
theorem s9b : segO (evSO Tryd.prog noPS (n9 P η) [] Tryd.f9.ntmps (mask 9) F 1 ((p9.drop 3).take 1) (⟨TA9 l n ++ [(17, .bool false)], HA9 (c.map .u8), 81⟩) ⟨[], [], []⟩) = some (SB9 l n (c.map .u8) 15, []) := by kernel_rfl
theorem r9B1 : roundO3 [33,153,161,225,233] Tryd.prog noPS (n9 P η) [22,26,200034,39,200024] [true, true] [.u64 y, .int .i64 z1] Tryd.f9.ntmps (mask 9) F 1 (b9 4) (SB9 l n0 (c0.map .u8) z0) (SB9 l c.length (c.map .u8) z) = some (SB9 l (c.length + 1) (apC c y.toUInt8) z1, [true, ltL 0 (apC c y.toUInt8), eqS (.int .i64 (IntKind.wrap .i64 (z - 1))) (.int .i64 z1), apOb c, eqS (.u64 (shr_u64 (8 * UInt64.ofInt (l.length : Int)) (UInt64.ofInt (IntKind.wrap .i64 (8 * z))).toNat)) (.u64 y), decide (z < 8), decide (0 ≤ z)]) := by kernel_rfl
theorem r9B2 : roundO3 [33,153,161,225,233] Tryd.prog noPS (n9 P η) [22,26,39,200024] [true, false] [.int .i64 z1] Tryd.f9.ntmps (mask 9) F 1 (b9 4) (SB9 l n0 (c0.map .u8) z0) (SB9 l c.length (c.map .u8) z) = some (SB9 l (c.length + 1) (apC c 0) z1, [true, ltL 0 (apC c 0), eqS (.int .i64 (IntKind.wrap .i64 (z - 1))) (.int .i64 z1), apOb c, !(decide (z < 8)), decide (0 ≤ z)]) := by kernel_rfl
theorem x9B : evSO Tryd.prog noPS (n9 P η) [22] Tryd.f9.ntmps (mask 9) F 1 [b9 4] (SB9 l c.length (c.map .u8) z) ⟨[false], [], []⟩ = some (.exit 2, ⟨TB9 l c.length z ++ [(22, .bool false)], HA9 (c.map .u8), 105⟩, ⟨[], [], [!(decide (0 ≤ z))]⟩) := by kernel_rfl
theorem s9c : segO (evSO Tryd.prog noPS (n9 P η) [] Tryd.f9.ntmps (mask 9) F 1 ((p9.drop 5).take 2) (⟨TB9 l n z ++ [(22, .bool false)], HA9 (c.map .u8), 105⟩) ⟨[], [], []⟩) = some (SC9 l n (c.map .u8) z η 0, []) := by kernel_rfl
theorem r9C : roundO3 [33] Tryd.prog noPS (n9 P η) [44,52,200052,300053,200046] [true] [.slice 33 i 128 1, .agg (cellsU 8 h1), .tup [.ptr 33 0, .agg (c.map .u8)], .int .i64 ((j : Nat) : Int)] Tryd.f9.ntmps (mask 9) F 1 (b9 7) (SC9 l c.length (c.map .u8) z η 0) (SC9 l c.length (c.map .u8) z h i) = some (SC9 l c.length (c.map .u8) z h1 j, [eqS (.int .i64 (IntKind.wrap .i64 ((i : Int) + 128))) (.int .i64 (j : Int)), decP ((eff9 P h i).app 217 (HC9 (c.map .u8) h) = some (.agg (cellsU 8 h1), HC9 (c.map .u8) h)), eqS (.slice 33 (0 + (i : Int).toNat * 1) ((IntKind.wrap .i64 ((i : Int) + 128)).toNat - (i : Int).toNat) 1) (.slice 33 i 128 1), decide (0 ≤ (i : Int)) && (decide ((i : Int) ≤ IntKind.wrap .i64 ((i : Int) + 128)) && decide (IntKind.wrap .i64 ((i : Int) + 128) ≤ (c.length : Int))), decide ((i : Int) < (c.length : Int))]) := by kernel_rfl
theorem x9C : evSO Tryd.prog noPS (n9 P η) [44] Tryd.f9.ntmps (mask 9) F 1 [b9 7] (SC9 l c.length (c.map .u8) z h i) ⟨[false], [], []⟩ = some (.exit 4, ⟨TC9 l c.length z i ++ [(44, .bool false)], HC9 (c.map .u8) h, 169⟩, ⟨[], [], [!(decide ((i : Int) < (c.length : Int)))]⟩) := by kernel_rfl
theorem s9d : segO (evSO Tryd.prog noPS (n9 P η) [] Tryd.f9.ntmps (mask 9) F 1 ((p9.drop 8).take 2) (⟨TC9 l n z i ++ [(44, .bool false)], HC9 (c.map .u8) h, 169⟩) ⟨[], [], []⟩) = some (SD90 l n (c.map .u8) z h i, []) := by kernel_rfl
theorem r9D0 : roundO3 [33,184,185,193,201,209,217,225,233,241,249,257,265,273,281,289,297,305,313,321,329,337,345,353,361,369,377,385,393,401,409,417] Tryd.prog noPS (n9 P η) [55,200060,61,62,200067,71,200057] [true, false] [.int .i64 (p : Int), .u64 (h p), .u64 y, .int .i64 (j : Int)] Tryd.f9.ntmps (mask 9) F 1 (b9 10) (SD90 l n (c.map .u8) z h m) (SD90 l n (c.map .u8) z h m) = some (SD9 l n (c.map .u8) z h m 1 [.u8 (shr_u64 (h p) y.toNat).toUInt8] j, [ltL 0 (c.map .u8), true, true, eqS (.int .i64 (IntKind.wrap .i64 ((((0 : Nat) : Int) : Int) + 1))) (.int .i64 (j : Int)), true, eqS (.u64 (UInt64.ofInt (IntKind.wrap .i64 (56 - IntKind.wrap .i64 (8 * Int.tmod ((0 : Nat) : Int) 8))))) (.u64 y), isAt (cellsU 8 h) (0 + (p : Int).toNat * 1) (.u64 (h p)), decide (0 ≤ (p : Int)) && decide ((p : Int) < 8), eqS (.int .i64 (IntKind.wrap .i64 (Int.tdiv ((0 : Nat) : Int) 8))) (.int .i64 (p : Int)), true]) := by kernel_rfl
theorem r9D : roundO3 [33,184,185,193,201,209,217,225,233,241,249,257,265,273,281,289,297,305,313,321,329,337,345,353,361,369,377,385,393,401,409,417] Tryd.prog noPS (n9 P η) [55,200060,61,62,200067,71,200057] [true] [.int .i64 (p : Int), .u64 (h p), .u64 y, .int .i64 (j : Int)] Tryd.f9.ntmps (mask 9) F 1 (b9 10) (SD90 l n (c.map .u8) z h m) (SD9 l n (c.map .u8) z h m d.length (d.map .u8) i) = some (SD9 l n (c.map .u8) z h m (d.length + 1) (apC d (shr_u64 (h p) y.toNat).toUInt8) j, [ltL 0 (c.map .u8), true, ltL 0 (apC d (shr_u64 (h p) y.toNat).toUInt8), eqS (.int .i64 (IntKind.wrap .i64 ((i : Int) + 1))) (.int .i64 (j : Int)), apOb d, eqS (.u64 (UInt64.ofInt (IntKind.wrap .i64 (56 - IntKind.wrap .i64 (8 * Int.tmod (i : Int) 8))))) (.u64 y), isAt (cellsU 8 h) (0 + (p : Int).toNat * 1) (.u64 (h p)), decide (0 ≤ (p : Int)) && decide ((p : Int) < 8), eqS (.int .i64 (IntKind.wrap .i64 (Int.tdiv (i : Int) 8))) (.int .i64 (p : Int)), decide ((i : Int) < 64)]) := by kernel_rfl
theorem x9D : evSO Tryd.prog noPS (n9 P η) [55] Tryd.f9.ntmps (mask 9) F 1 [b9 10] (SD9 l n (c.map .u8) z h m d.length (d.map .u8) i) ⟨[false], [], []⟩ = some (.exit 6, ⟨TD9 l n z m (.slice 184 0 d.length 1) i ++ [(55, .bool false)], HC9 (c.map .u8) h ++ [(184, .cells false (d.map .u8))], 201⟩, ⟨[], [], [!(decide ((i : Int) < 64))]⟩) := by kernel_rfl
theorem z9 : evSO Tryd.prog noPS (n9 P η) [73] Tryd.f9.ntmps (mask 9) F 1 (p9.drop 11) ⟨TD9 l n z m (.slice 184 0 d.length 1) i ++ [(55, .bool false)], HC9 (c.map .u8) h ++ [(184, .cells false (d.map .u8))], 201⟩ ⟨[], [.str d], []⟩ = some (.ret, ⟨(0, .str l) :: (2, .str d) :: List.drop 2 (TD9 l n z m (.slice 184 0 d.length 1) i ++ [(55, AVal.bool false)]), HC9 (c.map .u8) h ++ [(184, .cells false (d.map .u8))], 225⟩, ⟨[], [], [strAt (d.map .u8) 0 d.length d]⟩) := by kernel_rfl
end
end Go.Proofs.YtaepfopmicnnbaaDoor

/- The document's digest: what it makes. -/
namespace Go.Proofs.YtaepfopmicnnbaaDoor
set_option linter.unusedVariables false
set_option linter.unusedSimpArgs false
open Go Go.Eng
set_option maxRecDepth 1000000
set_option linter.unusedSimpArgs false
set_option linter.unusedVariables false
/-- A text with more behind it. -/
def exL (c : List UInt8) (f : Nat → UInt8) (i : Nat) : List UInt8 := c ++ (List.range i).map f
theorem exL_succ (c : List UInt8) (f : Nat → UInt8) (i : Nat) : exL c f (i + 1) = exL c f i ++ [f i] := by
  unfold exL
  rw [List.range_succ, List.map_append, List.append_assoc]; rfl
theorem exL_len (c : List UInt8) (f : Nat → UInt8) (i : Nat) : (exL c f i).length = c.length + i := by simp [exL]
theorem exL_zero (c : List UInt8) (f : Nat → UInt8) : exL c f 0 = c := by simp [exL]
def padN (n : Nat) : Nat := (239 - n % 128) % 128
def tailB (x : UInt64) (i : Nat) : UInt8 := if i < 8 then 0 else lenB x (i - 8)
def padL (l : List UInt8) : List UInt8 := exL (exL (l ++ [128]) (fun _ => 0) (padN l.length)) (tailB (UInt64.ofNat l.length)) 16
def foldD (P : PieceF) (η : Nat → UInt64) (c : List UInt8) : Nat → Nat → UInt64
  | 0 => η
  | k + 1 => P (nU 8 (foldD P η c k)) fun j => gB (c.map .u8) (128 * k + j)
def docF (P : PieceF) (η : Nat → UInt64) (l : List UInt8) : List UInt8 := (List.range 64).map (outB (foldD P η (padL l) ((padL l).length / 128)))
theorem end9 {P : PieceF} {η : Nat → UInt64} {sy : List Nat} {F : Nat} {b : Code} {s s' : SA} {id : Nat} {c : Bool} (h : evSO Tryd.prog noPS (n9 P η) sy Tryd.f9.ntmps (mask 9) F 1 [b] s ⟨[false], [], []⟩ = some (.exit id, s', ⟨[], [], [!c]⟩)) (hc : c = false) : evC Tryd.prog (n9 P η) Tryd.f9.ntmps (mask 9) F 1 b s = some (.exit id, s') := by
  have := (evSO_ok (noPS_ok _) _ _ _ _ _ _ h (by rw [hc]; rfl)).1
  rwa [evS_one] at this
theorem okA9 (l c : List UInt8) (n : Nat) : okS Tryd.prog (SA9 l n (c.map .u8)) = true := by
  have h : okS Tryd.prog (SA9 l n []) = true := by kernel_rfl
  unfold okS SA9 HA9 at h ⊢
  simp only [ltH, ltLm, ltL] at h ⊢
  exact h
theorem okB9 (l c : List UInt8) (n : Nat) (z : Int) : okS Tryd.prog (SB9 l n (c.map .u8) z) = true := by
  have h : okS Tryd.prog (SB9 l n [] z) = true := by kernel_rfl
  unfold okS SB9 HA9 at h ⊢
  simp only [ltH, ltLm, ltL] at h ⊢
  exact h
theorem okC9 (l c : List UInt8) (n : Nat) (z : Int) (h : Nat → UInt64) (i : Nat) : okS Tryd.prog (SC9 l n (c.map .u8) z h i) = true := by
  have h : okS Tryd.prog (SC9 l n [] z h i) = true := by kernel_rfl
  unfold okS SC9 HC9 HA9 at h ⊢
  simp only [List.cons_append, List.nil_append, ltH, ltLm, ltL] at h ⊢
  exact h
theorem okD9 (l c d : List UInt8) (n : Nat) (z : Int) (h : Nat → UInt64) (m k i : Nat) : okS Tryd.prog (SD9 l n (c.map .u8) z h m k (d.map .u8) i) = true := by
  have h : okS Tryd.prog (SD9 l n [] z h m k [] i) = true := by kernel_rfl
  unfold okS SD9 HC9 HA9 at h ⊢
  simp only [List.cons_append, List.nil_append, ltH, ltLm, ltL] at h ⊢
  exact h
theorem padN_lt (n : Nat) : padN n < 128 := Nat.mod_lt _ (by decide)
theorem padL_len (l : List UInt8) : (padL l).length = l.length + 17 + padN l.length := by
  unfold padL
  rw [exL_len, exL_len, List.length_append, List.length_singleton]; omega
theorem padL_mod (l : List UInt8) : (padL l).length % 128 = 0 := by
  rw [padL_len]; unfold padN; omega
theorem condA9 {n m i : Nat} (hm : m = n + 1 + i) (hi : i ≤ padN n) : ((Int.tmod (m : Int) 128) != 112) = decide (i < padN n) := by
  have e : Int.tmod (m : Int) 128 = ((m % 128 : Nat) : Int) := rfl
  rw [e]
  subst hm
  unfold padN at hi ⊢
  by_cases h : i < (239 - n % 128) % 128
  · rw [decide_eq_true h]
    simp only [bne_iff_ne, ne_eq]
    omega
  · rw [decide_eq_false h]
    simp only [bne_eq_false_iff_eq]
    omega
theorem min1 {i : Nat} (h : i < 1000) : eqS (.int .i64 (IntKind.wrap .i64 (15 - (i : Int) - 1))) (.int .i64 (15 - ((i + 1 : Nat) : Int))) = true := eqS_i64 (by rw [wrapI _ (by omega) (by omega)]; omega)
theorem ofInt_nat (n : Nat) : UInt64.ofInt (n : Int) = UInt64.ofNat n := by
  unfold UInt64.ofInt
  apply UInt64.toNat_inj.1
  rw [UInt64.toNat_ofNat', UInt64.toNat_ofNat']
  omega
theorem shB9 : ∀ i : Nat, i < 16 → 8 ≤ i → UInt64.ofInt (IntKind.wrap .i64 (8 * (15 - (i : Int)))) = UInt64.ofNat (56 - 8 * (i - 8)) := by decide
theorem gB_map (c : List UInt8) (i : Nat) : gB (c.map .u8) i = c.getD i 0 := by
  unfold gB
  rw [List.getElem?_map, List.getD_eq_getElem?_getD]
  cases c[i]? <;> rfl
theorem shAllB_map (c : List UInt8) : shAllB (c.map AVal.u8) = true := by
  have : ∀ (l : List UInt8), shB (l.map AVal.u8).length (l.map AVal.u8) = some [] := by
    intro l
    induction l with
    | nil => rfl
    | cons x l ih => simp only [List.map_cons, List.length_cons, shB]; exact ih
  unfold shAllB
  rw [this]
theorem ev9 (P : PieceF) (η : Nat → UInt64) (l : List UInt8) (hl : l.length ≤ 100000000) : ∃ T' H' fr', evS Tryd.prog (n9 P η) Tryd.f9.ntmps (mask 9) (l.length + 300) 1 p9 ⟨startT [.str l] 0, [], 1⟩ =
    some (.ret, ⟨(0, .str l) :: (2, .str (docF P η l)) :: T', H', fr'⟩) := by
  obtain ⟨F, hF⟩ : ∃ F, F = l.length + 300 := ⟨_, rfl⟩
  rw [← hF]
  obtain ⟨c0, hc0⟩ : ∃ c0, c0 = l ++ [128] := ⟨_, rfl⟩
  have lc0 : c0.length = l.length + 1 := by rw [hc0]; simp
  obtain ⟨N, hN⟩ : ∃ N, N = padN l.length := ⟨_, rfl⟩
  have hN128 : N < 128 := by rw [hN]; exact padN_lt _
  have lA : ∀ i, (exL c0 (fun _ => 0) i).length = l.length + 1 + i := fun i => by rw [exL_len, lc0]
  -- the bytes, and the mark
  have a1 := segO_ok (noPS_ok _) (s9a P η l F) (by simp only [allT, apOb_ok (show l.length < 1000000000 by omega), cond_true])
  rw [List.drop_zero, apC_eq, ← hc0, ← lc0] at a1
  -- the zeros
  have lpA := evS_loop (P := Tryd.prog) (cs := n9 P η) (nt := Tryd.f9.ntmps) (nn := mask 9) (F := F) (bs := 1) p9_2 (fun i => SA9 l (exL c0 (fun _ => 0) i).length ((exL c0 (fun _ => 0) i).map .u8)) N (fun i hi => by
    have r := r9A P η l (exL c0 (fun _ => 0) i) (exL c0 (fun _ => 0) 0) (exL c0 (fun _ => 0) 0).length F
    have e1 : (exL c0 (fun _ => 0) i).length + 1 = (exL c0 (fun _ => 0) (i + 1)).length := by rw [lA, lA]; omega
    rw [apC_eq, ← exL_succ c0 (fun _ => (0 : UInt8)) i, e1] at r
    refine roundO3_ok (noPS_ok _) r ?_ (okA9 ..)
    have hc := condA9 (lA i) (by omega : i ≤ padN l.length)
    rw [decide_eq_true (by omega : i < padN l.length)] at hc
    simp only [allT, ltLm, apOb_ok (show (exL c0 (fun _ => 0) i).length < 1000000000 by rw [lA]; omega), hc, cond_true])
    (end9 (x9A P η l (exL c0 (fun _ => 0) N) F) (by rw [condA9 (lA N) (by omega)]; exact decide_eq_false (by omega))) (by omega)
  simp only [exL_zero] at lpA
  obtain ⟨c1, hc1⟩ : ∃ c1, c1 = exL c0 (fun _ => 0) N := ⟨_, rfl⟩
  rw [← hc1] at lpA
  have lc1 : c1.length = l.length + 1 + N := by rw [hc1, lA]
  have a2 := segO_ok (noPS_ok _) (s9b P η l c1 c1.length F) rfl
  -- the length
  obtain ⟨t, ht⟩ : ∃ t, t = tailB (UInt64.ofNat l.length) := ⟨_, rfl⟩
  have lB : ∀ i, (exL c1 t i).length = l.length + 1 + N + i := fun i => by rw [exL_len, lc1]
  have lpB := evS_loop (P := Tryd.prog) (cs := n9 P η) (nt := Tryd.f9.ntmps) (nn := mask 9) (F := F) (bs := 1) p9_4 (fun i => SB9 l (exL c1 t i).length ((exL c1 t i).map .u8) (15 - (i : Int))) 16 (fun i hi => by
    have e1 : (exL c1 t i).length + 1 = (exL c1 t (i + 1)).length := by rw [lB, lB]; omega
    have hob := apOb_ok (show (exL c1 t i).length < 1000000000 by rw [lB]; omega)
    have g0 : decide (0 ≤ (15 - (i : Int))) = true := decide_eq_true (by omega)
    by_cases h8 : i < 8
    · have r := r9B2 P η l (exL c1 t i) (exL c1 t 0) (exL c1 t 0).length F (15 - (i : Int)) (15 - ((0 : Nat) : Int)) (15 - ((i + 1 : Nat) : Int))
      have ex : t i = 0 := by rw [ht]; unfold tailB; rw [if_pos h8]
      rw [apC_eq, ← ex, ← exL_succ c1 t i, e1] at r
      refine roundO3_ok (noPS_ok _) r ?_ (okB9 ..)
      have g8 : decide (15 - (i : Int) < 8) = false := decide_eq_false (by omega)
      simp only [allT, ltLm, min1 (show i < 1000 by omega), hob, g8, g0, Bool.not_false, cond_true]
    · have r := r9B1 P η l (exL c1 t i) (exL c1 t 0) (exL c1 t 0).length F (shr_u64 (8 * UInt64.ofInt (l.length : Int)) (UInt64.ofInt (IntKind.wrap .i64 (8 * (15 - (i : Int))))).toNat) (15 - (i : Int)) (15 - ((0 : Nat) : Int)) (15 - ((i + 1 : Nat) : Int))
      have ex : (shr_u64 (8 * UInt64.ofInt (l.length : Int)) (UInt64.ofInt (IntKind.wrap .i64 (8 * (15 - (i : Int))))).toNat).toUInt8 = t i := by
        rw [ht]; unfold tailB; rw [if_neg h8, ofInt_nat, shB9 i hi (by omega)]; rfl
      rw [apC_eq, ex, ← exL_succ c1 t i, e1] at r
      refine roundO3_ok (noPS_ok _) r ?_ (okB9 ..)
      have g8 : decide (15 - (i : Int) < 8) = true := decide_eq_true (by omega)
      simp only [allT, ltLm, min1 (show i < 1000 by omega), hob, g8, g0, eqS_u64, cond_true])
    (end9 (x9B P η l (exL c1 t 16) F (15 - ((16 : Nat) : Int))) (by decide)) (by omega)
  simp only [exL_zero] at lpB
  obtain ⟨c, hc⟩ : ∃ c, c = exL c1 t 16 := ⟨_, rfl⟩
  rw [← hc] at lpB
  have hpad : c = padL l := by rw [hc, hc1, hc0, ht, hN]; rfl
  have hmod : c.length % 128 = 0 := by rw [hpad]; exact padL_mod l
  have hlen : c.length = l.length + 17 + N := by rw [hpad, padL_len, hN]
  obtain ⟨z, hz⟩ : ∃ z : Int, z = 15 - ((16 : Nat) : Int) := ⟨_, rfl⟩
  rw [← hz] at lpB
  have a3 := segO_ok (noPS_ok _) (s9c P η l c c.length F z) rfl
  -- the pieces
  obtain ⟨K, hK⟩ : ∃ K, K = c.length / 128 := ⟨_, rfl⟩
  have lpC := evS_loop (P := Tryd.prog) (cs := n9 P η) (nt := Tryd.f9.ntmps) (nn := mask 9) (F := F) (bs := 1) p9_7 (fun k => SC9 l c.length (c.map .u8) z (foldD P η c k) (128 * k)) K (fun k hk => by
    have r := r9C P η (foldD P η c k) (foldD P η c (k + 1)) l c (128 * k) (128 * (k + 1)) F z
    refine roundO3_ok (noPS_ok _) r ?_ (okC9 ..)
    have hb : 128 * k + 128 ≤ c.length := by omega
    have w1 : IntKind.wrap .i64 (((128 * k : Nat) : Int) + 128) = ((128 * k + 128 : Nat) : Int) := by rw [wrapI _ (by omega) (by omega)]; omega
    have o1 : eqS (.int .i64 (IntKind.wrap .i64 (((128 * k : Nat) : Int) + 128))) (.int .i64 ((128 * (k + 1) : Nat) : Int)) = true := eqS_i64 (by rw [w1]; omega)
    have o2 : decP ((eff9 P (foldD P η c k) (128 * k)).app 217 (HC9 (c.map .u8) (foldD P η c k)) = some (.agg (cellsU 8 (foldD P η c (k + 1))), HC9 (c.map .u8) (foldD P η c k))) = true := by
      apply decP_of
      have g1 : (shAllB (c.map AVal.u8) && Nat.ble (128 * k + 128) (c.map AVal.u8).length) = true := by
        rw [shAllB_map, List.length_map, Bool.true_and]; exact Nat.ble_eq_true_of_le hb
      have g2 : aget (HC9 (c.map .u8) (foldD P η c k)) 33 = some (.cells false (c.map .u8)) := rfl
      unfold eff9 oneE EffA.app
      simp only [g2, g1, cond_true]
      rw [gU_cellsU]
      rfl
    have o3 : eqS (.slice 33 (0 + ((128 * k : Nat) : Int).toNat * 1) ((IntKind.wrap .i64 (((128 * k : Nat) : Int) + 128)).toNat - ((128 * k : Nat) : Int).toNat) 1) (.slice 33 (128 * k) 128 1) = true := by
      rw [w1, Int.toNat_natCast, Int.toNat_natCast]
      have e1 : 0 + 128 * k * 1 = 128 * k := by omega
      have e2 : 128 * k + 128 - 128 * k = 128 := by omega
      rw [e1, e2]
      simp [eqS]
    have o4 : (decide (0 ≤ ((128 * k : Nat) : Int)) && (decide (((128 * k : Nat) : Int) ≤ IntKind.wrap .i64 (((128 * k : Nat) : Int) + 128)) && decide (IntKind.wrap .i64 (((128 * k : Nat) : Int) + 128) ≤ (c.length : Int)))) = true := by
      rw [w1]
      simp only [Bool.and_eq_true, decide_eq_true_eq]
      omega
    have o5 : decide (((128 * k : Nat) : Int) < (c.length : Int)) = true := decide_eq_true (by omega)
    simp only [allT, o1, o2, o3, o4, o5, cond_true])
    (end9 (x9C P η (foldD P η c K) l c (128 * K) F z) (decide_eq_false (by omega))) (by omega)
  have a4 := segO_ok (noPS_ok _) (s9d P η (foldD P η c K) l c c.length (128 * K) F z) rfl
  -- the digest's bytes
  obtain ⟨h, hh⟩ : ∃ h, h = foldD P η c K := ⟨_, rfl⟩
  rw [← hh] at lpC a4
  have lD : ∀ i, (exL [] (outB h) i).length = i := fun i => by rw [exL_len]; simp
  have lpD := evS_loop (P := Tryd.prog) (cs := n9 P η) (nt := Tryd.f9.ntmps) (nn := mask 9) (F := F) (bs := 1) p9_10 (fun i => match i with
      | 0 => SD90 l c.length (c.map .u8) z h (128 * K)
      | k + 1 => SD9 l c.length (c.map .u8) z h (128 * K) (exL [] (outB h) (k + 1)).length ((exL [] (outB h) (k + 1)).map .u8) (k + 1)) 64 (fun i hi => by
    cases i with
    | zero =>
      have r := r9D0 P η h l c c.length (128 * K) 1 0 F (UInt64.ofNat (56 - 0 % 8 * 8)) z
      refine roundO3_ok (noPS_ok _) r ?_ (okD9 (d := exL [] (outB h) 1) ..)
      simp only [allT, ltLm, cond_true]
      have q1 : isAt (cellsU 8 h) (0 + ((0 : Nat) : Int).toNat * 1) (.u64 (h 0)) = true := isAt_cellsU h (by omega)
      rw [q1]
      decide
    | succ k =>
      have hp : (k + 1) / 8 < 8 := by omega
      have r := r9D P η h l c (exL [] (outB h) (k + 1)) c.length (128 * K) (k + 1) (k + 1 + 1) ((k + 1) / 8) F (UInt64.ofNat (56 - (k + 1) % 8 * 8)) z
      have e1 : (exL [] (outB h) (k + 1)).length + 1 = (exL [] (outB h) (k + 1 + 1)).length := by rw [lD, lD]
      have ex : (shr_u64 (h ((k + 1) / 8)) (UInt64.ofNat (56 - (k + 1) % 8 * 8)).toNat).toUInt8 = outB h (k + 1) := rfl
      rw [apC_eq, ex, ← exL_succ [] (outB h) (k + 1), e1] at r
      refine roundO3_ok (noPS_ok _) r ?_ (okD9 ..)
      have s1 : eqS (.u64 (UInt64.ofInt (IntKind.wrap .i64 (56 - IntKind.wrap .i64 (8 * Int.tmod ((k + 1 : Nat) : Int) 8))))) (.u64 (UInt64.ofNat (56 - (k + 1) % 8 * 8))) = true := by
        have := sh64 (k + 1) hi
        rwa [show Int.tmod ((k + 1 : Nat) : Int) 8 * 8 = 8 * Int.tmod ((k + 1 : Nat) : Int) 8 by omega] at this
      simp only [allT, ltLm, plus1 (show k + 1 < 1000 by omega), apOb_ok (show (exL [] (outB h) (k + 1)).length < 1000000000 by rw [lD]; omega), s1, isAt_cellsU h hp, in_rng (k := 8) hp, quo8 (show k + 1 < 1000 by omega), lt_i (k := 64) hi, cond_true])
    (end9 (x9D P η h l c (exL [] (outB h) 64) c.length (128 * K) 64 F z) (by decide)) (by omega)
  have zz := evSO_ok (noPS_ok _) _ _ _ _ _ _ (z9 P η h l c (exL [] (outB h) 64) c.length (128 * K) 64 F z) (by
    have : strAt ((exL [] (outB h) 64).map .u8) 0 (exL [] (outB h) 64).length (exL [] (outB h) 64) = true := by
      unfold strAt
      rw [List.length_map, List.drop_zero, List.take_of_length_le (by rw [List.length_map]; exact Nat.le_refl _)]
      have hb : ∀ l : List UInt8, bytesA (l.map AVal.u8) = some l := fun l => by
        induction l with
        | nil => rfl
        | cons x l ih => simp only [List.map_cons, bytesA, ih]
      rw [hb]
      simp
    simp only [allT, this, cond_true])
  have hd : exL [] (outB h) 64 = docF P η l := by
    unfold docF
    rw [← hpad, ← hK, ← hh]; rfl
  rw [hd] at zz lpD
  exact ⟨_, _, _, a1.trans (lpA.trans (a2.trans (lpB.trans (a3.trans (lpC.trans (a4.trans (lpD.trans zz.1)))))))⟩
end Go.Proofs.YtaepfopmicnnbaaDoor

/- All functions that the statements call, by summaries. -/
namespace Go.Proofs.YtaepfopmicnnbaaDoor
set_option linter.unusedVariables false
set_option linter.unusedSimpArgs false
open Go Go.Eng
set_option maxRecDepth 1000000
set_option linter.unusedSimpArgs false
set_option linter.unusedVariables false
theorem f9_at : Tryd.prog.funcs[9]? = some Tryd.f9 := by kernel_rfl
theorem f9_body : Tryd.f9.body = some (bodyOf Tryd.f9) := by kernel_rfl
theorem n16_ok : CSOk Tryd.prog (n16 φr kF) := csAlt_ok (fun f args e h => nr_ok f args e (by
  unfold nr csAlt
  have h2 : csOne 19 (k19 φr) f args = some e := h
  unfold csOne at h2 ⊢
  cases h3 : Nat.beq f 23 with
  | true =>
    have := Nat.eq_of_beq_eq_true h3
    subst this
    cases h2
  | false => exact h2)) callOk10
theorem n9_ok : CSOk Tryd.prog (n9 (pieceD φr kF) hF) := csAlt_ok callOk11 (callOk16 n16_ok)
def docR : List UInt8 → List UInt8 := docF (pieceD φr kF) hF
def ωr : Fw := wOf φr docR
theorem callOk9 : CSOk Tryd.prog (csP (psOne 9 (w9 ωr))) := by
  refine psOne_ok fun args e h => ?_
  unfold w9 at h
  split at h
  · rename_i l
    simp only [Option.some.injEq, Prod.mk.injEq] at h
    obtain ⟨rfl, hc⟩ := h
    have hl := Nat.le_of_ble_eq_true hc
    obtain ⟨T', H', fr', he⟩ := ev9 (pieceD φr kF) hF l hl
    have e1 : Tryd.prog.globals.size = 1 := gl
    have r : run1 Tryd.prog (n9 (pieceD φr kF) hF) (mask 9) (l.length + 300) 9 [.str l] [] Tryd.prog.globals.size = some (.str (docR l), H', fr') := by
      rw [e1]
      exact run1_fin1 f9_at f9_body (by kernel_rfl) he (.inr rfl) rfl
    exact callOk_run n9_ok hmix r rfl rfl
  · cases h
theorem nWr_ok : CSOk Tryd.prog (nW ωr) := nW_ok nr_ok callOk9
end Go.Proofs.YtaepfopmicnnbaaDoor

/- The two digests that are known; the statements' runs. -/
namespace Go.Proofs.YtaepfopmicnnbaaDoor
set_option linter.unusedVariables false
set_option linter.unusedSimpArgs false
open Go Go.Eng
set_option maxRecDepth 1000000
set_option linter.unusedSimpArgs false
set_option linter.unusedVariables false
/-- The tests of the two digests that are known. -/
def alOb (ω : Fw) (g : Nat → UInt64) : List Bool :=
  [ω.sum g (hst (stC (ω.add g (hst (stC (ω.add g (hst (stC ω.new)) [97, 98]))) [99]))) == ω.of g [97, 98, 99], true, true, true, true,
   (ω.of g [97, 98, 99]).take 4 == [221, 175, 53, 161], decide ((0 : Int) ≤ 0) && (decide ((0 : Int) ≤ 4) && decide ((4 : Int) ≤ ((ω.of g [97, 98, 99]).length : Int))), ((ω.of g [97, 98, 99]).length : Int) == 64,
   (ω.of g []).take 4 == [207, 131, 225, 53], decide ((0 : Int) ≤ 0) && (decide ((0 : Int) ≤ 4) && decide ((4 : Int) ≤ ((ω.of g []).length : Int))), ((ω.of g []).length : Int) == 64, true, true]
theorem run7 (ω : Fw) (g : Nat → UInt64) : ansO (run1O Tryd.prog (psW ω) (nW ω) [4,5,9,12,13,18,22,23,27,28,32,33,39] [true,true,true,true,true,true,true] [] (mask 7) 100 7 [] [(0, .cells true (cellsU 80 g))] 1) = some (.bool true, alOb ω (gU (cellsU 80 g))) := by kernel_rfl
def V7 (ω : Fw) (g : Nat → UInt64) : Option AVal := cond (allT (alOb ω g)) (some (.bool true)) none
def w7 (ω : Fw) : List AVal → Option EffA
  | [] => some (tabE (tabK (V7 ω)))
  | _ => none
theorem callOk7 {ω : Fw} (hcs : CSOk Tryd.prog (nW ω)) : CSOk Tryd.prog (csOne 7 (w7 ω)) := by
  refine csOne_ok fun args e h => ?_
  unfold w7 at h
  split at h
  · cases h
    refine callOk_tabK hcs rfl fun g x hg hx => ?_
    unfold V7 at hx
    cases ha : allT (alOb ω g) <;> rw [ha] at hx <;> simp only [cond_true, cond_false] at hx
    · cases hx
    · cases hx
      have e := run7 ω g
      rw [gUg hg] at e
      obtain ⟨H', fr', hr⟩ := run_of (ansO_run (nW_ps ω) e ha)
      exact ⟨rfl, _, _, H', fr', hr⟩
  · cases h
def nL (ω : Fw) : CS := csAlt (csP (psW ω)) (csAlt (csOne 7 (w7 ω)) (csW ω))
theorem nL_ps (ω : Fw) : PSOk (psW ω) (nL ω) := csP_ok
end Go.Proofs.YtaepfopmicnnbaaDoor

/- The program's digest is the document's: bytes pushed one by one, and piece by piece. -/
namespace Go.Proofs.YtaepfopmicnnbaaDoor
set_option linter.unusedVariables false
set_option linter.unusedSimpArgs false
open Go Go.Eng
set_option maxRecDepth 1000000
set_option linter.unusedSimpArgs false
set_option linter.unusedVariables false
/-! ### turning -/
theorem rot_eq (x : UInt64) (n : Int) (k : UInt64) (hk : (UInt64.ofInt (IntKind.wrap .i64 (0 - n)) &&& 63).toNat = (64 - k).toNat) (hk2 : (64 - (UInt64.ofInt (IntKind.wrap .i64 (0 - n)) &&& 63)).toNat = k.toNat) : φr.rot x n = φr.rotd x k := by
  show shl_u64 x _ ||| shr_u64 x _ = shr_u64 x _ ||| shl_u64 x _
  rw [hk, hk2, UInt64.or_comm]
theorem sched_eq (w0 w1 w9 w14 : UInt64) : sched φr w0 w1 w9 w14 = schedD φr w0 w1 w9 w14 := by
  unfold sched schedD
  rw [rot_eq w1 1 1 (by decide) (by decide), rot_eq w1 8 8 (by decide) (by decide), rot_eq w14 19 19 (by decide) (by decide), rot_eq w14 61 61 (by decide) (by decide)]
  rw [UInt64.add_assoc w0 w9, UInt64.add_comm w9, ← UInt64.add_assoc w0]
theorem rndT_eq (g w : UInt64) (x : Nat → UInt64) : rndT φr g w x = rndTD φr g w x := by
  unfold rndT rndTD
  rw [rot_eq (x 4) 14 14 (by decide) (by decide), rot_eq (x 4) 18 18 (by decide) (by decide), rot_eq (x 4) 41 41 (by decide) (by decide)]
theorem rnd_eq (g w : UInt64) (x : Nat → UInt64) : rnd φr g w x = rndD φr g w x := by
  unfold rnd rndD rndL rndLD
  rw [rndT_eq, rot_eq (x 0) 28 28 (by decide) (by decide), rot_eq (x 0) 34 34 (by decide) (by decide), rot_eq (x 0) 39 39 (by decide) (by decide), UInt64.add_assoc (rndTD φr g w x)]
theorem W2_eq (w : Nat → UInt64) : ∀ i, W2 φr w i = W2D φr w i
  | 0 => rfl
  | i + 1 => by
    simp only [W2, W2D]
    rw [W2_eq w i, sched_eq]
theorem X3_eq (g w h : Nat → UInt64) : ∀ i, X3 φr g w h i = X3D φr g w h i
  | 0 => rfl
  | i + 1 => by
    simp only [X3, X3D]
    rw [X3_eq g w h i, rnd_eq]
theorem take_eq (g h : Nat → UInt64) (b : Nat → UInt8) : takeF φr g h b = pieceD φr g h b := by
  unfold takeF pieceD
  rw [W2_eq, X3_eq]
/-! ### what depends on the first places alone -/
theorem W1_congr {b b' : Nat → UInt8} {n : Nat} (h : ∀ i, i < n → b i = b' i) : ∀ i, i ≤ n → W1 b i = W1 b' i
  | 0, _ => rfl
  | i + 1, hi => by
    simp only [W1]
    rw [W1_congr h i (by omega), h i (by omega)]
theorem takeF_congr {φ : Fr} {g h : Nat → UInt64} {b b' : Nat → UInt8} (hb : ∀ i, i < 128 → b i = b' i) : takeF φ g h b = takeF φ g h b' := by
  unfold takeF
  rw [W1_congr hb 128 (Nat.le_refl _)]
/-! ### bytes pushed -/
def pushL (φ : Fr) (g : Nat → UInt64) (s : St) (l : List UInt8) : St := l.foldl (addS φ g) s
theorem pushL_append (φ : Fr) (g : Nat → UInt64) (s : St) (l m : List UInt8) : pushL φ g s (l ++ m) = pushL φ g (pushL φ g s l) m := List.foldl_append ..
theorem addsN_push (φ : Fr) (g : Nat → UInt64) (s : St) (l : List UInt8) : ∀ i, i ≤ l.length → addsN φ g s l i = pushL φ g s (l.take i)
  | 0, _ => by simp [addsN, pushL]
  | i + 1, hi => by
    simp only [addsN]
    rw [addsN_push φ g s l i (by omega), List.take_add_one, pushL_append]
    have : l[i]? = some (l.getD i 0) := by
      rw [List.getD_eq_getElem?_getD, List.getElem?_eq_getElem (by omega)]; rfl
    rw [this]
    rfl
theorem adds_push (φ : Fr) (g : Nat → UInt64) (s : St) (l : List UInt8) : addsS φ g s l = pushL φ g s l := by
  unfold addsS
  rw [addsN_push φ g s l l.length (Nat.le_refl _), List.take_length]
theorem zer_push (φ : Fr) (g : Nat → UInt64) (s : St) : ∀ k, zer φ g s k = pushL φ g s ((List.range k).map fun _ => 0)
  | 0 => rfl
  | k + 1 => by
    simp only [zer]
    rw [zer_push φ g s k, List.range_succ, List.map_append, pushL_append]; rfl
theorem lenA_push (φ : Fr) (g : Nat → UInt64) (x : UInt64) (s : St) : ∀ k, lenA φ g x s k = pushL φ g s ((List.range k).map (lenB x))
  | 0 => rfl
  | k + 1 => by
    simp only [lenA]
    rw [lenA_push φ g x s k, List.range_succ, List.map_append, pushL_append]; rfl
theorem push_n (φ : Fr) (g : Nat → UInt64) : ∀ (l : List UInt8) (s : St), (pushL φ g s l).n = s.n + UInt64.ofNat l.length
  | [], s => by show s.n = _; simp
  | x :: l, s => by
    show (pushL φ g (addS φ g s x) l).n = _
    rw [push_n φ g l, addS_n, UInt64.add_assoc]
    congr 1
    apply UInt64.toNat_inj.1
    rw [UInt64.toNat_add, UInt64.toNat_ofNat', UInt64.toNat_ofNat', List.length_cons]
    have h1 : (1 : UInt64).toNat = 1 := rfl
    rw [h1]
    omega
theorem push_bS_n (φ : Fr) (g : Nat → UInt64) (l : List UInt8) : (pushL φ g bS l).n = UInt64.ofNat l.length := by
  rw [push_n]; show 0 + _ = _; simp
theorem padK_of (n : Nat) (h : n < 18446744073709551616) : padK (UInt64.ofNat n) = padN n := by
  unfold padK padN
  rw [UInt64.toNat_ofNat', Nat.mod_eq_of_lt (show n < 2 ^ 64 by omega)]
theorem sum_push (φ : Fr) (g : Nat → UInt64) (l : List UInt8) (h : l.length < 18446744073709551616) : sumSt φ g (pushL φ g bS l) = pushL φ g bS (padL l) := by
  unfold sumSt padL exL
  have e : (List.range 16).map (tailB (UInt64.ofNat l.length)) = (List.range 8).map (fun _ => (0 : UInt8)) ++ (List.range 8).map (lenB (UInt64.ofNat l.length)) := rfl
  rw [lenA_push, zer_push, zer_push, push_bS_n, padK_of _ h, e]
  rw [pushL_append, pushL_append, pushL_append, pushL_append]
  rfl
/-! ### piece by piece -/
theorem add0_at (s : St) (x : UInt8) (i : Nat) : (add0 s x).b i = if i < 128 then (if i = (s.n % 128).toNat then x else s.b i) else 0 := rfl
/-- Behind the first bytes of a piece. -/
theorem push_part (φ : Fr) (g : Nat → UInt64) (s : St) (hs : nS s = s) (h0 : s.n.toNat % 128 = 0) (l : List UInt8) : l.length < 128 →
    (pushL φ g s l).h = s.h ∧ (∀ j, j < l.length → (pushL φ g s l).b j = l.getD j 0) ∧ nS (pushL φ g s l) = pushL φ g s l := by
  have key : ∀ k, k ≤ l.length → k < 128 → (pushL φ g s (l.take k)).h = s.h ∧ (∀ j, j < k → (pushL φ g s (l.take k)).b j = l.getD j 0) ∧ nS (pushL φ g s (l.take k)) = pushL φ g s (l.take k) := by
    intro k
    induction k with
    | zero => intro _ _; exact ⟨by simp [pushL], fun j hj => by omega, by simp [pushL, hs]⟩
    | succ k ih =>
      intro hk hk2
      obtain ⟨i1, i2, i3⟩ := ih (by omega) (by omega)
      have e : l[k]? = some (l.getD k 0) := by
        rw [List.getD_eq_getElem?_getD, List.getElem?_eq_getElem (by omega)]; rfl
      have en : (pushL φ g s (l.take k)).n.toNat % 128 = k := by
        rw [push_n, UInt64.toNat_add, UInt64.toNat_ofNat', List.length_take]
        have := s.n.toNat_lt
        omega
      have e2 : pushL φ g s (l.take (k + 1)) = add0 (pushL φ g s (l.take k)) (l.getD k 0) := by
        rw [List.take_add_one, pushL_append, e]
        show addS φ g (pushL φ g s (l.take k)) (l.getD k 0) = _
        unfold addS
        have : (((pushL φ g s (l.take k)).n + 1) % 128 == 0) = false := by
          rw [beq_eq_false_iff_ne]
          intro h
          have h2 := congrArg UInt64.toNat h
          rw [UInt64.toNat_mod, UInt64.toNat_add] at h2
          have h3 : (1 : UInt64).toNat = 1 := rfl
          have h4 : (128 : UInt64).toNat = 128 := rfl
          have h5 : (0 : UInt64).toNat = 0 := rfl
          rw [h3, h4, h5] at h2
          omega
        rw [this]; rfl
      rw [e2]
      refine ⟨?_, fun j hj => ?_, nS_add0 ..⟩
      · show nU 8 (pushL φ g s (l.take k)).h = s.h
        rw [i1]
        exact congrArg St.h hs
      · rw [add0_at, if_pos (by omega)]
        have e4 : ((pushL φ g s (l.take k)).n % 128).toNat = k := by
          rw [UInt64.toNat_mod]
          have h4 : (128 : UInt64).toNat = 128 := rfl
          rw [h4, en]
        rw [e4]
        by_cases hj2 : j = k
        · rw [if_pos hj2, hj2]
        · rw [if_neg hj2]; exact i2 j (by omega)
  intro hl
  have := key l.length (Nat.le_refl _) hl
  rwa [List.take_length] at this
/-- A whole piece. -/
theorem push_piece0 (φ : Fr) (g : Nat → UInt64) (s : St) (hs : nS s = s) (h0 : s.n.toNat % 128 = 0) (m : List UInt8) (x : UInt8) (hl2 : m.length = 127) :
    (pushL φ g s (m ++ [x])).h = nU 8 (takeF φ g s.h fun j => (m ++ [x]).getD j 0) ∧ nS (pushL φ g s (m ++ [x])) = pushL φ g s (m ++ [x]) := by
  obtain ⟨i1, i2, i3⟩ := push_part φ g s hs h0 m (by omega)
  have en : (pushL φ g s m).n.toNat % 128 = 127 := by
    rw [push_n, UInt64.toNat_add, UInt64.toNat_ofNat', hl2]
    have := s.n.toNat_lt
    omega
  obtain ⟨t, ht⟩ : ∃ t, t = pushL φ g s m := ⟨_, rfl⟩
  rw [← ht] at i1 i2 i3 en
  have e2 : pushL φ g s (m ++ [x]) = takeS φ g (add0 t x) := by
    rw [pushL_append, ← ht]
    show addS φ g t x = _
    unfold addS
    have : ((t.n + 1) % 128 == 0) = true := by
      rw [beq_iff_eq]
      apply UInt64.toNat_inj.1
      rw [UInt64.toNat_mod, UInt64.toNat_add]
      have h3 : (1 : UInt64).toNat = 1 := rfl
      have h4 : (128 : UInt64).toNat = 128 := rfl
      have h5 : (0 : UInt64).toNat = 0 := rfl
      rw [h3, h4, h5]
      omega
    rw [this]; rfl
  rw [e2]
  refine ⟨?_, nS_takeS ..⟩
  have hh : nU 8 s.h = s.h := congrArg St.h hs
  have e5 : (takeS φ g (add0 t x)).h = nU 8 (takeF φ g (nU 8 t.h) (add0 t x).b) := rfl
  rw [e5, i1, hh]
  have e6 : takeF φ g s.h (add0 t x).b = takeF φ g s.h fun j => (m ++ [x]).getD j 0 := by
    apply takeF_congr
    intro j hj
    have e4 : (t.n % 128).toNat = 127 := by
      rw [UInt64.toNat_mod]
      have h4 : (128 : UInt64).toNat = 128 := rfl
      rw [h4, en]
    rw [add0_at, if_pos hj, e4, List.getD_eq_getElem?_getD]
    by_cases hj2 : j = 127
    · rw [if_pos hj2, hj2, List.getElem?_append_right (by omega), hl2]; rfl
    · rw [if_neg hj2, i2 j (by omega), List.getD_eq_getElem?_getD, List.getElem?_append_left (by omega)]
  rw [e6]
theorem push_piece (φ : Fr) (g : Nat → UInt64) (s : St) (hs : nS s = s) (h0 : s.n.toNat % 128 = 0) (l : List UInt8) (hl : l.length = 128) :
    (pushL φ g s l).h = nU 8 (takeF φ g s.h fun j => l.getD j 0) ∧ nS (pushL φ g s l) = pushL φ g s l := by
  have e : ∃ m x, l = m ++ [x] ∧ m.length = 127 := by
    have e2 : l[127]? = some (l.getD 127 0) := by
      rw [List.getD_eq_getElem?_getD, List.getElem?_eq_getElem (by omega)]; rfl
    have := List.take_add_one (l := l) (i := 127)
    rw [e2, List.take_of_length_le (by omega)] at this
    exact ⟨l.take 127, l.getD 127 0, this, by rw [List.length_take]; omega⟩
  obtain ⟨m, x, rfl, hm⟩ := e
  exact push_piece0 φ g s hs h0 m x hm
theorem foldD_succ (P : PieceF) (η : Nat → UInt64) (c : List UInt8) (k : Nat) : foldD P η c (k + 1) = P (nU 8 (foldD P η c k)) fun j => gB (c.map .u8) (128 * k + j) := rfl
/-- All pieces. -/
theorem push_fold0 {P : PieceF} {φ : Fr} {g : Nat → UInt64} (hP : ∀ h b b', (∀ i, i < 128 → b i = b' i) → takeF φ g h b = P h b') (c : List UInt8) : ∀ k, 128 * k ≤ c.length → (pushL φ g bS (c.take (128 * k))).h = nU 8 (foldD P hF c k) ∧ nS (pushL φ g bS (c.take (128 * k))) = pushL φ g bS (c.take (128 * k))
  | 0, _ => by
    have : pushL φ g bS (c.take (128 * 0)) = bS := by simp [pushL]
    rw [this]
    exact ⟨(congrArg St.h nS_bS).symm, nS_bS⟩
  | k + 1, hk => by
    obtain ⟨i1, i2⟩ := push_fold0 hP c k (by omega)
    have e : c.take (128 * (k + 1)) = c.take (128 * k) ++ (c.drop (128 * k)).take 128 := by
      rw [show 128 * (k + 1) = 128 * k + 128 by omega, List.take_add]
    rw [e, pushL_append]
    have hn : (pushL φ g bS (c.take (128 * k))).n.toNat % 128 = 0 := by
      rw [push_bS_n, UInt64.toNat_ofNat', List.length_take]
      omega
    obtain ⟨s, hs⟩ : ∃ s, s = pushL φ g bS (c.take (128 * k)) := ⟨_, rfl⟩
    rw [← hs] at i1 i2 hn ⊢
    obtain ⟨j1, j2⟩ := push_piece φ g s i2 hn ((c.drop (128 * k)).take 128) (by rw [List.length_take, List.length_drop]; omega)
    refine ⟨?_, j2⟩
    rw [j1, i1, foldD_succ]
    refine congrArg (nU 8) (hP _ _ _ fun j hj => ?_)
    rw [gB_map, List.getD_eq_getElem?_getD, List.getD_eq_getElem?_getD, List.getElem?_take_of_lt hj, List.getElem?_drop]
theorem take_piece (g h : Nat → UInt64) (b b' : Nat → UInt8) (hb : ∀ i, i < 128 → b i = b' i) : takeF φr g h b = pieceD φr g h b' := by
  rw [← take_eq]
  exact takeF_congr hb
theorem push_fold (g : Nat → UInt64) (c : List UInt8) (k : Nat) (hk : 128 * k ≤ c.length) : (pushL φr g bS (c.take (128 * k))).h = nU 8 (foldD (pieceD φr g) hF c k) := (push_fold0 (take_piece g) c k hk).1
theorem outF_at (h : Nat → UInt64) : ∀ n i, i < n → outF h n i = outB h i
  | n + 1, i, hi => by
    simp only [outF, updF]
    by_cases e : i = n
    · rw [if_pos e, e]
    · rw [if_neg e]; exact outF_at h n i (by omega)
/-- The program's digest is the document's. -/
theorem of_doc (l : List UInt8) (h : l.length < 1000000000) : ofS φr kF l = docR l := by
  unfold ofS docR docF sumS
  rw [adds_push, sum_push φr kF l (by omega)]
  have hm := padL_mod l
  have hk : 128 * ((padL l).length / 128) = (padL l).length := by omega
  have i1 := push_fold kF (padL l) ((padL l).length / 128) (by omega)
  rw [hk, List.take_length] at i1
  rw [i1]
  apply List.map_congr_left
  intro i hi
  have hi2 : i < 64 := List.mem_range.1 hi
  rw [outF_at _ _ _ hi2]
  unfold outB nU
  rw [if_pos (by omega)]
end Go.Proofs.YtaepfopmicnnbaaDoor

/- The two digests that are known. -/
namespace Go.Proofs.YtaepfopmicnnbaaDoor
set_option linter.unusedVariables false
set_option linter.unusedSimpArgs false
open Go Go.Eng
set_option maxRecDepth 1000000
set_option linter.unusedSimpArgs false
set_option linter.unusedVariables false
def gU64 (l : List UInt64) (i : Nat) : UInt64 := l.getD i 0
def chkW (b : Nat → UInt8) (w : List UInt64) : Bool := (List.range 16).all fun k => W1 b 128 k == gU64 w k
def chkS (w : List UInt64) : Bool := (List.range 64).all fun i => gU64 w (i + 16) == schedD φr (gU64 w i) (gU64 w (i + 1)) (gU64 w (i + 9)) (gU64 w (i + 14))
def chkX (κ : List UInt64) (w : List UInt64) (X : List (List UInt64)) : Bool := (List.range 80).all fun i => X.getD (i + 1) [] == rndLD φr (gU64 κ i) (gU64 w i) (gU64 (X.getD i []))
theorem all_at {n : Nat} {p : Nat → Bool} (h : (List.range n).all p = true) {i : Nat} (hi : i < n) : p i = true := List.all_eq_true.1 h i (List.mem_range.2 hi)
theorem rndLD_congr {φ : Fr} {g w : UInt64} {x y : Nat → UInt64} (h : ∀ j, j < 8 → x j = y j) : rndLD φ g w x = rndLD φ g w y := by
  unfold rndLD rndTD
  rw [h 0 (by omega), h 1 (by omega), h 2 (by omega), h 3 (by omega), h 4 (by omega), h 5 (by omega), h 6 (by omega), h 7 (by omega)]
theorem W2D_chk {b : Nat → UInt8} {w : List UInt64} (h1 : chkW b w = true) (h2 : chkS w = true) : ∀ i, i ≤ 64 → ∀ k, k < 16 + i → W2D φr (W1 b 128) i k = gU64 w k
  | 0, _, k, hk => eq_of_beq (all_at h1 (show k < 16 by omega))
  | i + 1, hi, k, hk => by
    simp only [W2D, updF]
    by_cases e : k = i + 16
    · rw [if_pos e, e, W2D_chk h1 h2 i (by omega) i (by omega), W2D_chk h1 h2 i (by omega) (i + 1) (by omega), W2D_chk h1 h2 i (by omega) (i + 9) (by omega), W2D_chk h1 h2 i (by omega) (i + 14) (by omega)]
      exact (eq_of_beq (all_at h2 (show i < 64 by omega))).symm
    · rw [if_neg e]; exact W2D_chk h1 h2 i (by omega) k (by omega)
theorem X3D_chk {κ w : List UInt64} {X : List (List UInt64)} {W h : Nat → UInt64} (hW : ∀ k, k < 80 → W k = gU64 w k) (h0 : ∀ j, j < 8 → h j = gU64 (X.getD 0 []) j) (hx : chkX κ w X = true) : ∀ i, i ≤ 80 → ∀ j, j < 8 → X3D φr (gU64 κ) W h i j = gU64 (X.getD i []) j
  | 0, _, j, hj => h0 j hj
  | i + 1, hi, j, hj => by
    simp only [X3D, rndD]
    rw [rndLD_congr (X3D_chk hW h0 hx i (by omega)), hW i (by omega)]
    have := eq_of_beq (all_at hx (show i < 80 by omega))
    rw [this]; rfl
theorem piece_chk {κ w : List UInt64} {X : List (List UInt64)} {b : Nat → UInt8} {h : Nat → UInt64} (h1 : chkW b w = true) (h2 : chkS w = true) (h0 : ∀ j, j < 8 → h j = gU64 (X.getD 0 []) j) (hx : chkX κ w X = true) :
    pieceD φr (gU64 κ) h b 0 = h 0 + gU64 (X.getD 80 []) 0 := by
  have e : ∀ x : Nat → UInt64, A4 h x 8 0 = h 0 + x 0 := fun x => rfl
  unfold pieceD
  rw [e, X3D_chk (fun k hk => W2D_chk h1 h2 64 (Nat.le_refl _) k (by omega)) h0 hx 80 (Nat.le_refl _) 0 (by omega)]
def padE : List UInt8 := [128, 0, 0, 0, 0, 0, 0, 0, 0, 0, 0, 0, 0, 0, 0, 0, 0, 0, 0, 0, 0, 0, 0, 0, 0, 0, 0, 0, 0, 0, 0, 0, 0, 0, 0, 0, 0, 0, 0, 0, 0, 0, 0, 0, 0, 0, 0, 0, 0, 0, 0, 0, 0, 0, 0, 0, 0, 0, 0, 0, 0, 0, 0, 0, 0, 0, 0, 0, 0, 0, 0, 0, 0, 0, 0, 0, 0, 0, 0, 0, 0, 0, 0, 0, 0, 0, 0, 0, 0, 0, 0, 0, 0, 0, 0, 0, 0, 0, 0, 0, 0, 0, 0, 0, 0, 0, 0, 0, 0, 0, 0, 0, 0, 0, 0, 0, 0, 0, 0, 0, 0, 0, 0, 0, 0, 0, 0, 0]
def wE : List UInt64 := [9223372036854775808, 0, 0, 0, 0, 0, 0, 0, 0, 0, 0, 0, 0, 0, 0, 0, 9223372036854775808, 0, 144132780261900292, 0, 1155173304454086688, 0, 9224535324720890176, 9223372036854775808, 146666604812306432, 288265560523800584, 1243169432437604392, 3465519913362260064, 11692752768149889090, 4653151464457472, 15323855909384817045, 4876574312498210832, 14639603247754544148, 3434786857230368820, 9013053720714969912, 10981963730338967295, 14505461409933268600, 10568723117816178525, 51053405127713065, 7505555249610797273, 18252215520407452834, 4079059491340002047, 17873331272771716404, 18197477866010144683, 2586653930017323, 5279201199531870604, 7489938729579517538, 2581045260704602993, 309334448297401143, 3688400740553181013, 11915011874665163476, 15548373201946704186, 976836368697803132, 15440532245632154827, 13159214976914891887, 14489188410753582394, 7359474398803404219, 153235613781274047, 10975724157807346904, 12239009553022252559, 13205109041321307169, 11807957215129485051, 12027190436797570982, 16915464566074054049, 3554530596002172539, 5162489885373305514, 1980304498657416535, 2902461406060293815, 4891631205827345334, 11101613502430268959, 11718169689323905103, 18325423463113385581, 12562554357919657550, 5822938288807249808, 5798868973202240978, 9294985631150403737, 1771184806411634331, 14339725245072215721, 4516957551734913270, 15555311401511284977]
def XE : List (List UInt64) := [[7640891576956012808, 13503953896175478587, 4354685564936845355, 11912009170470909681, 5840696475078001361, 11170449401992604703, 2270897969802886507, 6620516959819538809], [1535000939436236277, 7640891576956012808, 13503953896175478587, 4354685564936845355, 8604301586081324945, 5840696475078001361, 11170449401992604703, 2270897969802886507], [11114438778114213593, 1535000939436236277, 7640891576956012808, 13503953896175478587, 708295374166277688, 8604301586081324945, 5840696475078001361, 11170449401992604703], [3357628570478203516, 11114438778114213593, 1535000939436236277, 7640891576956012808, 14121294576710768361, 708295374166277688, 8604301586081324945, 5840696475078001361], [2943498627032279291, 3357628570478203516, 11114438778114213593, 1535000939436236277, 9042721907162107806, 14121294576710768361, 708295374166277688, 8604301586081324945], [8867705452444688403, 2943498627032279291, 3357628570478203516, 11114438778114213593, 9269299271418694744, 9042721907162107806, 14121294576710768361, 708295374166277688], [8052687897934575572, 8867705452444688403, 2943498627032279291, 3357628570478203516, 954123550788015637, 9269299271418694744, 9042721907162107806, 14121294576710768361], [1297660706634259979, 8052687897934575572, 8867705452444688403, 2943498627032279291, 18095317823919003747, 954123550788015637, 9269299271418694744, 9042721907162107806], [13180879155271243334, 1297660706634259979, 8052687897934575572, 8867705452444688403, 18073052994063325210, 18095317823919003747, 954123550788015637, 9269299271418694744], [15867483677484858544, 13180879155271243334, 1297660706634259979, 8052687897934575572, 7050644521368597328, 18073052994063325210, 18095317823919003747, 954123550788015637], [11615064536366317570, 15867483677484858544, 13180879155271243334, 1297660706634259979, 1511149575883838923, 7050644521368597328, 18073052994063325210, 18095317823919003747], [2711474298248519431, 11615064536366317570, 15867483677484858544, 13180879155271243334, 9409769079521313916, 1511149575883838923, 7050644521368597328, 18073052994063325210], [16037486270253145273, 2711474298248519431, 11615064536366317570, 15867483677484858544, 12104046317020583695, 9409769079521313916, 1511149575883838923, 7050644521368597328], [15717093329703083625, 16037486270253145273, 2711474298248519431, 11615064536366317570, 12247733100593001321, 12104046317020583695, 9409769079521313916, 1511149575883838923], [3327004468235887592, 15717093329703083625, 16037486270253145273, 2711474298248519431, 16931621253312499097, 12247733100593001321, 12104046317020583695, 9409769079521313916], [10521699337904683388, 3327004468235887592, 15717093329703083625, 16037486270253145273, 9101156652039330188, 16931621253312499097, 12247733100593001321, 12104046317020583695], [11957210162676099304, 10521699337904683388, 3327004468235887592, 15717093329703083625, 16507393454689655215, 9101156652039330188, 16931621253312499097, 12247733100593001321], [8840497292585197881, 11957210162676099304, 10521699337904683388, 3327004468235887592, 646553923164708439, 16507393454689655215, 9101156652039330188, 16931621253312499097], [5445652770168082403, 8840497292585197881, 11957210162676099304, 10521699337904683388, 15040606452879806816, 646553923164708439, 16507393454689655215, 9101156652039330188], [4033839186870516833, 5445652770168082403, 8840497292585197881, 11957210162676099304, 2973634716007085336, 15040606452879806816, 646553923164708439, 16507393454689655215], [7734293196620315496, 4033839186870516833, 5445652770168082403, 8840497292585197881, 5413236793500659674, 2973634716007085336, 15040606452879806816, 646553923164708439], [13959579584129021366, 7734293196620315496, 4033839186870516833, 5445652770168082403, 10317138256970770530, 5413236793500659674, 2973634716007085336, 15040606452879806816], [2488765678066579740, 13959579584129021366, 7734293196620315496, 4033839186870516833, 2532774995365672201, 10317138256970770530, 5413236793500659674, 2973634716007085336], [14177698245352062771, 2488765678066579740, 13959579584129021366, 7734293196620315496, 3064580985725807359, 2532774995365672201, 10317138256970770530, 5413236793500659674], [11328928571385040465, 14177698245352062771, 2488765678066579740, 13959579584129021366, 8760048796643083589, 3064580985725807359, 2532774995365672201, 10317138256970770530], [4005321304232220694, 11328928571385040465, 14177698245352062771, 2488765678066579740, 3854232424456366536, 8760048796643083589, 3064580985725807359, 2532774995365672201], [132582012573679343, 4005321304232220694, 11328928571385040465, 14177698245352062771, 16049156146861106887, 3854232424456366536, 8760048796643083589, 3064580985725807359], [17904768826498418484, 132582012573679343, 4005321304232220694, 11328928571385040465, 366022580554736256, 16049156146861106887, 3854232424456366536, 8760048796643083589], [1860367824584887918, 17904768826498418484, 132582012573679343, 4005321304232220694, 12166294077944179796, 366022580554736256, 16049156146861106887, 3854232424456366536], [12417284677721064804, 1860367824584887918, 17904768826498418484, 132582012573679343, 2825473957472645134, 12166294077944179796, 366022580554736256, 16049156146861106887], [17370035896188850270, 12417284677721064804, 1860367824584887918, 17904768826498418484, 6235588250165754788, 2825473957472645134, 12166294077944179796, 366022580554736256], [9417042858999090219, 17370035896188850270, 12417284677721064804, 1860367824584887918, 282807595313248881, 6235588250165754788, 2825473957472645134, 12166294077944179796], [13913357980856725437, 9417042858999090219, 17370035896188850270, 12417284677721064804, 14373921846548623075, 282807595313248881, 6235588250165754788, 2825473957472645134], [3844613628497475503, 13913357980856725437, 9417042858999090219, 17370035896188850270, 18153235283946618344, 14373921846548623075, 282807595313248881, 6235588250165754788], [14280060165510499615, 3844613628497475503, 13913357980856725437, 9417042858999090219, 12097990863867326436, 18153235283946618344, 14373921846548623075, 282807595313248881], [9195411863407369122, 14280060165510499615, 3844613628497475503, 13913357980856725437, 6082234664344642365, 12097990863867326436, 18153235283946618344, 14373921846548623075], [9014166503105851102, 9195411863407369122, 14280060165510499615, 3844613628497475503, 12821778869772011710, 6082234664344642365, 12097990863867326436, 18153235283946618344], [562895653643573725, 9014166503105851102, 9195411863407369122, 14280060165510499615, 16093252329527309962, 12821778869772011710, 6082234664344642365, 12097990863867326436], [13338586611699462541, 562895653643573725, 9014166503105851102, 9195411863407369122, 236018110615543007, 16093252329527309962, 12821778869772011710, 6082234664344642365], [13363768375348189923, 13338586611699462541, 562895653643573725, 9014166503105851102, 178468805797219866, 236018110615543007, 16093252329527309962, 12821778869772011710], [17213066933721301641, 13363768375348189923, 13338586611699462541, 562895653643573725, 1550048659728911534, 178468805797219866, 236018110615543007, 16093252329527309962], [6183681937039803239, 17213066933721301641, 13363768375348189923, 13338586611699462541, 12500687242921833484, 1550048659728911534, 178468805797219866, 236018110615543007], [14593934739062839536, 6183681937039803239, 17213066933721301641, 13363768375348189923, 2980223334780124932, 12500687242921833484, 1550048659728911534, 178468805797219866], [9075525590641296218, 14593934739062839536, 6183681937039803239, 17213066933721301641, 10202110017832004033, 2980223334780124932, 12500687242921833484, 1550048659728911534], [2139654419941316, 9075525590641296218, 14593934739062839536, 6183681937039803239, 18325897601296242927, 10202110017832004033, 2980223334780124932, 12500687242921833484], [8813348121619454918, 2139654419941316, 9075525590641296218, 14593934739062839536, 16754367333650174392, 18325897601296242927, 10202110017832004033, 2980223334780124932], [4327878059891634787, 8813348121619454918, 2139654419941316, 9075525590641296218, 5512807238146108431, 16754367333650174392, 18325897601296242927, 10202110017832004033], [3898230394522753619, 4327878059891634787, 8813348121619454918, 2139654419941316, 14577652100426103204, 5512807238146108431, 16754367333650174392, 18325897601296242927], [6923739507406825965, 3898230394522753619, 4327878059891634787, 8813348121619454918, 5715799000315017500, 14577652100426103204, 5512807238146108431, 16754367333650174392], [3220332876362708637, 6923739507406825965, 3898230394522753619, 4327878059891634787, 3003485591333185959, 5715799000315017500, 14577652100426103204, 5512807238146108431], [6341869928719197194, 3220332876362708637, 6923739507406825965, 3898230394522753619, 1620722783325649747, 3003485591333185959, 5715799000315017500, 14577652100426103204], [4338922125219480620, 6341869928719197194, 3220332876362708637, 6923739507406825965, 1020777196383082383, 1620722783325649747, 3003485591333185959, 5715799000315017500], [811334959118905804, 4338922125219480620, 6341869928719197194, 3220332876362708637, 16544041696201047025, 1020777196383082383, 1620722783325649747, 3003485591333185959], [17718149794008712186, 811334959118905804, 4338922125219480620, 6341869928719197194, 9714818703362474288, 16544041696201047025, 1020777196383082383, 1620722783325649747], [4276828031385792119, 17718149794008712186, 811334959118905804, 4338922125219480620, 9634650777192742518, 9714818703362474288, 16544041696201047025, 1020777196383082383], [14358669715927851899, 4276828031385792119, 17718149794008712186, 811334959118905804, 4459653418140540747, 9634650777192742518, 9714818703362474288, 16544041696201047025], [5404661859559219, 14358669715927851899, 4276828031385792119, 17718149794008712186, 12890759429816798722, 4459653418140540747, 9634650777192742518, 9714818703362474288], [14622775710724481821, 5404661859559219, 14358669715927851899, 4276828031385792119, 16532751250429078779, 12890759429816798722, 4459653418140540747, 9634650777192742518], [8760742569479425100, 14622775710724481821, 5404661859559219, 14358669715927851899, 8217655905464706989, 16532751250429078779, 12890759429816798722, 4459653418140540747], [6958683771364637476, 8760742569479425100, 14622775710724481821, 5404661859559219, 10007755103835699626, 8217655905464706989, 16532751250429078779, 12890759429816798722], [16473799315705177144, 6958683771364637476, 8760742569479425100, 14622775710724481821, 12148701037719819941, 10007755103835699626, 8217655905464706989, 16532751250429078779], [9470688073223552893, 16473799315705177144, 6958683771364637476, 8760742569479425100, 8434229096740402271, 12148701037719819941, 10007755103835699626, 8217655905464706989], [7267331402837005965, 9470688073223552893, 16473799315705177144, 6958683771364637476, 14518376813756737037, 8434229096740402271, 12148701037719819941, 10007755103835699626], [7252095292822958434, 7267331402837005965, 9470688073223552893, 16473799315705177144, 8609186706081221155, 14518376813756737037, 8434229096740402271, 12148701037719819941], [16749252028829549258, 7252095292822958434, 7267331402837005965, 9470688073223552893, 5976830660382302775, 8609186706081221155, 14518376813756737037, 8434229096740402271], [5210222027086775926, 16749252028829549258, 7252095292822958434, 7267331402837005965, 4033103070366065513, 5976830660382302775, 8609186706081221155, 14518376813756737037], [17324917964971186708, 5210222027086775926, 16749252028829549258, 7252095292822958434, 17658397039659457394, 4033103070366065513, 5976830660382302775, 8609186706081221155], [5325345627936335135, 17324917964971186708, 5210222027086775926, 16749252028829549258, 14390182281942712583, 17658397039659457394, 4033103070366065513, 5976830660382302775], [11520436384721680068, 5325345627936335135, 17324917964971186708, 5210222027086775926, 13858543398647079912, 14390182281942712583, 17658397039659457394, 4033103070366065513], [7258603562946193951, 11520436384721680068, 5325345627936335135, 17324917964971186708, 14037007143779560126, 13858543398647079912, 14390182281942712583, 17658397039659457394], [3134626952121456662, 7258603562946193951, 11520436384721680068, 5325345627936335135, 5753747730610928750, 14037007143779560126, 13858543398647079912, 14390182281942712583], [16884986034722696921, 3134626952121456662, 7258603562946193951, 11520436384721680068, 9200146808077182733, 5753747730610928750, 14037007143779560126, 13858543398647079912], [6504765135138206355, 16884986034722696921, 3134626952121456662, 7258603562946193951, 12696353201311017985, 9200146808077182733, 5753747730610928750, 14037007143779560126], [13088395931660127971, 6504765135138206355, 16884986034722696921, 3134626952121456662, 10347135497100346565, 12696353201311017985, 9200146808077182733, 5753747730610928750], [11621465745780961097, 13088395931660127971, 6504765135138206355, 16884986034722696921, 7345216223358720645, 10347135497100346565, 12696353201311017985, 9200146808077182733], [4128674683197583842, 11621465745780961097, 13088395931660127971, 6504765135138206355, 11449677175398791602, 7345216223358720645, 10347135497100346565, 12696353201311017985], [9787435745173467963, 4128674683197583842, 11621465745780961097, 13088395931660127971, 15719780563583967741, 11449677175398791602, 7345216223358720645, 10347135497100346565], [16043145579270746845, 9787435745173467963, 4128674683197583842, 11621465745780961097, 5284804158881904837, 15719780563583967741, 11449677175398791602, 7345216223358720645], [11074897468750699953, 16043145579270746845, 9787435745173467963, 4128674683197583842, 4914931399657504022, 5284804158881904837, 15719780563583967741, 11449677175398791602], [3885614492668844236, 11074897468750699953, 16043145579270746845, 9787435745173467963, 7241137592123555856, 4914931399657504022, 5284804158881904837, 15719780563583967741], [7312151230723321781, 3885614492668844236, 11074897468750699953, 16043145579270746845, 17780913627677552607, 7241137592123555856, 4914931399657504022, 5284804158881904837]]
theorem padE_eq : padL [] = padE := by decide +kernel
theorem chkWE : chkW (fun j => padE.getD j 0) wE = true := by kernel_rfl
theorem chkSE : chkS wE = true := by kernel_rfl
theorem chkXE : chkX roundsL wE XE = true := by kernel_rfl
theorem wordE : foldD (pieceD φr kF) hF (padL []) 1 0 = 14953042807679334589 := by
  rw [foldD_succ, padE_eq]
  have e : pieceD φr kF (nU 8 (foldD (pieceD φr kF) hF padE 0)) (fun j => gB (padE.map .u8) (128 * 0 + j)) = pieceD φr (gU64 roundsL) (nU 8 hF) (fun j => padE.getD j 0) := by
    have e2 : (fun j => gB (padE.map .u8) (128 * 0 + j)) = fun j => padE.getD j 0 := funext fun j => by rw [gB_map, Nat.mul_zero, Nat.zero_add]
    rw [e2]; rfl
  rw [e, piece_chk chkWE chkSE (X := XE) (by decide +kernel) chkXE]
  decide +kernel
def padA : List UInt8 := [97, 98, 99, 128, 0, 0, 0, 0, 0, 0, 0, 0, 0, 0, 0, 0, 0, 0, 0, 0, 0, 0, 0, 0, 0, 0, 0, 0, 0, 0, 0, 0, 0, 0, 0, 0, 0, 0, 0, 0, 0, 0, 0, 0, 0, 0, 0, 0, 0, 0, 0, 0, 0, 0, 0, 0, 0, 0, 0, 0, 0, 0, 0, 0, 0, 0, 0, 0, 0, 0, 0, 0, 0, 0, 0, 0, 0, 0, 0, 0, 0, 0, 0, 0, 0, 0, 0, 0, 0, 0, 0, 0, 0, 0, 0, 0, 0, 0, 0, 0, 0, 0, 0, 0, 0, 0, 0, 0, 0, 0, 0, 0, 0, 0, 0, 0, 0, 0, 0, 0, 0, 0, 0, 0, 0, 0, 0, 24]
def wA : List UInt64 := [7017280570803617792, 0, 0, 0, 0, 0, 0, 0, 0, 0, 0, 0, 0, 0, 0, 24, 7017280570803617792, 844424930132160, 762966109232037891, 13195750147587, 6097581589540473238, 54043414571793408, 1483655128544091580, 7126213039481127152, 8602118586805487511, 17389888485336023043, 14567336803169050610, 6777467420161596722, 16310457152051956578, 11476377395010010066, 12906063273572982575, 1051720670150476534, 11866753008450386212, 12477396688234164614, 4356201549416458046, 7840148015528850751, 14121359558264892382, 6614793513367853908, 4522218185451149906, 2892552721718560235, 352189473509599370, 9030584440117125351, 12607724378241962598, 829913954127880271, 12787094207806812211, 6729427763312036062, 5477573448673053883, 16621003149437336899, 16999664878006829468, 3899695832832618899, 3357496273253151093, 3682082552034448227, 11294004811417749973, 2836744397419860151, 4287662693712260952, 938603131418550565, 8445351822503640832, 13301424169519149285, 2637789678536900255, 5398300769020374814, 3226112756715261327, 12850822427266563721, 13957599002836691690, 14720324025197921979, 5807888345885282540, 6820734040768121841, 17000633838971044521, 12690899187530245291, 8675115807306831190, 14216296850786374956, 12954869667114756766, 13513824624013906744, 17743411111893162616, 13727910554596711163, 5324059115621695157, 9378356217484295577, 18299600774795048491, 5065130554155974958, 16449879781680111900, 10569647959714887634]
def XA : List (List UInt64) := [[7640891576956012808, 13503953896175478587, 4354685564936845355, 11912009170470909681, 5840696475078001361, 11170449401992604703, 2270897969802886507, 6620516959819538809], [17775653547094629877, 7640891576956012808, 13503953896175478587, 4354685564936845355, 6398210120030166929, 5840696475078001361, 11170449401992604703, 2270897969802886507], [1378375032367426752, 17775653547094629877, 7640891576956012808, 13503953896175478587, 14111163005532442618, 6398210120030166929, 5840696475078001361, 11170449401992604703], [16992077026628047347, 1378375032367426752, 17775653547094629877, 7640891576956012808, 16116608703471908882, 14111163005532442618, 6398210120030166929, 5840696475078001361], [6522280154658836098, 16992077026628047347, 1378375032367426752, 17775653547094629877, 812816973437638926, 16116608703471908882, 14111163005532442618, 6398210120030166929], [13150674985332787296, 6522280154658836098, 16992077026628047347, 1378375032367426752, 8384236076355474146, 812816973437638926, 16116608703471908882, 14111163005532442618], [12634632160465029581, 13150674985332787296, 6522280154658836098, 16992077026628047347, 10877884190705857978, 8384236076355474146, 812816973437638926, 16116608703471908882], [14161387662446692203, 12634632160465029581, 13150674985332787296, 6522280154658836098, 6515714836861337612, 10877884190705857978, 8384236076355474146, 812816973437638926], [9264979300070018979, 14161387662446692203, 12634632160465029581, 13150674985332787296, 9725086217580637194, 6515714836861337612, 10877884190705857978, 8384236076355474146], [17432490039127347749, 9264979300070018979, 14161387662446692203, 12634632160465029581, 15006060176321282050, 9725086217580637194, 6515714836861337612, 10877884190705857978], [9329256425520926467, 17432490039127347749, 9264979300070018979, 14161387662446692203, 2567660498086994, 15006060176321282050, 9725086217580637194, 6515714836861337612], [7603567429296479065, 9329256425520926467, 17432490039127347749, 9264979300070018979, 15237163099293983732, 2567660498086994, 15006060176321282050, 9725086217580637194], [15783596498715684522, 7603567429296479065, 9329256425520926467, 17432490039127347749, 5141269887493752364, 15237163099293983732, 2567660498086994, 15006060176321282050], [6791746286981245972, 15783596498715684522, 7603567429296479065, 9329256425520926467, 14840416245504788953, 5141269887493752364, 15237163099293983732, 2567660498086994], [4910214631565110432, 6791746286981245972, 15783596498715684522, 7603567429296479065, 9658760632651640673, 14840416245504788953, 5141269887493752364, 15237163099293983732], [18056759314602819624, 4910214631565110432, 6791746286981245972, 15783596498715684522, 9749165504138747695, 9658760632651640673, 14840416245504788953, 5141269887493752364], [783763253101075573, 18056759314602819624, 4910214631565110432, 6791746286981245972, 12068375980370346337, 9749165504138747695, 9658760632651640673, 14840416245504788953], [14625468662224520503, 783763253101075573, 18056759314602819624, 4910214631565110432, 3309807537067806072, 12068375980370346337, 9749165504138747695, 9658760632651640673], [5126712815256706667, 14625468662224520503, 783763253101075573, 18056759314602819624, 17617663188986524757, 3309807537067806072, 12068375980370346337, 9749165504138747695], [4344637751343070939, 5126712815256706667, 14625468662224520503, 783763253101075573, 2984021611801336784, 17617663188986524757, 3309807537067806072, 12068375980370346337], [11114801226032008966, 4344637751343070939, 5126712815256706667, 14625468662224520503, 17386595912996910718, 2984021611801336784, 17617663188986524757, 3309807537067806072], [10215763080027912277, 11114801226032008966, 4344637751343070939, 5126712815256706667, 5456645779651674076, 17386595912996910718, 2984021611801336784, 17617663188986524757], [15723427937955163599, 10215763080027912277, 11114801226032008966, 4344637751343070939, 10245969569294878547, 5456645779651674076, 17386595912996910718, 2984021611801336784], [4478342017695390328, 15723427937955163599, 10215763080027912277, 11114801226032008966, 775376826807972294, 10245969569294878547, 5456645779651674076, 17386595912996910718], [5721954948261172356, 4478342017695390328, 15723427937955163599, 10215763080027912277, 14294431782093017651, 775376826807972294, 10245969569294878547, 5456645779651674076], [11168769941273028928, 5721954948261172356, 4478342017695390328, 15723427937955163599, 15270845656795188847, 14294431782093017651, 775376826807972294, 10245969569294878547], [848356311147381099, 11168769941273028928, 5721954948261172356, 4478342017695390328, 7917081682208678710, 15270845656795188847, 14294431782093017651, 775376826807972294], [9821290593874409793, 848356311147381099, 11168769941273028928, 5721954948261172356, 16637577518858404709, 7917081682208678710, 15270845656795188847, 14294431782093017651], [16912329303693954313, 9821290593874409793, 848356311147381099, 11168769941273028928, 650359264440356268, 16637577518858404709, 7917081682208678710, 15270845656795188847], [16583178556168196874, 16912329303693954313, 9821290593874409793, 848356311147381099, 1138840708014282116, 650359264440356268, 16637577518858404709, 7917081682208678710], [8412514064609660003, 16583178556168196874, 16912329303693954313, 9821290593874409793, 17343013611567050885, 1138840708014282116, 650359264440356268, 16637577518858404709], [5498820066291512230, 8412514064609660003, 16583178556168196874, 16912329303693954313, 8349715323546435235, 17343013611567050885, 1138840708014282116, 650359264440356268], [18396429455477614390, 5498820066291512230, 8412514064609660003, 16583178556168196874, 4382997362745284142, 8349715323546435235, 17343013611567050885, 1138840708014282116], [11551891467463608532, 18396429455477614390, 5498820066291512230, 8412514064609660003, 16213879445386825839, 4382997362745284142, 8349715323546435235, 17343013611567050885], [6977455269099413478, 11551891467463608532, 18396429455477614390, 5498820066291512230, 17270105604882170906, 16213879445386825839, 4382997362745284142, 8349715323546435235], [3195845407571912225, 6977455269099413478, 11551891467463608532, 18396429455477614390, 1133471629149999059, 17270105604882170906, 16213879445386825839, 4382997362745284142], [1875778915943693356, 3195845407571912225, 6977455269099413478, 11551891467463608532, 17336615764864222413, 1133471629149999059, 17270105604882170906, 16213879445386825839], [9862748703077922068, 1875778915943693356, 3195845407571912225, 6977455269099413478, 10358226461617243765, 17336615764864222413, 1133471629149999059, 17270105604882170906], [12306716839941479, 9862748703077922068, 1875778915943693356, 3195845407571912225, 7398798058767285181, 10358226461617243765, 17336615764864222413, 1133471629149999059], [12951091674955083237, 12306716839941479, 9862748703077922068, 1875778915943693356, 13012472458591840222, 7398798058767285181, 10358226461617243765, 17336615764864222413], [10232707380485149221, 12951091674955083237, 12306716839941479, 9862748703077922068, 896509104009926267, 13012472458591840222, 7398798058767285181, 10358226461617243765], [12688084760043184428, 10232707380485149221, 12951091674955083237, 12306716839941479, 1625809033136641803, 896509104009926267, 13012472458591840222, 7398798058767285181], [16820814716754188369, 12688084760043184428, 10232707380485149221, 12951091674955083237, 17336998440402750641, 1625809033136641803, 896509104009926267, 13012472458591840222], [13548440172623021184, 16820814716754188369, 12688084760043184428, 10232707380485149221, 7177815560071004560, 17336998440402750641, 1625809033136641803, 896509104009926267], [3879824639663262677, 13548440172623021184, 16820814716754188369, 12688084760043184428, 14722549316117270770, 7177815560071004560, 17336998440402750641, 1625809033136641803], [14158364349133529652, 3879824639663262677, 13548440172623021184, 16820814716754188369, 9623492198945820956, 14722549316117270770, 7177815560071004560, 17336998440402750641], [153046364994624198, 14158364349133529652, 3879824639663262677, 13548440172623021184, 16815361663307703513, 9623492198945820956, 14722549316117270770, 7177815560071004560], [17734725798035598695, 153046364994624198, 14158364349133529652, 3879824639663262677, 14320379687691201178, 16815361663307703513, 9623492198945820956, 14722549316117270770], [7739994630535708332, 17734725798035598695, 153046364994624198, 14158364349133529652, 3829822426967623853, 14320379687691201178, 16815361663307703513, 9623492198945820956], [6277791645680508999, 7739994630535708332, 17734725798035598695, 153046364994624198, 2816298899201742416, 3829822426967623853, 14320379687691201178, 16815361663307703513], [14599500535775430936, 6277791645680508999, 7739994630535708332, 17734725798035598695, 16132054233708160581, 2816298899201742416, 3829822426967623853, 14320379687691201178], [9311829796752203843, 14599500535775430936, 6277791645680508999, 7739994630535708332, 549677677730881050, 16132054233708160581, 2816298899201742416, 3829822426967623853], [15294087387154865527, 9311829796752203843, 14599500535775430936, 6277791645680508999, 5206021154089656894, 549677677730881050, 16132054233708160581, 2816298899201742416], [278961163176436227, 15294087387154865527, 9311829796752203843, 14599500535775430936, 5787007753261273082, 5206021154089656894, 549677677730881050, 16132054233708160581], [15438172411855308458, 278961163176436227, 15294087387154865527, 9311829796752203843, 11995371684218654210, 5787007753261273082, 5206021154089656894, 549677677730881050], [17748832896332585549, 15438172411855308458, 278961163176436227, 15294087387154865527, 11299446916609150854, 11995371684218654210, 5787007753261273082, 5206021154089656894], [7184473838590656894, 17748832896332585549, 15438172411855308458, 278961163176436227, 14318312290346190089, 11299446916609150854, 11995371684218654210, 5787007753261273082], [8814267027135212293, 7184473838590656894, 17748832896332585549, 15438172411855308458, 15197568181060242400, 14318312290346190089, 11299446916609150854, 11995371684218654210], [5440844980312009291, 8814267027135212293, 7184473838590656894, 17748832896332585549, 8093066971341607340, 15197568181060242400, 14318312290346190089, 11299446916609150854], [6349735945983285688, 5440844980312009291, 8814267027135212293, 7184473838590656894, 7655163957258796854, 8093066971341607340, 15197568181060242400, 14318312290346190089], [3172579800243940492, 6349735945983285688, 5440844980312009291, 8814267027135212293, 5158818281292236434, 7655163957258796854, 8093066971341607340, 15197568181060242400], [4059959686365434810, 3172579800243940492, 6349735945983285688, 5440844980312009291, 12010905165818265169, 5158818281292236434, 7655163957258796854, 8093066971341607340], [14973785467481547446, 4059959686365434810, 3172579800243940492, 6349735945983285688, 697747594908290533, 12010905165818265169, 5158818281292236434, 7655163957258796854], [12114099962780444227, 14973785467481547446, 4059959686365434810, 3172579800243940492, 9513159758854096378, 697747594908290533, 12010905165818265169, 5158818281292236434], [12341244388490841477, 12114099962780444227, 14973785467481547446, 4059959686365434810, 14810121346132393043, 9513159758854096378, 697747594908290533, 12010905165818265169], [6521332650918126849, 12341244388490841477, 12114099962780444227, 14973785467481547446, 12287139774699560005, 14810121346132393043, 9513159758854096378, 697747594908290533], [17201993675892073880, 6521332650918126849, 12341244388490841477, 12114099962780444227, 4278398812896073441, 12287139774699560005, 14810121346132393043, 9513159758854096378], [5099237007923352925, 17201993675892073880, 6521332650918126849, 12341244388490841477, 3024929831817392998, 4278398812896073441, 12287139774699560005, 14810121346132393043], [6105251409481970702, 5099237007923352925, 17201993675892073880, 6521332650918126849, 2046591832181771215, 3024929831817392998, 4278398812896073441, 12287139774699560005], [1736201247801186120, 6105251409481970702, 5099237007923352925, 17201993675892073880, 782070226320908608, 2046591832181771215, 3024929831817392998, 4278398812896073441], [18116480355077104711, 1736201247801186120, 6105251409481970702, 5099237007923352925, 16388912088435462445, 782070226320908608, 2046591832181771215, 3024929831817392998], [8526094171459613084, 18116480355077104711, 1736201247801186120, 6105251409481970702, 12679370825376170234, 16388912088435462445, 782070226320908608, 2046591832181771215], [17392504170187076981, 8526094171459613084, 18116480355077104711, 1736201247801186120, 10699494962953023727, 12679370825376170234, 16388912088435462445, 782070226320908608], [3856214677359880619, 17392504170187076981, 8526094171459613084, 18116480355077104711, 10122789973502020768, 10699494962953023727, 12679370825376170234, 16388912088435462445], [2343998043378809589, 3856214677359880619, 17392504170187076981, 8526094171459613084, 382020050843420880, 10122789973502020768, 10699494962953023727, 12679370825376170234], [3734765759617965538, 2343998043378809589, 3856214677359880619, 17392504170187076981, 3143937250783257807, 382020050843420880, 10122789973502020768, 10699494962953023727], [14453755910715390230, 3734765759617965538, 2343998043378809589, 3856214677359880619, 11047358090977190878, 3143937250783257807, 382020050843420880, 10122789973502020768], [7300046562812009641, 14453755910715390230, 3734765759617965538, 2343998043378809589, 14896214553809290022, 11047358090977190878, 3143937250783257807, 382020050843420880], [15454109661322839671, 7300046562812009641, 14453755910715390230, 3734765759617965538, 2722824510817118883, 14896214553809290022, 11047358090977190878, 3143937250783257807], [1214217921339169270, 15454109661322839671, 7300046562812009641, 14453755910715390230, 11219825219206152094, 2722824510817118883, 14896214553809290022, 11047358090977190878], [8333153794429071794, 1214217921339169270, 15454109661322839671, 7300046562812009641, 15025211954810142423, 11219825219206152094, 2722824510817118883, 14896214553809290022]]
theorem padA_eq : padL [97, 98, 99] = padA := by decide +kernel
theorem chkWA : chkW (fun j => padA.getD j 0) wA = true := by kernel_rfl
theorem chkSA : chkS wA = true := by kernel_rfl
theorem chkXA : chkX roundsL wA XA = true := by kernel_rfl
theorem wordA : foldD (pieceD φr kF) hF (padL [97, 98, 99]) 1 0 = 15974045371385084602 := by
  rw [foldD_succ, padA_eq]
  have e : pieceD φr kF (nU 8 (foldD (pieceD φr kF) hF padA 0)) (fun j => gB (padA.map .u8) (128 * 0 + j)) = pieceD φr (gU64 roundsL) (nU 8 hF) (fun j => padA.getD j 0) := by
    have e2 : (fun j => gB (padA.map .u8) (128 * 0 + j)) = fun j => padA.getD j 0 := funext fun j => by rw [gB_map, Nat.mul_zero, Nat.zero_add]
    rw [e2]; rfl
  rw [e, piece_chk chkWA chkSA (X := XA) (by decide +kernel) chkXA]
  decide +kernel
end Go.Proofs.YtaepfopmicnnbaaDoor

/- What the statements ask of the digests holds. -/
namespace Go.Proofs.YtaepfopmicnnbaaDoor
set_option linter.unusedVariables false
set_option linter.unusedSimpArgs false
open Go Go.Eng
set_option maxRecDepth 1000000
set_option linter.unusedSimpArgs false
set_option linter.unusedVariables false
theorem docR_len (l : List UInt8) : (docR l).length = 64 := by simp [docR, docF]
theorem take4 (f : Nat → UInt8) : ((List.range 64).map f).take 4 = [f 0, f 1, f 2, f 3] := rfl
theorem doc4 {l : List UInt8} {x : UInt64} (hl : (padL l).length / 128 = 1) (hx : foldD (pieceD φr kF) hF (padL l) 1 0 = x) : (docR l).take 4 = [(shr_u64 x 56).toUInt8, (shr_u64 x 48).toUInt8, (shr_u64 x 40).toUInt8, (shr_u64 x 32).toUInt8] := by
  unfold docR docF
  rw [take4, hl]
  obtain ⟨h, hh⟩ : ∃ h, h = foldD (pieceD φr kF) hF (padL l) 1 := ⟨_, rfl⟩
  rw [← hh] at hx ⊢
  have e : ∀ i, i < 4 → outB h i = (shr_u64 x (UInt64.ofNat (56 - i % 8 * 8)).toNat).toUInt8 := fun i hi => by
    unfold outB
    rw [show i / 8 = 0 by omega, hx]
  rw [e 0 (by omega), e 1 (by omega), e 2 (by omega), e 3 (by omega)]
  rfl
theorem docE : (docR []).take 4 = [207, 131, 225, 53] := by
  rw [doc4 (by decide +kernel) wordE]; decide +kernel
theorem docA : (docR [97, 98, 99]).take 4 = [221, 175, 53, 161] := by
  rw [doc4 (by decide +kernel) wordA]; decide +kernel
theorem nkF : nU 80 kF = kF := by
  funext j
  unfold nU kF
  by_cases h : j < 80
  · rw [if_pos h]
  · rw [if_neg h]
    simp only [List.getD, List.getElem?_eq_none (show roundsL.length ≤ j by simp only [roundsL, List.length_cons, List.length_nil]; omega), Option.getD_none]
theorem nS_push (φ : Fr) (g : Nat → UInt64) : ∀ (l : List UInt8) (s : St), nS s = s → nS (pushL φ g s l) = pushL φ g s l
  | [], s, hs => hs
  | x :: l, s, hs => nS_push φ g l (addS φ g s x) (nS_addS ..)
theorem al_true : allT (alOb ωr kF) = true := by
  have e1 : ωr.of = ofS φr := rfl
  have e2 : ωr.add = addsS φr := rfl
  have e3 : ωr.sum = sumS φr := rfl
  have e4 : ωr.new = bS := rfl
  have o1 : ωr.of kF [97, 98, 99] = docR [97, 98, 99] := of_doc _ (by decide)
  have o2 : ωr.of kF [] = docR [] := of_doc _ (by decide)
  have o3 : ωr.sum kF (hst (stC (ωr.add kF (hst (stC (ωr.add kF (hst (stC ωr.new)) [97, 98]))) [99]))) = ωr.of kF [97, 98, 99] := by
    rw [e1, e2, e3, e4]
    simp only [adds_push]
    rw [hstS nS_bS, hstS (nS_push _ _ _ _ nS_bS), hstS (nS_push _ _ _ _ (nS_push _ _ _ _ nS_bS)), ← pushL_append]
    unfold ofS
    rw [adds_push]; rfl
  unfold alOb
  rw [o3, o1, o2, docR_len, docR_len, docE, docA, beq_self_eq_true]
  decide
end Go.Proofs.YtaepfopmicnnbaaDoor
