/- Texts Ci4, Ci5, Ci6, Ci7, Ci8, Eng20: what they show stands ahead of each. -/
import Derived.Test.YthnejkbldfcpiaaV7
import Derived.Test.YthnejkbldfcpiaaV4
import Derived.WalkKit
import Derived.ProofKit
import Derived.OpenShut
import Derived.ShutString
import Derived.ChangeSame
/- The document's Turn. -/
namespace Go.Proofs.Ythnejkbldfcpiaa
set_option linter.unusedVariables false
set_option linter.unusedSimpArgs false
open Go Go.Eng Go.Cha
set_option maxRecDepth 100000
set_option maxHeartbeats 1000000
set_option linter.unusedSimpArgs false
set_option linter.unusedVariables false
noncomputable def p11 : List Code := pieces (bodyOf Try.f11)
noncomputable def L11 : Code := loopOf (p11.getD 9 .skip)
theorem p11_9 : p11[9]? = some (.block 0 (.loop L11)) := by kernel_rfl
def T11 (k n s cur : List UInt8) (c : UInt32) (bl : UInt64) (m i : Nat) : TL := [(0, .str k), (1, .str n), (2, .u32 c), (3, .str s), (8, .str []), (9, .int .i64 0), (17, .bool false), (10, .u64 bl), (27, .bool false), (11, .slice 144 0 m 1), (12, .str cur), (13, .int .i64 (i : Int))]
def S11 (k n s cur L : List UInt8) (c : UInt32) (bl : UInt64) (m i : Nat) : SA := ⟨T11 k n s cur c bl m i, [(144, .cells false (L.map .u8))], 176⟩
def bl11 (m : Nat) : UInt64 := UInt64.ofInt (IntKind.wrap .i64 ((m : Int) + 63)) / UInt64.ofNat (Int.toNat 64)
theorem w11p (φ : Fb) (k n s : List UInt8) (c : UInt32) (F : Nat) : segO (evSO Try.prog (psb φ) (nb φ) [17, 27] Try.f11.ntmps (mask 11) F Try.prog.globals.size (p11.take 9) ⟨startT [.str k, .str n, .u32 c, .str s] 0, [], Try.prog.globals.size⟩ ⟨[false, false], [], []⟩) = some (S11 k n s [] s c (bl11 s.length) s.length 0, [!over c s.length, !!(φ.may k n)]) := by kernel_rfl
theorem w11e (φ : Fb) (k n s : List UInt8) (c : UInt32) : ansO (run1O Try.prog (psb φ) (nb φ) [17, 27] [true] [] (mask 11) 100 11 [.str k, .str n, .u32 c, .str s] [] Try.prog.globals.size) = some (.tup [.str [], .int .i64 2], [!(φ.may k n)]) := by kernel_rfl
theorem w11l (φ : Fb) (k n s : List UInt8) (c : UInt32) : ansO (run1O Try.prog (psb φ) (nb φ) [17, 27] [false, true] [] (mask 11) 100 11 [.str k, .str n, .u32 c, .str s] [] Try.prog.globals.size) = some (.tup [.str [], .int .i64 4], [over c s.length, !!(φ.may k n)]) := by kernel_rfl
def sy11 : List Nat := [33, 38, 46, 200045, 51, 52, 56, 58, 100058, 200035]
theorem r11a (φ : Fb) (k n s cur L cur0 L0 : List UInt8) (c cq : UInt32) (bl : UInt64) (m i F y : Nat) (x : UInt8) : roundO2 Try.prog (psb φ) (nb φ) sy11 [true, true] [.u32 cq, .u8 x, .int .i64 (y : Int)] Try.f11.ntmps (mask 11) F Try.prog.globals.size L11 (S11 k n s cur0 L0 c bl m 0) (S11 k n s cur L c bl m i) =
    some (⟨T11 k n s (blkL φ k n cq) c bl m y, [(144, .cells false (putA (L.map .u8) (0 + ((i : Int).toNat * 1)) (cellsA (.u8 (x ^^^ (blkL φ k n cq).getD (Int.toNat (Int.tmod (i : Int) 64)) 0)))))], 176⟩,
      [eqS (.int .i64 (IntKind.wrap .i64 ((i : Int) + 1))) (.int .i64 (y : Int)), Nat.ble ((0 + ((i : Int).toNat * 1)) + (cellsA (.u8 (x ^^^ (blkL φ k n cq).getD (Int.toNat (Int.tmod (i : Int) 64)) 0))).length) (L.map AVal.u8).length, decide (0 ≤ (i : Int)) && decide ((i : Int) < (m : Int)), decide (0 ≤ Int.tmod (i : Int) 64) && decide (Int.tmod (i : Int) 64 < ((blkL φ k n cq).length : Int)), isAt (L.map .u8) (0 + ((i : Int).toNat * 1)) (.u8 x), decide (0 ≤ (i : Int)) && decide ((i : Int) < (m : Int)), φ.may k n, eqS (.u32 (c + UInt32.ofInt (IntKind.wrap .i64 (Int.tdiv (i : Int) 64)))) (.u32 cq), Int.tmod (i : Int) 64 == 0, decide ((i : Int) < (m : Int))]) := by kernel_rfl
theorem r11b (φ : Fb) (k n s cur L cur0 L0 : List UInt8) (c : UInt32) (bl : UInt64) (m i F y : Nat) (x : UInt8) : roundO2 Try.prog (psb φ) (nb φ) sy11 [true, false] [.u8 x, .int .i64 (y : Int)] Try.f11.ntmps (mask 11) F Try.prog.globals.size L11 (S11 k n s cur0 L0 c bl m 0) (S11 k n s cur L c bl m i) =
    some (⟨T11 k n s cur c bl m y, [(144, .cells false (putA (L.map .u8) (0 + ((i : Int).toNat * 1)) (cellsA (.u8 (x ^^^ cur.getD (Int.toNat (Int.tmod (i : Int) 64)) 0)))))], 176⟩,
      [eqS (.int .i64 (IntKind.wrap .i64 ((i : Int) + 1))) (.int .i64 (y : Int)), Nat.ble ((0 + ((i : Int).toNat * 1)) + (cellsA (.u8 (x ^^^ cur.getD (Int.toNat (Int.tmod (i : Int) 64)) 0))).length) (L.map AVal.u8).length, decide (0 ≤ (i : Int)) && decide ((i : Int) < (m : Int)), decide (0 ≤ Int.tmod (i : Int) 64) && decide (Int.tmod (i : Int) 64 < (cur.length : Int)), isAt (L.map .u8) (0 + ((i : Int).toNat * 1)) (.u8 x), decide (0 ≤ (i : Int)) && decide ((i : Int) < (m : Int)), !(Int.tmod (i : Int) 64 == 0), decide ((i : Int) < (m : Int))]) := by kernel_rfl
theorem x11 (φ : Fb) (k n s cur L : List UInt8) (c : UInt32) (bl : UInt64) (m i F : Nat) : evSO Try.prog (psb φ) (nb φ) [33] Try.f11.ntmps (mask 11) F Try.prog.globals.size [L11] (S11 k n s cur L c bl m i) ⟨[false], [], []⟩ = some (.exit 0, ⟨T11 k n s cur c bl m i ++ [(33, .bool false)], [(144, .cells false (L.map .u8))], 208⟩, ⟨[], [], [!(decide ((i : Int) < (m : Int)))]⟩) := by kernel_rfl
/-! ### what stands behind the loop -/
noncomputable def ops14 : Array Oper := opsOf (p11.getD 10 .skip)
theorem p11d : p11.drop 10 = [.region 14 ops14 false, .ret] := by kernel_rfl
theorem split14 : ∃ o0 o1 o2 o3 : Oper, ops14.toList = [o0, o1, o2, o3] ∧ o1.guard = none ∧ o1.op = .convert 36 9 (.tmp 59) ∧ o1.dst = some 60 ∧
    (∀ (φ : Fb) k n s cur c bl m i (H : HL), stepA Try.prog (nb φ) Try.f11.ntmps ops14 208 o0 (T11 k n s cur c bl m i ++ [(33, .bool false)]) H = some (T11 k n s cur c bl m i ++ [(33, .bool false), (59, .slice 144 0 m 1)], H)) ∧
    (∀ (φ : Fb) k n s cur c bl i (L : List UInt8) (H : HL), runA Try.prog (nb φ) Try.f11.ntmps ops14 [o2, o3] 224 (T11 k n s cur c bl L.length i ++ [(33, .bool false), (59, .slice 144 0 L.length 1), (60, .str L)]) H = some (aset (aset (T11 k n s cur c bl L.length i ++ [(33, .bool false), (59, .slice 144 0 L.length 1), (60, .str L)]) 8 (.str L)) 9 (.int .i64 0), H)) :=
  ⟨ops14[0]!, ops14[1]!, ops14[2]!, ops14[3]!, by kernel_rfl, by kernel_rfl, by kernel_rfl, by kernel_rfl, fun φ k n s cur c bl m i H => by kernel_rfl, fun φ k n s cur c bl i L H => by kernel_rfl⟩
theorem nt11_n : Try.f11.ntmps = 61 := by kernel_rfl
theorem fin11 (L k n s cur : List UInt8) (c : UInt32) (bl : UInt64) (i : Nat) (H : HL) (fr : Nat) : finV Try.prog Try.f11 (some (.ret, ⟨prune (mask 11) (aset (aset (T11 k n s cur c bl L.length i ++ [(33, .bool false), (59, .slice 144 0 L.length 1), (60, .str L)]) 8 (.str L)) 9 (.int .i64 0)), H, fr⟩)) = some (.tup [.str L, .int .i64 0]) := by kernel_rfl
theorem tail11 (φ : Fb) (k n s cur : List UInt8) (c : UInt32) (bl : UInt64) (i F : Nat) (L : List UInt8) : finV Try.prog Try.f11 (evS Try.prog (nb φ) Try.f11.ntmps (mask 11) F Try.prog.globals.size (p11.drop 10) ⟨T11 k n s cur c bl L.length i ++ [(33, .bool false)], [(144, .cells false (L.map .u8))], 208⟩) = some (.tup [.str L, .int .i64 0]) := by
  obtain ⟨o0, o1, o2, o3, h1, h2, h3, h4, h5, h6⟩ := split14
  obtain ⟨e, e1, e2⟩ := u36
  have hc := conv_bytes (P := Try.prog) (cs := nb φ) (nt := Try.f11.ntmps) (base := 216) (ops := ops14) (T := T11 k n s cur c bl L.length i ++ [(33, .bool false), (59, .slice 144 0 L.length 1)]) (T' := T11 k n s cur c bl L.length i ++ [(33, .bool false), (59, .slice 144 0 L.length 1), (60, .str L)]) (H := [(144, .cells false (L.map .u8))]) (n := 144) (m := L.length) (L := L) (ro := false) h2 h3 (by rfl) e1 e2 u9 rfl rfl (by rw [h4, nt11_n]; rfl)
  have hr := runA_cons (h5 φ k n s cur c bl L.length i [(144, .cells false (L.map .u8))]) rfl (runA_cons hc rfl (h6 φ k n s cur c bl i L [(144, .cells false (L.map .u8))]))
  rw [p11d]
  have he : evC Try.prog (nb φ) Try.f11.ntmps (mask 11) F Try.prog.globals.size (.region 14 ops14 false) ⟨T11 k n s cur c bl L.length i ++ [(33, .bool false)], [(144, .cells false (L.map .u8))], 208⟩ = some (.normal, ⟨prune (mask 11) (aset (aset (T11 k n s cur c bl L.length i ++ [(33, .bool false), (59, .slice 144 0 L.length 1), (60, .str L)]) 8 (.str L)) 9 (.int .i64 0)), [(144, .cells false (L.map .u8))], 208 + 8 * ops14.size⟩) := by
    simp only [evC, regA, h1, hr]
  rw [evS, he]
  exact fin11 L k n s cur c bl i _ _
end Go.Proofs.Ythnejkbldfcpiaa

/- Turn, the program's and the document's, as summaries. -/
namespace Go.Proofs.Ythnejkbldfcpiaa
set_option linter.unusedVariables false
set_option linter.unusedSimpArgs false
open Go Go.Eng Go.Cha
set_option maxRecDepth 100000
set_option maxHeartbeats 1000000
set_option linter.unusedSimpArgs false
set_option linter.unusedVariables false
def curOf (k n : List UInt8) (c : UInt32) : Nat → List UInt8
  | 0 => []
  | i + 1 => blkL realFb k n (c + UInt32.ofNat (i / 64))
theorem curOf_eq (k n : List UInt8) (c : UInt32) {i : Nat} (h : ¬ i % 64 = 0) : curOf k n c i = blkL realFb k n (c + UInt32.ofNat (i / 64)) := by
  cases i with
  | zero => exact absurd rfl h
  | succ i =>
    have e : (i + 1) / 64 = i / 64 := by omega
    rw [e]
    rfl
theorem blkL_len (φ : Fb) (k n : List UInt8) (c : UInt32) : (blkL φ k n c).length = 64 := by unfold blkL; simp
theorem blkL_get (φ : Fb) (k n : List UInt8) (c : UInt32) {j : Nat} (h : j < 64) : (blkL φ k n c).getD j 0 = φ.bb k n c j := by
  unfold blkL
  rw [List.getD_eq_getElem?_getD, List.getElem?_map, List.getElem?_range h]; rfl
theorem tmodN (i : Nat) : Int.tmod (i : Int) 64 = ((i % 64 : Nat) : Int) := (Int.ofNat_tmod i 64).symm
theorem tdivN (i : Nat) : Int.tdiv (i : Int) 64 = ((i / 64 : Nat) : Int) := (Int.ofNat_tdiv i 64).symm
def I11 (k n s : List UInt8) (c : UInt32) (i : Nat) : SA := S11 k n s (curOf k n c i) (turnTo (tb k n c) s i) c (bl11 s.length) s.length i
theorem ok11 (k n s cur L : List UInt8) (c : UInt32) (bl : UInt64) (m i : Nat) : okS Try.prog (S11 k n s cur L c bl m i) = true := by
  have h : Nat.ble Try.prog.globals.size 176 = true := by kernel_rfl
  have h2 : ltL 176 (L.map AVal.u8) = true := ltL_u8 176 L
  have h3 : ltH 176 [(144, AObj.cells false (L.map AVal.u8))] = true := by
    simp only [ltH, h2]; rfl
  unfold okS S11
  simp only [h, h3]
  rfl
theorem step11 {k n s : List UInt8} {c : UInt32} (hk : may k n = true) (hs : s.length < 1099511627776) (F : Nat) : ∀ i, i < s.length → roundA (evC Try.prog (nb realFb) Try.f11.ntmps (mask 11) F Try.prog.globals.size L11) (headA Try.prog Try.prog.globals.size (I11 k n s c 0)) (I11 k n s c i) = some (I11 k n s c (i + 1)) := fun i hi => by
  have hli : (turnTo (tb k n c) s i).length = s.length := turnTo_len _ _ _
  have hx : (turnTo (tb k n c) s i)[i]? = some (s.getD i 0) := by rw [turnTo_get _ _ _ _ hi, if_neg (by omega)]
  have ei : 0 + ((i : Int).toNat * 1) = i := by simp
  have q1 : ((turnTo (tb k n c) s i).map AVal.u8)[0 + ((i : Int).toNat * 1)]? = some (.u8 (s.getD i 0)) := by rw [ei, List.getElem?_map, hx]; rfl
  have q2 := isAt_of q1 (by simp [eqS])
  have q3 : ∀ x : UInt8, Nat.ble ((0 + ((i : Int).toNat * 1)) + (cellsA (.u8 x)).length) ((turnTo (tb k n c) s i).map AVal.u8).length = true := fun x => by
    rw [ei, List.length_map, hli]
    exact Nat.ble_eq_true_of_le hi
  have q4 : (decide (0 ≤ (i : Int)) && decide ((i : Int) < (s.length : Int))) = true := by simp; omega
  have q5 : eqS (.int .i64 (IntKind.wrap .i64 ((i : Int) + 1))) (.int .i64 ((i + 1 : Nat) : Int)) = true := wrap_add (x := i) (j := 1) (by omega)
  have q6 : decide ((i : Int) < (s.length : Int)) = true := decide_eq_true (by omega)
  have q0 : decide (0 ≤ (i : Int)) = true := decide_eq_true (by omega)
  have tn : Int.toNat (Int.tmod (i : Int) 64) = i % 64 := by rw [tmodN, Int.toNat_natCast]
  have q7 : ∀ cur : List UInt8, cur.length = 64 → (decide (0 ≤ Int.tmod (i : Int) 64) && decide (Int.tmod (i : Int) 64 < (cur.length : Int))) = true := fun cur hc => by
    rw [tmodN, hc]
    simp only [Bool.and_eq_true, decide_eq_true_eq]
    omega
  have fin : ∀ cur : List UInt8, cur = blkL realFb k n (c + UInt32.ofNat (i / 64)) → (⟨T11 k n s cur c (bl11 s.length) s.length (i + 1), [(144, .cells false (putA ((turnTo (tb k n c) s i).map .u8) (0 + ((i : Int).toNat * 1)) (cellsA (.u8 (s.getD i 0 ^^^ cur.getD (Int.toNat (Int.tmod (i : Int) 64)) 0)))))], 176⟩ : SA) = I11 k n s c (i + 1) := fun cur hc => by
    rw [putA_u8 _ (by rw [hli]; exact hi), tn, hc, blkL_get _ _ _ _ (by omega)]
    rfl
  by_cases h64 : i % 64 = 0
  · have h := r11a realFb k n s (curOf k n c i) (turnTo (tb k n c) s i) (curOf k n c 0) (turnTo (tb k n c) s 0) c (c + UInt32.ofNat (i / 64)) (bl11 s.length) s.length i F (i + 1) (s.getD i 0)
    rw [fin _ rfl] at h
    refine roundO2_ok (nb_ps _) h ?_ (ok11 _ _ _ _ _ _ _ _ _)
    have q8 : (Int.tmod (i : Int) 64 == 0) = true := by rw [tmodN, h64]; rfl
    have q9 : eqS (.u32 (c + UInt32.ofInt (IntKind.wrap .i64 (Int.tdiv (i : Int) 64)))) (.u32 (c + UInt32.ofNat (i / 64))) = true := by
      refine eqS_u32 ?_
      rw [tdivN, wrapI _ (by omega) (by omega), ofInt32]
    have q10 : realFb.may k n = true := hk
    simp only [allT, q2, q3, q0, q5, q6, Bool.and_true, q7 _ (blkL_len realFb k n (c + UInt32.ofNat (i / 64))), q8, q9, q10, cond_true]
  · have hcur := curOf_eq k n c h64
    have h := r11b realFb k n s (curOf k n c i) (turnTo (tb k n c) s i) (curOf k n c 0) (turnTo (tb k n c) s 0) c (bl11 s.length) s.length i F (i + 1) (s.getD i 0)
    rw [fin _ hcur] at h
    refine roundO2_ok (nb_ps _) h ?_ (ok11 _ _ _ _ _ _ _ _ _)
    have q8 : (Int.tmod (i : Int) 64 == 0) = false := by
      rw [tmodN]
      simp only [beq_eq_false_iff_ne, ne_eq]
      omega
    have hl : (curOf k n c i).length = 64 := by rw [hcur, blkL_len]
    simp only [allT, q2, q3, q0, q5, q6, Bool.and_true, q7 _ hl, q8, cond_true, Bool.not_false]
theorem run11 {k n s : List UInt8} {c : UInt32} (hk : may k n = true) (ho : over c s.length = false) (hs : s.length < 1099511627776) : (run1 Try.prog (nb realFb) (mask 11) (s.length + 1) 11 [.str k, .str n, .u32 c, .str s] [] Try.prog.globals.size).map (·.1) = some (.tup [.str (turnTo (tb k n c) s s.length), .int .i64 0]) := by
  have hL : (turnTo (tb k n c) s s.length).length = s.length := turnTo_len _ _ _
  have hp := segO_pre (nb_ps _) (w11p realFb k n s c (s.length + 1)) (by show allT [!over c s.length, !!(may k n)] = true; rw [ho, hk]; rfl)
  have hx := (evSO_ok (nb_ps _) _ _ _ _ _ _ (x11 realFb k n s (curOf k n c s.length) (turnTo (tb k n c) s s.length) c (bl11 s.length) s.length s.length (s.length + 1)) (by simp [allT])).1
  rw [evS_one] at hx
  have ht := tail11 realFb k n s (curOf k n c s.length) c (bl11 s.length) s.length (s.length + 1) (turnTo (tb k n c) s s.length)
  rw [hL] at ht
  exact run_loop (fn := Try.f11) (c := bodyOf Try.f11) (by kernel_rfl) (by kernel_rfl) (by kernel_rfl) 9 p11_9 (I11 k n s c) s.length hp (step11 hk hs _) hx (by omega) ht
/-! ### as summaries -/
def tvR (k n : List UInt8) (c : UInt32) (s : List UInt8) : List UInt8 := cond (may k n) (cond (over c s.length) [] (turnTo (tb k n c) s s.length)) []
def trR (k n : List UInt8) (c : UInt32) (s : List UInt8) : Int := cond (may k n) (cond (over c s.length) 4 0) 2
def shortB (s : List UInt8) : Bool := Nat.ble s.length 1099511627775
theorem call10 (k n s : List UInt8) (c : UInt32) (h : shortB s = true) : CallOk Try.prog 10 [.str k, .str n, .u32 c, .str s] (.pure (.tup [.str (tvR k n c s), .int .i64 (trR k n c s)])) := by
  have hs := Nat.le_of_ble_eq_true h
  unfold tvR trR
  cases hk : may k n
  · exact callOk_val nt10_ok hmix (ansO_run (nt10_ps _) (w10e realFb k n s c) (by show allT [!(may k n)] = true; rw [hk]; rfl)) rfl rfl
  cases ho : over c s.length
  · exact turn_callOk k n s c hk ho (by omega)
  · exact callOk_val nt10_ok hmix (ansO_run (nt10_ps _) (w10l realFb k n s c) (by show allT [over c s.length, !!(may k n)] = true; rw [ho, hk]; rfl)) rfl rfl
theorem call11 (k n s : List UInt8) (c : UInt32) (h : shortB s = true) : CallOk Try.prog 11 [.str k, .str n, .u32 c, .str s] (.pure (.tup [.str (tvR k n c s), .int .i64 (trR k n c s)])) := by
  have hs := Nat.le_of_ble_eq_true h
  unfold tvR trR
  cases hk : may k n
  · exact callOk_val nb_ok hmix (ansO_run (nb_ps _) (w11e realFb k n s c) (by show allT [!(may k n)] = true; rw [hk]; rfl)) rfl rfl
  cases ho : over c s.length
  · exact callOk_val nb_ok hmix (run11 hk ho (by omega)) rfl rfl
  · exact callOk_val nb_ok hmix (ansO_run (nb_ps _) (w11l realFb k n s c) (by show allT [over c s.length, !!(may k n)] = true; rw [ho, hk]; rfl)) rfl rfl
structure Ft where
  tv : List UInt8 → List UInt8 → UInt32 → List UInt8 → List UInt8
  tr : List UInt8 → List UInt8 → UInt32 → List UInt8 → Int
  sh : List UInt8 → Bool
def realFt : Ft := ⟨tvR, trR, shortB⟩
def k10 (φ : Ft) : List AVal → Option (EffA × Bool)
  | [.str a, .str b, .u32 c, .str s] => some (.pure (.tup [.str (φ.tv a b c s), .int .i64 (φ.tr a b c s)]), φ.sh s)
  | _ => none
theorem k10_ok : CSOk Try.prog (csP (psOne 10 (k10 realFt))) := csP_one fun args v he => by
  unfold k10 at he
  split at he
  · rename_i a b c s
    simp only [Option.some.injEq, Prod.mk.injEq] at he
    obtain ⟨rfl, h⟩ := he
    exact call10 a b s c h
  · cases he
theorem k11_ok : CSOk Try.prog (csP (psOne 11 (k10 realFt))) := csP_one fun args v he => by
  unfold k10 at he
  split at he
  · rename_i a b c s
    simp only [Option.some.injEq, Prod.mk.injEq] at he
    obtain ⟨rfl, h⟩ := he
    exact call11 a b s c h
  · cases he
/-! ### alive -/
def zerosB : List UInt8 → Bool
  | [] => true
  | b :: l => cond (Nat.beq b.toNat 0) (zerosB l) false
theorem zerosB_eq : ∀ {l : List UInt8}, zerosB l = true → l = List.replicate l.length 0
  | [], _ => rfl
  | b :: l, h => by
    simp only [zerosB] at h
    cases hb : Nat.beq b.toNat 0 <;> rw [hb] at h <;> simp only [cond_true, cond_false] at h
    · cases h
    · have : b = 0 := UInt8.toNat_inj.1 (Nat.eq_of_beq_eq_true hb)
      rw [this, zerosB_eq h]
      simp [List.replicate_succ]
def lit0 : List UInt8 := [118, 184, 224, 173, 160, 241, 61, 144, 64, 93, 106, 229, 83, 134, 189, 40, 189, 210, 25, 184, 160, 141, 237, 26, 168, 54, 239, 204, 139, 119, 13, 199, 218, 65, 89, 124, 81, 87, 72, 141, 119, 36, 224, 63, 184, 216, 74, 55, 106, 67, 184, 244, 21, 24, 161, 28, 195, 135, 182, 105, 178, 238, 101, 134]
def ga : List AVal → Option EffA
  | [.str k, .str n, .u32 c] => cond (may k n) (cond (zerosB k && zerosB n && Nat.beq c.toNat 0) (some (.pure (.tup [.str lit0, .int .i64 0]))) none) (some (.pure (.tup [.str [], .int .i64 2])))
  | _ => none
theorem ga_ok : CSOk Try.prog (csOne 7 ga) := csOne_ok fun args e he => by
  unfold ga at he
  split at he
  · rename_i k n c
    have hg := k7_ok 7 [.str k, .str n, .u32 c] _ rfl
    have e0 : realFb.may k n = may k n := rfl
    rw [e0] at hg
    cases hm : may k n <;> rw [hm] at he hg <;> simp only [cond_true, cond_false] at he hg
    · cases he; exact hg
    · cases hz : (zerosB k && zerosB n && Nat.beq c.toNat 0) <;> rw [hz] at he <;> simp only [cond_true, cond_false] at he
      · cases he
      · cases he
        simp only [Bool.and_eq_true] at hz
        obtain ⟨h1, h2⟩ := may_true.1 hm
        have hk := zerosB_eq hz.1.1
        have hn := zerosB_eq hz.1.2
        have hc : c = 0 := UInt32.toNat_inj.1 (Nat.eq_of_beq_eq_true hz.2)
        rw [h1] at hk
        rw [h2] at hn
        rw [blkL_real] at hg
        have : block k n c = lit0 := by
          rw [hk, hn, hc]
          exact zero_block
        rw [this] at hg
        exact hg
  · cases he
def k12r : List AVal → Option EffA := k8 realFb
noncomputable def cs3 : CS := inl Try.prog mask 100 (csAlt (csOne 7 ga) (csOne 12 k12r)) 3
theorem cs3_ok : CSOk Try.prog cs3 := inl_ok hmix (csAlt_ok ga_ok k12_ok) 3
theorem run6 : (run1 Try.prog cs3 (mask 6) 100 6 [] [] Try.prog.globals.size).map (·.1) = some (.bool true) := by kernel_rfl
def g6 : List AVal → Option EffA
  | [] => some (.pure (.bool true))
  | _ => none
theorem g6_ok : CSOk Try.prog (csOne 6 g6) := csOne_ok fun args e he => by
  unfold g6 at he
  split at he
  · cases he
    exact callOk_val cs3_ok hmix run6 rfl rfl
  · cases he
def pst (φ : Ft) : PS := psAlt (psOne 10 (k10 φ)) (psOne 11 (k10 φ))
theorem pst_ok : CSOk Try.prog (csP (pst realFt)) := csP_alt k10_ok k11_ok
def ntt (φ : Ft) : CS := csAlt (csP (pst φ)) (csOne 6 g6)
theorem ntt_ok : CSOk Try.prog (ntt realFt) := csAlt_ok pst_ok g6_ok
theorem ntt_ps (φ : Ft) : PSOk (pst φ) (ntt φ) := csP_ok
end Go.Proofs.Ythnejkbldfcpiaa

/- The law on texts that are turned. -/
namespace Go.Proofs.Ythnejkbldfcpiaa
set_option linter.unusedVariables false
set_option linter.unusedSimpArgs false
open Go Go.Eng Go.Cha
set_option maxRecDepth 100000
set_option maxHeartbeats 1000000
set_option linter.unusedSimpArgs false
set_option linter.unusedVariables false
def sy4 : List Nat := [15, 19, 24, 32, 40, 45, 49]
theorem w4a (φ : Ft) (k n s : List UInt8) (c : UInt32) : ansO (run1O Try.prog (pst φ) (ntt φ) sy4 [true] [] (mask 4) 100 4 [.str k, .str n, .u32 c, .str s] [] Try.prog.globals.size) = some (.bool true, [decide ((4096 : Int) < (k.length : Int))]) := by kernel_rfl
theorem w4b (φ : Ft) (k n s : List UInt8) (c : UInt32) : ansO (run1O Try.prog (pst φ) (ntt φ) sy4 [false, true] [] (mask 4) 100 4 [.str k, .str n, .u32 c, .str s] [] Try.prog.globals.size) = some (.bool true, [decide ((4096 : Int) < (n.length : Int)), !(decide ((4096 : Int) < (k.length : Int)))]) := by kernel_rfl
theorem w4c (φ : Ft) (k n s : List UInt8) (c : UInt32) : ansO (run1O Try.prog (pst φ) (ntt φ) sy4 [false, false, true] [] (mask 4) 100 4 [.str k, .str n, .u32 c, .str s] [] Try.prog.globals.size) = some (.bool true, [decide ((4096 : Int) < (s.length : Int)), !(decide ((4096 : Int) < (n.length : Int))), !(decide ((4096 : Int) < (k.length : Int)))]) := by kernel_rfl
theorem w4d (φ : Ft) (k n s : List UInt8) (c : UInt32) : ansO (run1O Try.prog (pst φ) (ntt φ) sy4 [false, false, false, true, true] [] (mask 4) 100 4 [.str k, .str n, .u32 c, .str s] [] Try.prog.globals.size) = some (.bool true, [φ.tr k n c s == φ.tr k n c s, φ.tv k n c s == φ.tv k n c s, φ.sh s, φ.sh s, !(decide ((4096 : Int) < (s.length : Int))), !(decide ((4096 : Int) < (n.length : Int))), !(decide ((4096 : Int) < (k.length : Int)))]) := by kernel_rfl
theorem run4 (k n s : List UInt8) (c : UInt32) : (run1 Try.prog (ntt realFt) (mask 4) 100 4 [.str k, .str n, .u32 c, .str s] [] Try.prog.globals.size).map (·.1) = some (.bool true) := by
  by_cases h1 : (4096 : Int) < (k.length : Int)
  · exact ansO_run (ntt_ps _) (w4a realFt k n s c) (by simp [allT, h1])
  by_cases h2 : (4096 : Int) < (n.length : Int)
  · exact ansO_run (ntt_ps _) (w4b realFt k n s c) (by simp [allT, h1, h2])
  by_cases h3 : (4096 : Int) < (s.length : Int)
  · exact ansO_run (ntt_ps _) (w4c realFt k n s c) (by simp [allT, h1, h2, h3])
  have hs : realFt.sh s = true := Nat.ble_eq_true_of_le (by omega)
  exact ansO_run (ntt_ps _) (w4d realFt k n s c) (by simp only [hs, beq_self_eq_true, decide_eq_false h1, decide_eq_false h2, decide_eq_false h3, allT, cond_true, Bool.not_false])
theorem law4 (k n : List UInt8) (c : UInt32) (s : List UInt8) : CallOk Try.prog 4 [.str k, .str n, .u32 c, .str s] (.pure (.bool true)) := callOk_val ntt_ok hmix (run4 k n s c) rfl rfl
end Go.Proofs.Ythnejkbldfcpiaa

/- The law on what is turned back: plain. -/
namespace Go.Proofs.Ythnejkbldfcpiaa
set_option linter.unusedVariables false
set_option linter.unusedSimpArgs false
open Go Go.Eng Go.Cha
set_option maxRecDepth 100000
set_option maxHeartbeats 1000000
set_option linter.unusedSimpArgs false
set_option linter.unusedVariables false
def trn (k n : List UInt8) (c : UInt32) (s : List UInt8) : List UInt8 := turnTo (tb k n c) s s.length
theorem trn_len (k n : List UInt8) (c : UInt32) (s : List UInt8) : (trn k n c s).length = s.length := turnTo_len _ _ _
theorem trn_get (k n : List UInt8) (c : UInt32) (s : List UInt8) {j : Nat} (h : j < s.length) : (trn k n c s)[j]? = some (s.getD j 0 ^^^ tb k n c j) := by
  unfold trn
  rw [turnTo_get _ _ _ _ h, if_pos h]
theorem xor_back (a b : UInt8) : (a ^^^ b) ^^^ b = a := by
  apply UInt8.toBitVec_inj.1
  simp [BitVec.xor_assoc]
theorem trn_back (k n : List UInt8) (c : UInt32) (s : List UInt8) : trn k n c (trn k n c s) = s := by
  apply List.ext_getElem?
  intro j
  by_cases h : j < s.length
  · rw [trn_get _ _ _ _ (by rw [trn_len]; exact h), List.getD_eq_getElem?_getD, trn_get _ _ _ _ h]
    show some ((s.getD j 0 ^^^ tb k n c j) ^^^ tb k n c j) = s[j]?
    rw [xor_back, List.getD_eq_getElem?_getD, List.getElem?_eq_getElem h]; rfl
  · rw [List.getElem?_eq_none (by rw [trn_len, trn_len]; omega), List.getElem?_eq_none (by omega)]
theorem tb_shift (k n : List UInt8) (c : UInt32) (q i : Nat) : tb k n (c + UInt32.ofNat q) i = tb k n c (64 * q + i) := by
  unfold tb
  rw [show (64 * q + i) / 64 = q + i / 64 by omega, show (64 * q + i) % 64 = i % 64 by omega]
  congr 1
  apply UInt32.toNat_inj.1
  simp
  rw [Nat.add_assoc]
theorem trn_parts (k n : List UInt8) (c : UInt32) (s : List UInt8) {q : Nat} (h : 64 * q ≤ s.length) : trn k n c (s.take (64 * q)) ++ trn k n (c + UInt32.ofNat q) (s.drop (64 * q)) = trn k n c s := by
  apply List.ext_getElem?
  intro j
  have hl : (s.take (64 * q)).length = 64 * q := by rw [List.length_take]; omega
  by_cases h1 : j < 64 * q
  · rw [List.getElem?_append_left (by rw [trn_len, hl]; exact h1), trn_get _ _ _ _ (by rw [hl]; exact h1), trn_get _ _ _ _ (by omega)]
    rw [List.getD_eq_getElem?_getD, List.getElem?_take_of_lt h1, List.getD_eq_getElem?_getD]
  · rw [List.getElem?_append_right (by rw [trn_len, hl]; omega), trn_len, hl]
    by_cases h2 : j < s.length
    · rw [trn_get _ _ _ _ (by rw [List.length_drop]; omega), trn_get _ _ _ _ h2, tb_shift, show 64 * q + (j - 64 * q) = j by omega]
      rw [List.getD_eq_getElem?_getD, List.getElem?_drop, show 64 * q + (j - 64 * q) = j by omega, List.getD_eq_getElem?_getD]
    · rw [List.getElem?_eq_none (by rw [trn_len, List.length_drop]; omega), List.getElem?_eq_none (by rw [trn_len]; omega)]
theorem over_nat (c : UInt32) {m : Nat} (h : m < 1099511627776) : over c m = decide (4294967296 < c.toNat + (m + 63) / 64) := by
  unfold over
  rw [wrapI _ (by omega) (by omega)]
  have e : UInt64.ofInt ((m : Int) + 63) = UInt64.ofNat (m + 63) := by
    rw [show ((m : Int) + 63) = ((m + 63 : Nat) : Int) by omega, ofInt_nat]
  rw [e]
  have hc := c.toNat_lt
  refine decide_eq_decide.2 ?_
  rw [UInt64.lt_iff_toNat_lt, UInt64.toNat_add, UInt64.toNat_div, UInt32.toNat_toUInt64, UInt64.toNat_ofNat', UInt64.toNat_ofNat', UInt64.toNat_ofNat']
  rw [show Int.toNat 64 = 64 from rfl, show Int.toNat 4294967296 = 4294967296 from rfl]
  simp only [Nat.reducePow] at *
  rw [Nat.mod_eq_of_lt (show m + 63 < 18446744073709551616 by omega), Nat.mod_eq_of_lt (show 64 < 18446744073709551616 by omega), Nat.mod_eq_of_lt (show 4294967296 < 18446744073709551616 by omega)]
  rw [Nat.mod_eq_of_lt (by omega)]
/-- Where the text is cut. -/
def kE (s : List UInt8) (cut : Int) : Int := if (IntKind.wrap .i64 ((IntKind.wrap .i64 (Int.tdiv (s.length : Int) 64)) * 64)) < (IntKind.wrap .i64 ((IntKind.wrap .i64 (((BitVec.ofInt (IntKind.bits .i64) cut &&& BitVec.ofInt (IntKind.bits .i64) 255).toNat : Nat) : Int)) * 64)) then (IntKind.wrap .i64 ((IntKind.wrap .i64 (Int.tdiv (s.length : Int) 64)) * 64)) else (IntKind.wrap .i64 ((IntKind.wrap .i64 (((BitVec.ofInt (IntKind.bits .i64) cut &&& BitVec.ofInt (IntKind.bits .i64) 255).toNat : Nat) : Int)) * 64))
theorem and255 (x : BitVec (IntKind.bits .i64)) : (x &&& BitVec.ofInt (IntKind.bits .i64) 255).toNat ≤ 255 := by
  rw [BitVec.toNat_and]
  exact Nat.le_trans Nat.and_le_right (by decide)
theorem kE_ok (s : List UInt8) (cut : Int) (h : s.length ≤ 4096) : ∃ q : Nat, kE s cut = ((64 * q : Nat) : Int) ∧ 64 * q ≤ s.length := by
  unfold kE
  have ha := and255 (BitVec.ofInt (IntKind.bits .i64) cut)
  generalize (BitVec.ofInt (IntKind.bits .i64) cut &&& BitVec.ofInt (IntKind.bits .i64) 255).toNat = a at ha ⊢
  rw [tdivN, wrapI ((s.length / 64 : Nat) : Int) (by omega) (by omega), wrapI (a : Int) (by omega) (by omega), wrapI (((s.length / 64 : Nat) : Int) * 64) (by omega) (by omega), wrapI ((a : Int) * 64) (by omega) (by omega)]
  by_cases hlt : ((s.length / 64 : Nat) : Int) * 64 < (a : Int) * 64
  · rw [if_pos hlt]
    exact ⟨s.length / 64, by omega, by omega⟩
  · rw [if_neg hlt]
    exact ⟨a, by omega, by omega⟩
/-! ### the law's runs -/
def sy5 : List Nat := [22, 26, 31, 39, 43, 45, 48, 59, 69, 73, 77, 84, 200093, 100, 101, 200111, 114, 115, 119, 123, 124, 127, 131, 133, 139, 140, 144]
def b5 (φ : Ft) (k n s : List UInt8) : List Bool := [!(decide ((4096 : Int) < (s.length : Int))), !((n.length : Int) != 12), !((k.length : Int) != 32)]
def pA (s : List UInt8) (kk : Nat) : List UInt8 := List.drop (Int.toNat 0) (List.take (Int.toNat (kk : Int)) s)
def pZ (s : List UInt8) (kk : Nat) : List UInt8 := List.drop (Int.toNat (kk : Int)) (List.take (Int.toNat (s.length : Int)) s)
def sl1 (s : List UInt8) (kk : Nat) : Bool := decide (0 ≤ (0 : Int)) && (decide (0 ≤ (kk : Int)) && decide ((kk : Int) ≤ (s.length : Int)))
def sl2 (s : List UInt8) (kk : Nat) : Bool := decide (0 ≤ (kk : Int)) && (decide ((kk : Int) ≤ (s.length : Int)) && decide ((s.length : Int) ≤ (s.length : Int)))
def m5 (φ : Ft) (k n s : List UInt8) (c cq : UInt32) (cut : Int) (kk : Nat) : List Bool :=
  [!(φ.tr k n c (pA s kk) != 0), φ.sh (pZ s kk), sl2 s kk, eqS (.u32 (c + UInt32.ofInt (IntKind.wrap .i64 (Int.tdiv (kk : Int) 64)))) (.u32 cq), φ.sh (pA s kk), sl1 s kk, eqS (.int .i64 (kE s cut)) (.int .i64 (kk : Int)),
   !(((φ.tv k n c s).length : Int) != (s.length : Int)), !!(φ.tv k n c (φ.tv k n c s) == s), !(φ.tr k n c (φ.tv k n c s) != 0), φ.sh (φ.tv k n c s), !(φ.tr k n c s != 0), φ.sh s] ++ b5 φ k n s
theorem w5a (φ : Ft) (k n s : List UInt8) (c : UInt32) (cut : Int) : ansO (run1O Try.prog (pst φ) (ntt φ) sy5 [true] [] (mask 5) 100 5 [.str k, .str n, .u32 c, .str s, .int .i64 cut] [] Try.prog.globals.size) = some (.bool true, [((k.length : Int) != 32)]) := by kernel_rfl
theorem w5b (φ : Ft) (k n s : List UInt8) (c : UInt32) (cut : Int) : ansO (run1O Try.prog (pst φ) (ntt φ) sy5 [false, true] [] (mask 5) 100 5 [.str k, .str n, .u32 c, .str s, .int .i64 cut] [] Try.prog.globals.size) = some (.bool true, [((n.length : Int) != 12), !((k.length : Int) != 32)]) := by kernel_rfl
theorem w5c (φ : Ft) (k n s : List UInt8) (c : UInt32) (cut : Int) : ansO (run1O Try.prog (pst φ) (ntt φ) sy5 [false, false, true] [] (mask 5) 100 5 [.str k, .str n, .u32 c, .str s, .int .i64 cut] [] Try.prog.globals.size) = some (.bool true, [decide ((4096 : Int) < (s.length : Int)), !((n.length : Int) != 12), !((k.length : Int) != 32)]) := by kernel_rfl
theorem w5e (φ : Ft) (k n s : List UInt8) (c : UInt32) (cut : Int) : ansO (run1O Try.prog (pst φ) (ntt φ) sy5 [false, false, false, true, true, true, true] [] (mask 5) 100 5 [.str k, .str n, .u32 c, .str s, .int .i64 cut] [] Try.prog.globals.size) = some (.bool true, [over c s.length, φ.tr k n c s == 4, φ.tv k n c s == [], φ.tr k n c s != 0, φ.sh s] ++ b5 φ k n s) := by kernel_rfl
theorem w5m (φ : Ft) (k n s : List UInt8) (c cq : UInt32) (cut : Int) (kk : Nat) : ansO (run1O Try.prog (pst φ) (ntt φ) sy5 [false, false, false, false, false, false, false, false, true, false, false, true] [.int .i64 (kk : Int), .u32 cq] (mask 5) 100 5 [.str k, .str n, .u32 c, .str s, .int .i64 cut] [] Try.prog.globals.size) =
    some (.bool true, [!(pZ s kk == []), sl2 s kk, !!(φ.tv k n c (pA s kk) ++ φ.tv k n cq (pZ s kk) == φ.tv k n c s), Nat.ble ((φ.tv k n c (pA s kk)).length + (φ.tv k n cq (pZ s kk)).length) 9223372036854775807, !(φ.tr k n cq (pZ s kk) != 0), !(pZ s kk == []), sl2 s kk] ++ m5 φ k n s c cq cut kk) := by kernel_rfl
theorem w5n (φ : Ft) (k n s : List UInt8) (c cq : UInt32) (cut : Int) (kk : Nat) : ansO (run1O Try.prog (pst φ) (ntt φ) sy5 [false, false, false, false, false, false, false, false, false, false, true] [.int .i64 (kk : Int), .u32 cq] (mask 5) 100 5 [.str k, .str n, .u32 c, .str s, .int .i64 cut] [] Try.prog.globals.size) =
    some (.bool true, [φ.tv k n c (pA s kk) == φ.tv k n c s, !!(pZ s kk == []), sl2 s kk, !!(pZ s kk == []), sl2 s kk] ++ m5 φ k n s c cq cut kk) := by kernel_rfl
end Go.Proofs.Ythnejkbldfcpiaa

/- The law on what is turned back. -/
namespace Go.Proofs.Ythnejkbldfcpiaa
set_option linter.unusedVariables false
set_option linter.unusedSimpArgs false
open Go Go.Eng Go.Cha
set_option maxRecDepth 100000
set_option maxHeartbeats 1000000
set_option linter.unusedSimpArgs false
set_option linter.unusedVariables false
theorem tv_of {k n : List UInt8} {c : UInt32} {s : List UInt8} (hk : may k n = true) (ho : over c s.length = false) : realFt.tv k n c s = trn k n c s ∧ realFt.tr k n c s = 0 := by
  show tvR k n c s = _ ∧ trR k n c s = 0
  unfold tvR trR
  rw [hk, ho]
  exact ⟨rfl, rfl⟩
theorem pA_eq (s : List UInt8) (kk : Nat) : pA s kk = s.take kk := by
  unfold pA
  rw [Int.toNat_natCast]; rfl
theorem pZ_eq (s : List UInt8) (kk : Nat) : pZ s kk = s.drop kk := by
  unfold pZ
  rw [Int.toNat_natCast, Int.toNat_natCast, List.take_length]
theorem run5 (k n s : List UInt8) (c : UInt32) (cut : Int) : (run1 Try.prog (ntt realFt) (mask 5) 100 5 [.str k, .str n, .u32 c, .str s, .int .i64 cut] [] Try.prog.globals.size).map (·.1) = some (.bool true) := by
  by_cases h1 : k.length = 32
  case neg =>
    have e : ((k.length : Int) != 32) = true := by simp only [bne_iff_ne, ne_eq]; omega
    exact ansO_run (ntt_ps _) (w5a realFt k n s c cut) (by rw [e]; rfl)
  have e1 : ((k.length : Int) != 32) = false := by rw [h1]; rfl
  by_cases h2 : n.length = 12
  case neg =>
    have e : ((n.length : Int) != 12) = true := by simp only [bne_iff_ne, ne_eq]; omega
    exact ansO_run (ntt_ps _) (w5b realFt k n s c cut) (by rw [e, e1]; rfl)
  have e2 : ((n.length : Int) != 12) = false := by rw [h2]; rfl
  by_cases h3 : (4096 : Int) < (s.length : Int)
  · exact ansO_run (ntt_ps _) (w5c realFt k n s c cut) (by rw [e1, e2, decide_eq_true h3]; rfl)
  have e3 := decide_eq_false h3
  have hs : s.length ≤ 4096 := by omega
  have hk : may k n = true := may_true.2 ⟨h1, h2⟩
  have hsh : ∀ t : List UInt8, t.length ≤ 4096 → realFt.sh t = true := fun t ht => Nat.ble_eq_true_of_le (by omega)
  cases ho : over c s.length
  case true =>
    have t1 : realFt.tv k n c s = [] := by show tvR k n c s = []; unfold tvR; rw [hk, ho]; rfl
    have t2 : realFt.tr k n c s = 4 := by show trR k n c s = 4; unfold trR; rw [hk, ho]; rfl
    refine ansO_run (ntt_ps _) (w5e realFt k n s c cut) ?_
    rw [t1, t2, ho, hsh s hs]
    unfold b5
    rw [e1, e2, e3]
    rfl
  have hon := ho
  rw [over_nat c (by omega)] at hon
  have hon := of_decide_eq_false hon
  obtain ⟨a1, a2⟩ := tv_of hk ho
  have la : (trn k n c s).length = s.length := trn_len k n c s
  obtain ⟨b1, b2⟩ := tv_of (s := trn k n c s) hk (by rw [la]; exact ho)
  rw [trn_back] at b1
  obtain ⟨q, q1, q2⟩ := kE_ok s cut hs
  have lA : (pA s (64 * q)).length = 64 * q := by rw [pA_eq, List.length_take]; omega
  have lZ : (pZ s (64 * q)).length = s.length - 64 * q := by rw [pZ_eq, List.length_drop]
  obtain ⟨c1, c2⟩ := tv_of (s := pA s (64 * q)) (c := c) hk (by
    rw [lA, over_nat c (by omega)]
    refine decide_eq_false ?_
    omega)
  have x1 : sl1 s (64 * q) = true := by unfold sl1; simp only [Bool.and_eq_true, decide_eq_true_eq]; omega
  have x2 : sl2 s (64 * q) = true := by unfold sl2; simp only [Bool.and_eq_true, decide_eq_true_eq]; omega
  have x3 : eqS (.int .i64 (kE s cut)) (.int .i64 ((64 * q : Nat) : Int)) = true := by rw [q1]; simp [eqS]
  have x4 := block_no (c := c) (q := q) (by omega)
  have x5 : (((trn k n c s).length : Int) != (s.length : Int)) = false := by rw [la]; simp
  have hm : allT (m5 realFt k n s c (c + UInt32.ofNat q) cut (64 * q)) = true := by
    unfold m5 b5
    rw [a1, a2, b1, b2, c2, hsh s hs, hsh _ (show (pA s (64 * q)).length ≤ 4096 by omega), hsh _ (show (pZ s (64 * q)).length ≤ 4096 by omega), hsh (trn k n c s) (by omega), x1, x2, x3, x4, x5, e1, e2, e3]
    simp [allT]
  have app : ∀ (l m : List Bool), allT l = true → allT m = true → allT (l ++ m) = true := fun l => by
    induction l with
    | nil => intro m _ h; exact h
    | cons b l ih =>
      intro m h h'
      obtain ⟨g1, g2⟩ := allT_cons h
      show cond b (allT (l ++ m)) false = true
      rw [g1, ih m g2 h']; rfl
  cases hz : (pZ s (64 * q) == [])
  · refine ansO_run (ntt_ps _) (w5m realFt k n s c (c + UInt32.ofNat q) cut (64 * q)) (app _ _ ?_ hm)
    have hne : pZ s (64 * q) ≠ [] := by
      intro e
      rw [e] at hz
      cases hz
    have hpos : 0 < s.length - 64 * q := by
      rw [← lZ]
      exact List.length_pos_iff.2 hne
    have hcq : (c + UInt32.ofNat q).toNat = c.toNat + q := by
      have hc := c.toNat_lt
      rw [UInt32.toNat_add, UInt32.toNat_ofNat']
      simp only [Nat.reducePow] at *
      rw [Nat.mod_eq_of_lt (show q < 4294967296 by omega), Nat.mod_eq_of_lt (by omega)]
    obtain ⟨d1, d2⟩ := tv_of (s := pZ s (64 * q)) (c := c + UInt32.ofNat q) hk (by
      rw [lZ, over_nat _ (by omega), hcq]
      refine decide_eq_false ?_
      omega)
    have hj : trn k n c (pA s (64 * q)) ++ trn k n (c + UInt32.ofNat q) (pZ s (64 * q)) = trn k n c s := by
      rw [pA_eq, pZ_eq]
      exact trn_parts k n c s q2
    rw [c1, d1, d2, a1, hj, hz, x2, trn_len, trn_len, lA, lZ]
    have hb : Nat.ble (64 * q + (s.length - 64 * q)) 9223372036854775807 = true := Nat.ble_eq_true_of_le (by omega)
    rw [hb]
    simp [allT]
  · refine ansO_run (ntt_ps _) (w5n realFt k n s c (c + UInt32.ofNat q) cut (64 * q)) (app _ _ ?_ hm)
    have hnil : pZ s (64 * q) = [] := by simpa using hz
    have hl : s.length - 64 * q = 0 := by rw [← lZ, hnil]; rfl
    have hA : pA s (64 * q) = s := by rw [pA_eq, List.take_of_length_le (by omega)]
    rw [hz, x2, hA]
    simp [allT]
theorem law5 (k n : List UInt8) (c : UInt32) (s : List UInt8) (cut : Int) : CallOk Try.prog 5 [.str k, .str n, .u32 c, .str s, .int .i64 cut] (.pure (.bool true)) := callOk_val ntt_ok hmix (run5 k n s c cut) rfl rfl
end Go.Proofs.Ythnejkbldfcpiaa

/- Engine, part 20: from a law's answer to the row. -/
namespace Go.Eng
set_option linter.unusedVariables false
set_option linter.unusedSimpArgs false
open Go Go.WideShapes Go.ChangeShapes
theorem post_of_grew {H : Type} {enc : TypeId × Value → H} {P : Program} {f : Func} {s : ChangeSpec} {apart fresh handsOn again : Bool} {W W' : World} {args : Array Value} {v : Value} {ds gs : List (DataW H)} {before pa pv : List MemPlace}
    (hW : DataW.Whole enc P f.params.toList s.vars apart W args.toList ds gs before)
    (hres : ∀ (b : Nat) (sp : Nat → Bool) (hd : Bool), DataW.TrodAll enc P W' b sp hd f.resultTypes.toList (v.resultList f.resultTypes.size) (s.fn H (ds ++ gs)).results [])
    (hargs : ∀ sp : Nat → Bool, (∀ p ∈ before, sp p.block = true) → DataW.TrodAll enc P W' 0 sp true f.params.toList args.toList (s.fn H (ds ++ gs)).args pa)
    (hvars : ∀ sp : Nat → Bool, (∀ p ∈ before, sp p.block = true) → DataW.TrodVars enc P W' sp s.vars (s.fn H (ds ++ gs)).vars pv)
    (hps : before = pa ++ pv) (hg : Grew W W')
    (hok : ∀ (j : Nat) (t : TypeId) (r : Value), f.resultTypes[j]? = some t → (v.resultList f.resultTypes.size)[j]? = some r → Value.okWide P W' .any 0 t r) :
    s.post enc P f apart fresh handsOn again W args v W' := by
  have hlt := hW.lt
  have hold : ∀ p ∈ before, (fun b => decide (b < W.heap.size)) p.block = true := fun p hp => by simpa using hlt p hp
  refine ⟨ds, gs, before, [], pa, pv, hW, hres _ _ _, hargs _ hold, hvars _ hold, World.keptBut_mono (fun p hp => hp.elim) hg.1, fun _ => ?_⟩
  obtain ⟨_, _, _, _, _, hz, hn⟩ := hW
  have hmem : ∀ p, p ∈ ([] ++ pa) ++ pv → p ∈ before := fun p hp => by rw [hps]; simpa using hp
  refine ⟨hok, _, _, ([] ++ pa) ++ pv, ⟨[] ++ pa, pv, trodAll_append (hargs _ (fun _ _ => rfl)) (hres _ _ _), hvars _ (fun _ _ => rfl), rfl, fun b off hp => ?_, fun ha => ?_⟩, fun p hp _ => ?_⟩
  · have hb := hmem _ hp
    rw [hg.2.1 ⟨b, off, none⟩ (hlt _ hb)]
    exact hz b off hb
  · have := hn ha
    rw [hps] at this
    simpa using this
  · exact hmem _ hp
/-! ### the arguments -/
theorem vr_str (σ : Sig) (a : ByteArray) : VR σ (.str a.data.toList) (.string a) := by
  have := VR.str (σ := σ) a.data.toList
  rwa [Array.toArray_toList] at this
theorem wf_le {k : IntKind} {n : Int} (h : (Lit.int k n).wf = true) : k.min ≤ n ∧ n ≤ k.max := by
  simpa only [Lit.wf, Bool.and_eq_true, decide_eq_true_eq] using h
theorem vr_u8 {a : Int} (h : (Lit.int .u8 a).wf = true) : ∃ x : UInt8, ∀ σ, VR σ (.u8 x) (.int .u8 a) := by
  have h' := wf_le h
  have h1 : (0 : Int) ≤ a := h'.1
  have h2 : a ≤ 255 := h'.2
  refine ⟨UInt8.ofNat a.toNat, fun σ => ?_⟩
  have e : ((UInt8.ofNat a.toNat).toNat : Int) = a := by rw [UInt8.toNat_ofNat_of_lt' (show a.toNat < 256 by omega)]; omega
  have := VR.u8 (σ := σ) (UInt8.ofNat a.toNat)
  rwa [e] at this
theorem vr_u32 {a : Int} (h : (Lit.int .u32 a).wf = true) : ∃ x : UInt32, ∀ σ, VR σ (.u32 x) (.int .u32 a) := by
  have h' := wf_le h
  have h1 : (0 : Int) ≤ a := h'.1
  have h2 : a ≤ 4294967295 := h'.2
  refine ⟨UInt32.ofNat a.toNat, fun σ => ?_⟩
  have e : ((UInt32.ofNat a.toNat).toNat : Int) = a := by rw [UInt32.toNat_ofNat_of_lt' (show a.toNat < 4294967296 by omega)]; omega
  have := VR.u32 (σ := σ) (UInt32.ofNat a.toNat)
  rwa [e] at this
theorem vr_u64 {a : Int} (h : (Lit.int .u64 a).wf = true) : ∃ x : UInt64, ∀ σ, VR σ (.u64 x) (.int .u64 a) := by
  have h' := wf_le h
  have h1 : (0 : Int) ≤ a := h'.1
  have h2 : a ≤ 18446744073709551615 := h'.2
  refine ⟨UInt64.ofNat a.toNat, fun σ => ?_⟩
  have e : ((UInt64.ofNat a.toNat).toNat : Int) = a := by rw [UInt64.toNat_ofNat_of_lt' (show a.toNat < 18446744073709551616 by omega)]; omega
  have := VR.u64 (σ := σ) (UInt64.ofNat a.toNat)
  rwa [e] at this
end Go.Eng
