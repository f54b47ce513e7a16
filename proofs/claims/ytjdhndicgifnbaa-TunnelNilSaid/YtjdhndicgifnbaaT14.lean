/- Texts Td5, Td6, Td7, Td8, Td9, TAe9, Te1, Te2, Eng20: what they show stands ahead of each. -/
import Derived.Test.YtjdhndicgifnbaaT13
import Derived.Test.YtjdhndicgifnbaaT12
import Derived.Test.YtjdhndicgifnbaaT4
import Derived.WalkKit
import Derived.ProofKit
import Derived.OpenShut
import Derived.ShutString
import Derived.ChangeSame
/- Tunnels of the document: windows: may a number be marked? -/
namespace Go.Proofs.Ytjdhndicgifnbaa.Tun
set_option linter.unusedVariables false
set_option linter.unusedSimpArgs false
open Go Go.Eng Go.Proofs.Ytjdhndicgifnbaa Go.Proofs.Ytjdhndicgifnbaa.Pol
set_option maxRecDepth 100000
set_option maxHeartbeats 1000000
set_option linter.unusedSimpArgs false
set_option linter.unusedVariables false
theorem mRoM {val : Dn → AVal} {ok : Dn → Bool} {c : Dc} {L : List UInt64} {base : Nat} (hL : L ≠ []) (hb : nodupB [0, 1] = true) (ho : ok (c, L) = true) : mOb (roD 0 val ok) base (hM c L) (val (c, L)) (hM c L) = true := by
  refine decP_of ?_
  cases L with
  | nil => exact absurd rfl hL
  | cons a l =>
    unfold roD
    rw [effF_app (w := 0) (H := hM c (a :: l)) (O := obD) (O2 := obD) (ns := [0, 1]) (s := (c, a :: l)) (findD_at (t := 0) (m := 1) (L := a :: l) rfl (fun a' l' e => by cases e; rfl)) hb ho]
    rfl
theorem mRoN {val : Dn → AVal} {ok : Dn → Bool} {c : Dc} {base : Nat} (hb : nodupB [0] = true) (ho : ok (c, []) = true) : mOb (roD 0 val ok) base (hN c) (val (c, [])) (hN c) = true := by
  refine decP_of ?_
  unfold roD
  rw [effF_app (w := 0) (H := hN c) (O := obD) (O2 := obD) (ns := [0]) (s := (c, [])) (findD_at (t := 0) (m := 1) (L := []) rfl (fun a' l' e => by cases e)) hb ho]
  rfl
noncomputable def o73 (base : Nat) (c : Dc) (L : List UInt64) (x : UInt64) : Bool := mOb (roD 0 highD lenOk) base (hM c L) (.tup [.u64 x, .bool true]) (hM c L)
noncomputable def o73n (base : Nat) (c : Dc) : Bool := mOb (roD 0 highD lenOk) base (hN c) (.tup [.u64 0, .bool false]) (hN c)
theorem o73_ok {base : Nat} {c : Dc} {L : List UInt64} (hL : L ≠ []) (h : lenOk (c, L) = true) : o73 base c L (maxU L) = true := by
  have := mRoM (val := highD) (ok := lenOk) (c := c) (L := L) (base := base) hL rfl h
  cases L with
  | nil => exact absurd rfl hL
  | cons a l => exact this
theorem o73n_ok {base : Nat} {c : Dc} : o73n base c = true := mRoN (val := highD) (ok := lenOk) (c := c) (base := base) rfl rfl
def cs57 : CS := csOne 73 g73
def sy57 : List Nat := [300010, 13, 17, 28, 36, 44, 45, 47, 200038]
def bkM (c : Dc) (L : List UInt64) : AVal := .tup [.ptr 0 0, .agg (cD (.slice 1 0 L.length 1) c), .ptr 1 0, .agg (L.map .u64)]
def bkN1 (c : Dc) : AVal := .tup [.ptr 0 0, .agg (cD .nilSlice c)]
noncomputable def L57 : Code := loopOf ((pieces (bodyOf Try.f57)).getD 5 .skip)
def S57 (c : Dc) (L : List UInt64) (n x : UInt64) (i : Nat) : SA := ⟨[(0, .ptr 0 10), (1, .u64 n), (4, .int .i64 0), (5, .u64 x), (6, .bool true), (29, .bool false), (7, .int .i64 (i : Int))], hM c L, 216⟩
section
variable (c : Dc) (L : List UInt64) (n x y : UInt64) (i j F : Nat)
theorem p57_5 : (pieces (bodyOf Try.f57))[5]? = some (.block 0 (.loop L57)) := by kernel_rfl
theorem w57n : ansM [0] (run1O Try.prog noPS cs57 sy57 [false] [.tup [.u64 0, .bool false], bkN1 c] (mask 57) 100 57 [.ptr 0 10, .u64 n] (hN c) 8) = some (.int .i64 0, oN c, [true, o73n 24 c]) := by kernel_rfl
theorem w57o : ansM [0, 1] (run1O Try.prog noPS cs57 sy57 [true, true, true] [.tup [.u64 x, .bool true], bkM c L] (mask 57) 100 57 [.ptr 0 10, .u64 n] (hM c L) 8) = some (.int .i64 170, oM c L, [decide (UInt64.ofInt c.size ≤ x - n), decide (n < x), true, o73 24 c L x]) := by kernel_rfl
theorem w57p : segO (evSO Try.prog noPS cs57 sy57 Try.f57.ntmps (mask 57) (F + 100) 8 ((pieces (bodyOf Try.f57)).take 5) ⟨startT [.ptr 0 10, .u64 n] 0, hM c L, 8⟩ ⟨[true, true, false], [.tup [.u64 x, .bool true], bkM c L], []⟩) = some (S57 c L n x 0, [!decide (UInt64.ofInt c.size ≤ x - n), decide (n < x), true, o73 24 c L x]) := by kernel_rfl
theorem w57q : segO (evSO Try.prog noPS cs57 sy57 Try.f57.ntmps (mask 57) (F + 100) 8 ((pieces (bodyOf Try.f57)).take 5) ⟨startT [.ptr 0 10, .u64 n] 0, hM c L, 8⟩ ⟨[true, false], [.tup [.u64 x, .bool true], bkM c L], []⟩) = some (S57 c L n x 0, [!decide (n < x), true, o73 24 c L x]) := by kernel_rfl
theorem w57r : roundO2 Try.prog noPS cs57 sy57 [true, false] [.u64 y, .int .i64 (j : Int)] Try.f57.ntmps (mask 57) F 8 L57 (S57 c L n x 0) (S57 c L n x i) = some (S57 c L n x j, [eqS (.int .i64 (IntKind.wrap .i64 ((i : Int) + 1))) (.int .i64 (j : Int)), !(y == n), isAt (L.map .u64) (0 + (Int.toNat (i : Int)) * 1) (.u64 y), decide (0 ≤ (i : Int)) && decide ((i : Int) < (L.length : Int)), decide ((i : Int) < (L.length : Int))]) := by kernel_rfl
theorem w57f : endM Try.prog noPS cs57 sy57 Try.f57 [0, 1] (mask 57) F 8 0 L57 ((pieces (bodyOf Try.f57)).drop 6) (S57 c L n x i) ⟨[true, true], [.u64 y], []⟩ = some (.int .i64 9, oM c L, [y == n, isAt (L.map .u64) (0 + (Int.toNat (i : Int)) * 1) (.u64 y), decide (0 ≤ (i : Int)) && decide ((i : Int) < (L.length : Int)), decide ((i : Int) < (L.length : Int))]) := by kernel_rfl
theorem w57e : endM Try.prog noPS cs57 sy57 Try.f57 [0, 1] (mask 57) F 8 0 L57 ((pieces (bodyOf Try.f57)).drop 6) (S57 c L n x i) ⟨[false], [], []⟩ = some (.int .i64 0, oM c L, [!decide ((i : Int) < (L.length : Int))]) := by kernel_rfl
theorem ok57 : okS Try.prog (S57 c L n x i) = true := okM c L (by kernel_rfl) rfl rfl
end
/-- What the document says of a number. -/
def mayR (n : UInt64) : Dn → Int
  | (_, []) => 0
  | (c, L) => cond (decide (n < maxU L) && decide (UInt64.ofInt c.size ≤ maxU L - n)) 170 (cond (L.contains n) 9 0)
theorem first_at_n {L : List UInt64} {n : UInt64} (h : L.contains n = true) : ∃ N, N < L.length ∧ L.getD N 0 = n ∧ ∀ i, i < N → L.getD i 0 ≠ n := by
  induction L with
  | nil => simp at h
  | cons a l ih =>
    by_cases e : a = n
    · subst e; exact ⟨0, by simp, rfl, fun i hi => by omega⟩
    · have h' : l.contains n = true := by
        rw [List.contains_cons] at h
        have : (n == a) = false := by simpa using fun h => e h.symm
        rw [this, Bool.false_or] at h; exact h
      obtain ⟨N, h1, h2, h3⟩ := ih h'
      refine ⟨N + 1, by simpa using h1, h2, fun i hi => ?_⟩
      cases i with
      | zero => exact e
      | succ i => exact h3 i (by omega)
theorem none_at_n {L : List UInt64} {n : UInt64} (h : L.contains n = false) {i : Nat} (hi : i < L.length) : L.getD i 0 ≠ n := by
  intro e
  rw [List.getD_eq_getElem?_getD, List.getElem?_eq_getElem hi] at e
  have e : L[i] = n := e
  have : L.contains n = true := by
    rw [List.contains_iff_mem, ← e]; exact List.getElem_mem hi
  rw [h] at this; cases this
theorem loop57 (c : Dc) (L : List UInt64) (n x : UInt64) (hl : L.length < 1000000000) {F : Nat} (hF : L.length < F) : finM Try.prog Try.f57 [0, 1] (evS Try.prog cs57 Try.f57.ntmps (mask 57) F 8 ((pieces (bodyOf Try.f57)).drop 5) (S57 c L n x 0)) = some (.int .i64 (cond (L.contains n) 9 0), oM c L) := by
  have step : ∀ N, N ≤ L.length → (∀ i, i < N → L.getD i 0 ≠ n) → ∀ i, i < N → roundA (evC Try.prog cs57 Try.f57.ntmps (mask 57) F 8 L57) (headA Try.prog 8 (S57 c L n x 0)) (S57 c L n x i) = some (S57 c L n x (i + 1)) := fun N hN hne i hi => by
    have hiL : i < L.length := by omega
    have r := w57r c L n x (L.getD i 0) i (i + 1) F
    have : (!(L.getD i 0 == n)) = true := by simpa using hne i hi
    exact roundO2_ok (noPS_ok _) r (allT_c (eqI1 (by omega)) (allT_c this (allT_c (isAt_u64 hiL) (allT_c (inI hiL) (allT_c (ltI hiL) rfl))))) (ok57 c L n x _)
  cases hc : L.contains n with
  | true =>
    obtain ⟨N, h1, h2, h3⟩ := first_at_n hc
    have e := w57f c L n x (L.getD N 0) N F
    exact loopM (noPS_ok _) 5 p57_5 (fun i => S57 c L n x i) N (step N (by omega) h3) e (allT_c (by rw [h2]; exact beq_self_eq_true n) (allT_c (isAt_u64 h1) (allT_c (inI h1) (allT_c (ltI h1) rfl)))) (by omega)
  | false =>
    have e := w57e c L n x L.length F
    have : decide ((L.length : Int) < (L.length : Int)) = false := by simp
    exact loopM (noPS_ok _) 5 p57_5 (fun i => S57 c L n x i) L.length (step L.length (Nat.le_refl _) (fun i hi => none_at_n hc hi)) e (allT_c (by rw [this]; rfl) rfl) hF
theorem run57 (c : Dc) (L : List UInt64) (n : UInt64) (hL : L ≠ []) (hl : L.length < 1000000000) : ∃ F, ansR [0, 1] (run1 Try.prog cs57 (mask 57) F 57 [.ptr 0 10, .u64 n] (hM c L) 8) = some (.int .i64 (mayR n (c, L)), oM c L) := by
  have hv : mayR n (c, L) = cond (decide (n < maxU L) && decide (UInt64.ofInt c.size ≤ maxU L - n)) 170 (cond (L.contains n) 9 0) := by
    cases L with
    | nil => exact absurd rfl hL
    | cons a l => rfl
  have ho : o73 24 c L (maxU L) = true := o73_ok hL (by unfold lenOk; simpa [Nat.blt_eq] using hl)
  have hlp := loop57 c L n (maxU L) hl (F := L.length + 100 + 100) (by omega)
  rw [hv]
  cases h1 : decide (n < maxU L) with
  | false =>
    exact ⟨_, preM (noPS_ok _) (fn := Try.f57) (c := bodyOf Try.f57) (by kernel_rfl) (by kernel_rfl) (by kernel_rfl) 5 (w57q c L n (maxU L) (L.length + 100)) (allT_c (by rw [h1]; rfl) (allT_c rfl (allT_c ho rfl))) hlp⟩
  | true =>
    cases h2 : decide (UInt64.ofInt c.size ≤ maxU L - n) with
    | true =>
      exact ⟨100, ansR_of (noPS_ok _) (w57o c L n (maxU L)) (allT_c h2 (allT_c h1 (allT_c rfl (allT_c ho rfl))))⟩
    | false =>
      exact ⟨_, preM (noPS_ok _) (fn := Try.f57) (c := bodyOf Try.f57) (by kernel_rfl) (by kernel_rfl) (by kernel_rfl) 5 (w57p c L n (maxU L) (L.length + 100)) (allT_c (by rw [h2]; rfl) (allT_c h1 (allT_c rfl (allT_c ho rfl)))) hlp⟩
def g57 : List AVal → Option EffA
  | [.ptr t 10, .u64 n] => some (roD t (fun s => .int .i64 (mayR n s)) lenOk)
  | _ => none
theorem g57_ok : CSOk Try.prog (csOne 57 g57) := csOne_ok fun args e he => by
  unfold g57 at he
  split at he
  · rename_i t n
    cases he
    refine roD_ok (val := fun s => .int .i64 (mayR n s)) g73_ok rfl (fun s => rfl) (fun c h => ⟨mask 57, 100, ansR_of (noPS_ok _) (w57n c n) (allT_c rfl (allT_c o73n_ok rfl))⟩) fun c L hL h => ?_
    obtain ⟨F, hF⟩ := run57 c L n hL (lenOk_lt h)
    exact ⟨_, F, hF⟩
  · cases he
end Go.Proofs.Ytjdhndicgifnbaa.Tun

/- Tunnels of the document: windows: a number is marked. -/
namespace Go.Proofs.Ytjdhndicgifnbaa.Tun
set_option linter.unusedVariables false
set_option linter.unusedSimpArgs false
open Go Go.Eng Go.Proofs.Ytjdhndicgifnbaa Go.Proofs.Ytjdhndicgifnbaa.Pol
set_option maxRecDepth 100000
set_option maxHeartbeats 1000000
set_option linter.unusedSimpArgs false
set_option linter.unusedVariables false
def markR (n : UInt64) (s : Dn) : Dn := cond (mayR n s == 0) (s.1, s.2 ++ [n]) s
def srcM (n : UInt64) (s : Dn) : List Nat := cond (mayR n s == 0) [0, kQ (qL s.2)] (List.range (kQ (qL s.2)))
noncomputable def o57n (base : Nat) (n : UInt64) (c : Dc) (e : Int) : Bool := mOb (roD 0 (fun s => .int .i64 (mayR n s)) lenOk) base (hN c) (.int .i64 e) (hN c)
noncomputable def o57 (base : Nat) (n : UInt64) (c : Dc) (L : List UInt64) (e : Int) : Bool := mOb (roD 0 (fun s => .int .i64 (mayR n s)) lenOk) base (hM c L) (.int .i64 e) (hM c L)
theorem o57n_ok {base : Nat} {n : UInt64} {c : Dc} : o57n base n c (mayR n (c, [])) = true := mRoN (val := fun s => .int .i64 (mayR n s)) (ok := lenOk) (c := c) (base := base) rfl rfl
theorem o57_ok {base : Nat} {n : UInt64} {c : Dc} {L : List UInt64} (hL : L ≠ []) (h : lenOk (c, L) = true) : o57 base n c L (mayR n (c, L)) = true := mRoM (val := fun s => .int .i64 (mayR n s)) (ok := lenOk) (c := c) (L := L) (base := base) hL rfl h
def sy59 : List Nat := [300008, 10, 18]
def appO (L : List UInt64) (n : UInt64) : Bool := Nat.ble (0 + (1 * 1)) (List.length [AVal.u64 n]) && (((Nat.ble ((L.length + 1) * 8) 140737488355328 && Nat.ble (L.length + 1) 140737488355328) && ([AVal.u64 n]).all oneA) && Nat.ble (0 + L.length * 1) (L.map AVal.u64).length)
section
variable (c : Dc) (L : List UInt64) (n : UInt64) (e : Int)
theorem w59a : ansM [0] (run1O Try.prog noPS (csOne 57 g57) sy59 [false] [.int .i64 e, bkN1 c] (mask 59) 100 59 [.ptr 0 10, .u64 n] (hN c) 8) = some (.int .i64 e, oN c, [!(e == 0), o57n 32 n c e]) := by kernel_rfl
theorem w59b : ansM [0, 120] (run1O Try.prog noPS (csOne 57 g57) [300008, 10] [true] [.int .i64 e, bkN1 c] (mask 59) 100 59 [.ptr 0 10, .u64 n] (hN c) 8) = some (.int .i64 e, [some (.cells false (cD (.slice 120 0 1 1) c)), some (.cells false [.u64 n])], [e == 0, o57n 32 n c e]) := by kernel_rfl
theorem w59c : ansM [0, 1] (run1O Try.prog noPS (csOne 57 g57) sy59 [false] [.int .i64 e, bkM c L] (mask 59) 100 59 [.ptr 0 10, .u64 n] (hM c L) 8) = some (.int .i64 e, oM c L, [!(e == 0), o57 32 n c L e]) := by kernel_rfl
theorem w59d : ansM [0, 120] (run1O Try.prog noPS (csOne 57 g57) sy59 [true] [.int .i64 e, bkM c L] (mask 59) 100 59 [.ptr 0 10, .u64 n] (hM c L) 8) = some (.int .i64 e, [some (.cells false (cD (.slice 120 0 (L.length + 1) 1) c)), some (.cells false ((L.map AVal.u64).take (L.length * 1) ++ [.u64 n]))], [appO L n, e == 0, o57 32 n c L e]) := by kernel_rfl
end
theorem appO_ok {L : List UInt64} (n : UInt64) (h : L.length < 1000000000) : appO L n = true := by
  unfold appO
  have e1 : Nat.ble ((L.length + 1) * 8) 140737488355328 = true := Nat.ble_eq_true_of_le (by omega)
  have e2 : Nat.ble (L.length + 1) 140737488355328 = true := Nat.ble_eq_true_of_le (by omega)
  have e3 : Nat.ble (0 + L.length * 1) (L.map AVal.u64).length = true := Nat.ble_eq_true_of_le (by simp)
  rw [e1, e2, e3]
  rfl
theorem lastU (L : List UInt64) (n : UInt64) : (L.map AVal.u64).take (L.length * 1) ++ [AVal.u64 n] = (L ++ [n]).map AVal.u64 := by
  rw [List.take_of_length_le (by simp)]
  simp
def meM (t : Nat) (n : UInt64) : EffA := effF obD obD (findD t) 1 (srcM n) (fun _ s => .int .i64 (mayR n s)) (markR n) lenOk
def g59 : List AVal → Option EffA
  | [.ptr t 10, .u64 n] => some (meM t n)
  | _ => none
theorem app_ne (a : UInt64) (l : List UInt64) (n : UInt64) : ∃ b m, a :: l ++ [n] = b :: m := ⟨a, l ++ [n], rfl⟩
theorem g59_ok : CSOk Try.prog (csOne 59 g59) := csOne_ok fun args e he => by
  unfold g59 at he
  split at he
  · rename_i t n
    cases he
    refine effF_ok g57_ok hmix (by decide) (O := obD) (O2 := obD) (A := fun _ ns => .ptr (ns.getD 0 0) 10 :: [.u64 n]) (fun {η ns s} hf => findD_ok (A := fun ns => .ptr (ns.getD 0 0) 10 :: [.u64 n]) (fun ns h => argP0 (ns := []) h) hf) fun ⟨c, L⟩ hok => ?_
    have hlen := lenOk_lt hok
    refine ⟨relD _, relD _, .plain rfl, nameP0 _ rfl, ?_⟩
    cases h0 : (mayR n (c, L) == 0) with
    | false =>
      have es : srcM n (c, L) = List.range (kQ (qL L)) := by unfold srcM; rw [h0]; rfl
      have em : markR n (c, L) = (c, L) := by unfold markR; rw [h0]; rfl
      rw [es, em]
      have h0' : (!(mayR n (c, L) == 0)) = true := by rw [h0]; rfl
      refine ⟨by rw [List.length_range]; rfl, List.nodup_range, fun j hj => by have := List.mem_range.1 hj; show j < kQ (qL L) + 1; omega, fun i j e1 e2 => .inl (by obtain ⟨_, rfl⟩ := range_at e1; exact e2), ?_⟩
      cases L with
      | nil => exact runF_ofR (nn := mask 59) (F := 100) (fr := 8) gl [120] (ansR_of (noPS_ok _) (w59a c n _) (allT_c h0' (allT_c o57n_ok rfl))) rfl rfl rfl rfl
      | cons a l => exact runF_ofR (nn := mask 59) (F := 100) (fr := 8) gl [120] (ansR_of (noPS_ok _) (w59c c (a :: l) n _) (allT_c h0' (allT_c (o57_ok (by simp) hok) rfl))) rfl rfl rfl rfl
    | true =>
      have es : srcM n (c, L) = [0, kQ (qL L)] := by unfold srcM; rw [h0]; rfl
      have em : markR n (c, L) = (c, L ++ [n]) := by unfold markR; rw [h0]; rfl
      rw [es, em]
      cases L with
      | nil =>
        refine ⟨rfl, show [0, 1].Nodup by decide, fun j hj => ?_, fun i j e1 e2 => ?_, runF_ofR (nn := mask 59) (F := 100) (fr := 8) gl [120] (ansR_of (noPS_ok _) (w59b c n _) (allT_c h0 (allT_c o57n_ok rfl))) rfl rfl rfl rfl⟩
        · show j < 1 + 1
          have : j = 0 ∨ j = 1 := by simpa [kQ, qL] using hj
          omega
        · match i, e1 with
          | 0, e1 => cases e1; exact .inl (show 0 < 1 by decide)
          | 1, e1 => cases e1; exact .inr (Nat.le_refl _)
          | i + 2, e1 => simp at e1
      | cons a l =>
        have r := ansR_of (noPS_ok _) (w59d c (a :: l) n _) (allT_c (appO_ok n hlen) (allT_c h0 (allT_c (o57_ok (by simp) hok) rfl)))
        rw [lastU] at r
        have hk : ((a :: l).length + 1) = (a :: l ++ [n]).length := by simp
        rw [hk] at r
        refine ⟨rfl, show [0, 2].Nodup by decide, fun j hj => ?_, fun i j e1 e2 => ?_, runF_ofR (nn := mask 59) (F := 100) (fr := 8) gl [120] r rfl rfl rfl rfl⟩
        · show j < 2 + 1
          have : j = 0 ∨ j = 2 := by simpa [kQ, qL] using hj
          omega
        · match i, e1 with
          | 0, e1 => cases e1; exact .inl (by show 0 < 2; decide)
          | 1, e1 => cases e1; exact .inr (Nat.le_refl _)
          | i + 2, e1 => simp at e1
  · cases he
end Go.Proofs.Ytjdhndicgifnbaa.Tun

/- Tunnels of the document: a text is opened. -/
namespace Go.Proofs.Ytjdhndicgifnbaa.Tun
set_option linter.unusedVariables false
set_option linter.unusedSimpArgs false
open Go Go.Eng Go.Proofs.Ytjdhndicgifnbaa Go.Proofs.Ytjdhndicgifnbaa.Pol
set_option maxRecDepth 100000
set_option maxHeartbeats 1000000
set_option linter.unusedSimpArgs false
set_option linter.unusedVariables false
def csE (φ : Ae.Fn) : CS := csAlt (csD φ) (csAlt (csOne 57 g57) (csOne 59 g59))
theorem csE_ok : CSOk Try.prog (csE Ae.realFn) := csAlt_ok csD_ok (csAlt_ok g57_ok g59_ok)
theorem csE_ps : PSOk (Ae.psn Ae.realFn) (csE Ae.realFn) := fun f args v h => by
  unfold csE csD csAlt csP
  simp only [h, cond_true]
def sy35 : List Nat := [14, 22, 300028, 30, 40, 44, 300050]
def sureD (c : Dc) : Dc := { c with sure := true }
def hN2 (c : Dc) (n : UInt64) : HL := [(0, .cells false (cD (.slice 336 0 1 1) c)), (336, .cells false [.u64 n])]
def hM2 (c : Dc) (L : List UInt64) (n : UInt64) : HL := [(0, .cells false (cD (.slice 336 0 (L.length + 1) 1) c)), (336, .cells false ((L ++ [n]).map .u64))]
noncomputable def o59n (n : UInt64) (c : Dc) (r : Int) : Bool := mOb (meM 0 n) 336 (hN c) (.int .i64 r) (hN2 c n)
noncomputable def o59 (n : UInt64) (c : Dc) (L : List UInt64) (r : Int) : Bool := mOb (meM 0 n) 336 (hM c L) (.int .i64 r) (hM2 c L n)
theorem o59n_ok {n : UInt64} {c : Dc} (h : mayR n (c, []) = 0) : o59n n c 0 = true := by
  refine decP_of ?_
  have e1 : srcM n (c, []) = [0, 1] := by unfold srcM; rw [h]; rfl
  have e2 : markR n (c, []) = (c, [n]) := by unfold markR; rw [h]; rfl
  unfold meM
  rw [effF_app (w := 1) (H := hN c) (O := obD) (O2 := obD) (ns := [0]) (s := (c, [])) (findD_at (t := 0) (m := 1) (L := []) rfl (fun a' l' e => by cases e)) rfl rfl, e1, e2, h]
  rfl
theorem o59_ok {n : UInt64} {c : Dc} {L : List UInt64} (hL : L ≠ []) (hl : lenOk (c, L) = true) (h : mayR n (c, L) = 0) : o59 n c L 0 = true := by
  cases L with
  | nil => exact absurd rfl hL
  | cons a l =>
    refine decP_of ?_
    have e1 : srcM n (c, a :: l) = [0, 2] := by unfold srcM; rw [h]; rfl
    have e2 : markR n (c, a :: l) = (c, a :: l ++ [n]) := by unfold markR; rw [h]; rfl
    unfold meM
    rw [effF_app (w := 1) (H := hM c (a :: l)) (O := obD) (O2 := obD) (ns := [0, 1]) (s := (c, a :: l)) (findD_at (t := 0) (m := 1) (L := a :: l) rfl (fun a' l' e => by cases e; rfl)) rfl hl, e1, e2, h]
    have hk : ((a :: l).length + 1) = (a :: l ++ [n]).length := by simp
    unfold hM2
    rw [hk]
    rfl
section
variable (φ : Ae.Fn) (c : Dc) (L : List UInt64) (now n : UInt64) (t : List UInt8) (e r : Int)
theorem w35na : ansM [0] (run1O Try.prog (Ae.psn φ) (csE φ) sy35 [true] [] (mask 35) 100 35 [.ptr 0 0, .u64 now, .u64 n, .str t] (hN c) 8) = some (.tup [.str [], .int .i64 180], oN c, [overD now c]) := by kernel_rfl
theorem w35nb : ansM [0] (run1O Try.prog (Ae.psn φ) (csE φ) sy35 [false, true] [] (mask 35) 100 35 [.ptr 0 0, .u64 now, .u64 n, .str t] (hN c) 8) = some (.tup [.str [], .int .i64 180], oN c, [decide (c.ct ≤ n), !overD now c]) := by kernel_rfl
theorem w35nc : ansM [0] (run1O Try.prog (Ae.psn φ) (csE φ) sy35 [false, false, true] [.int .i64 e, bkN1 c] (mask 35) 100 35 [.ptr 0 0, .u64 now, .u64 n, .str t] (hN c) 8) = some (.tup [.str [], .int .i64 e], oN c, [e != 0, o57n 152 n c e, !decide (c.ct ≤ n), !overD now c]) := by kernel_rfl
theorem w35nd : ansM [0] (run1O Try.prog (Ae.psn φ) (csE φ) sy35 [false, false, false, true] [.int .i64 e, bkN1 c] (mask 35) 100 35 [.ptr 0 0, .u64 now, .u64 n, .str t] (hN c) 8) = some (.tup [.str [], .int .i64 (φ.wr c.recv (Ae.nonL n) [] t)], oN c, [φ.wr c.recv (Ae.nonL n) [] t != 0, φ.sl t, !(e != 0), o57n 152 n c e, !decide (c.ct ≤ n), !overD now c]) := by kernel_rfl
theorem w35ne : ansM [0, 336] (run1O Try.prog (Ae.psn φ) (csE φ) sy35 [false, false, false, false] [.int .i64 e, bkN1 c, .int .i64 r, .tup [.ptr 0 0, .agg (cD (.slice 336 0 1 1) c), .ptr 336 0, .agg [.u64 n]]] (mask 35) 100 35 [.ptr 0 0, .u64 now, .u64 n, .str t] (hN c) 8) = some (.tup [.str (φ.ov c.recv (Ae.nonL n) [] t), .int .i64 0], [some (.cells false (cD (.slice 336 0 1 1) (sureD c))), some (.cells false [.u64 n])], [o59n n c r, !(φ.wr c.recv (Ae.nonL n) [] t != 0), φ.sl t, !(e != 0), o57n 152 n c e, !decide (c.ct ≤ n), !overD now c]) := by kernel_rfl
theorem w35ma : ansM [0, 1] (run1O Try.prog (Ae.psn φ) (csE φ) sy35 [true] [] (mask 35) 100 35 [.ptr 0 0, .u64 now, .u64 n, .str t] (hM c L) 8) = some (.tup [.str [], .int .i64 180], oM c L, [overD now c]) := by kernel_rfl
theorem w35mb : ansM [0, 1] (run1O Try.prog (Ae.psn φ) (csE φ) sy35 [false, true] [] (mask 35) 100 35 [.ptr 0 0, .u64 now, .u64 n, .str t] (hM c L) 8) = some (.tup [.str [], .int .i64 180], oM c L, [decide (c.ct ≤ n), !overD now c]) := by kernel_rfl
theorem w35mc : ansM [0, 1] (run1O Try.prog (Ae.psn φ) (csE φ) sy35 [false, false, true] [.int .i64 e, bkM c L] (mask 35) 100 35 [.ptr 0 0, .u64 now, .u64 n, .str t] (hM c L) 8) = some (.tup [.str [], .int .i64 e], oM c L, [e != 0, o57 152 n c L e, !decide (c.ct ≤ n), !overD now c]) := by kernel_rfl
theorem w35md : ansM [0, 1] (run1O Try.prog (Ae.psn φ) (csE φ) sy35 [false, false, false, true] [.int .i64 e, bkM c L] (mask 35) 100 35 [.ptr 0 0, .u64 now, .u64 n, .str t] (hM c L) 8) = some (.tup [.str [], .int .i64 (φ.wr c.recv (Ae.nonL n) [] t)], oM c L, [φ.wr c.recv (Ae.nonL n) [] t != 0, φ.sl t, !(e != 0), o57 152 n c L e, !decide (c.ct ≤ n), !overD now c]) := by kernel_rfl
theorem w35me : ansM [0, 336] (run1O Try.prog (Ae.psn φ) (csE φ) sy35 [false, false, false, false] [.int .i64 e, bkM c L, .int .i64 r, .tup [.ptr 0 0, .agg (cD (.slice 336 0 (L.length + 1) 1) c), .ptr 336 0, .agg ((L ++ [n]).map .u64), .ptr 1 0, .nilMap]] (mask 35) 100 35 [.ptr 0 0, .u64 now, .u64 n, .str t] (hM c L) 8) = some (.tup [.str (φ.ov c.recv (Ae.nonL n) [] t), .int .i64 0], [some (.cells false (cD (.slice 336 0 (L.length + 1) 1) (sureD c))), some (.cells false ((L ++ [n]).map .u64))], [o59 n c L r, !(φ.wr c.recv (Ae.nonL n) [] t != 0), φ.sl t, !(e != 0), o57 152 n c L e, !decide (c.ct ≤ n), !overD now c]) := by kernel_rfl
end
def openDG (now n : UInt64) (t : List UInt8) (s : Dn) : Bool := !overD now s.1 && (!decide (s.1.ct ≤ n) && (!(mayR n s != 0) && !((Ae.opF s.1.recv (Ae.nonL n) [] t).2 != 0)))
def openDE (now n : UInt64) (t : List UInt8) (s : Dn) : Int := cond (overD now s.1) 180 (cond (decide (s.1.ct ≤ n)) 180 (cond (mayR n s != 0) (mayR n s) (Ae.opF s.1.recv (Ae.nonL n) [] t).2))
def openDV (now n : UInt64) (t : List UInt8) (s : Dn) : AVal := cond (openDG now n t s) (.tup [.str (Ae.opF s.1.recv (Ae.nonL n) [] t).1, .int .i64 0]) (.tup [.str [], .int .i64 (openDE now n t s)])
def openDN (now n : UInt64) (t : List UInt8) (s : Dn) : Dn := cond (openDG now n t s) (sureD s.1, s.2 ++ [n]) s
def srcO (now n : UInt64) (t : List UInt8) (s : Dn) : List Nat := cond (openDG now n t s) [0, kQ (qL s.2)] (List.range (kQ (qL s.2)))
theorem lt_openDV (now n : UInt64) (t : List UInt8) (s : Dn) : ltV 0 (openDV now n t s) = true := by
  unfold openDV
  cases openDG now n t s <;> rfl
def meO (p : Nat) (now n : UInt64) (t : List UInt8) : EffA := effF obD obD (findD p) 1 (srcO now n t) (fun _ s => openDV now n t s) (openDN now n t) lenOk
def g35 : List AVal → Option EffA
  | [.ptr p 0, .u64 now, .u64 n, .str t] => cond (Ae.slR t) (some (meO p now n t)) none
  | _ => none
theorem range_k {k : Nat} : ∀ j, j ∈ List.range k → j < k + 1 := fun j hj => by have := List.mem_range.1 hj; omega
/-- What a call that opens must show. -/
def R35 (now n : UInt64) (t : List UInt8) (c : Dc) (L : List UInt64) : Prop := RunF Try.prog (csE Ae.realFn) 35 obD obD 1 (srcO now n t (c, L)) (fun ns => .ptr (ns.getD 0 0) 0 :: [.u64 now, .u64 n, .str t]) (c, L) (fun _ => openDV now n t (c, L)) (openDN now n t (c, L))
theorem run35n (now n : UInt64) (t : List UInt8) (ht : Ae.slR t = true) (c : Dc) (hok : lenOk (c, []) = true) : R35 now n t c [] := by
  unfold R35 srcO openDV openDN openDG openDE
  have hs : Ae.realFn.sl t = true := ht
  have h5 := o57n_ok (base := 152) (n := n) (c := c)
  cases h0 : overD now c with
  | true => exact runF_ofR (nn := mask 35) (F := 100) (fr := 8) gl [336] (ansR_of csE_ps (w35na Ae.realFn c now n t ) (allT_c h0 rfl)) rfl rfl rfl rfl
  | false =>
    simp only [h0, Bool.not_false, Bool.true_and, cond_false]
    have n0 : (!overD now c) = true := by rw [h0]; rfl
    cases h1 : decide (c.ct ≤ n) with
    | true =>
      simp only [Bool.not_true, Bool.false_and, cond_false, cond_true]
      exact runF_ofR (nn := mask 35) (F := 100) (fr := 8) gl [336] (ansR_of csE_ps (w35nb Ae.realFn c now n t ) (allT_c h1 (allT_c n0 rfl))) rfl rfl rfl rfl
    | false =>
      simp only [Bool.not_false, Bool.true_and, cond_false]
      have n1 : (!decide (c.ct ≤ n)) = true := by rw [h1]; rfl
      cases h2 : (mayR n (c, []) != 0) with
      | true =>
        simp only [Bool.not_true, Bool.false_and, cond_false, cond_true]
        exact runF_ofR (nn := mask 35) (F := 100) (fr := 8) gl [336] (ansR_of csE_ps (w35nc Ae.realFn c now n t (mayR n (c, []))) (allT_c h2 (allT_c h5 (allT_c n1 (allT_c n0 rfl))))) rfl rfl rfl rfl
      | false =>
        simp only [Bool.not_false, Bool.true_and, cond_false]
        have n2 : (!(mayR n (c, []) != 0)) = true := by rw [h2]; rfl
        have h2z : mayR n (c, []) = 0 := by simpa using h2
        cases h3 : ((Ae.opF c.recv (Ae.nonL n) [] t).2 != 0) with
        | true =>
          simp only [Bool.not_true, cond_false]
          have h3' : (Ae.realFn.wr c.recv (Ae.nonL n) [] t != 0) = true := h3
          exact runF_ofR (nn := mask 35) (F := 100) (fr := 8) gl [336] (ansR_of csE_ps (w35nd Ae.realFn c now n t (mayR n (c, []))) (allT_c h3' (allT_c hs (allT_c n2 (allT_c h5 (allT_c n1 (allT_c n0 rfl))))))) rfl rfl rfl rfl
        | false =>
          simp only [Bool.not_false, cond_true]
          have h3' : (!(Ae.realFn.wr c.recv (Ae.nonL n) [] t != 0)) = true := by
            have : (Ae.realFn.wr c.recv (Ae.nonL n) [] t != 0) = false := h3
            rw [this]; rfl
          exact runF_ofR (nn := mask 35) (F := 100) (fr := 8) gl [336] (ansR_of csE_ps (w35ne Ae.realFn c now n t (mayR n (c, [])) 0) (allT_c (o59n_ok h2z) (allT_c h3' (allT_c hs (allT_c n2 (allT_c h5 (allT_c n1 (allT_c n0 rfl)))))))) rfl rfl rfl rfl
theorem run35m (now n : UInt64) (t : List UInt8) (ht : Ae.slR t = true) (c : Dc) (a : UInt64) (l : List UInt64) (hok : lenOk (c, (a :: l)) = true) : R35 now n t c (a :: l) := by
  unfold R35 srcO openDV openDN openDG openDE
  have hs : Ae.realFn.sl t = true := ht
  have h5 := o57_ok (by simp) hok (base := 152) (n := n) (c := c)
  cases h0 : overD now c with
  | true => exact runF_ofR (nn := mask 35) (F := 100) (fr := 8) gl [336] (ansR_of csE_ps (w35ma Ae.realFn c (a :: l) now n t ) (allT_c h0 rfl)) rfl rfl rfl rfl
  | false =>
    simp only [h0, Bool.not_false, Bool.true_and, cond_false]
    have n0 : (!overD now c) = true := by rw [h0]; rfl
    cases h1 : decide (c.ct ≤ n) with
    | true =>
      simp only [Bool.not_true, Bool.false_and, cond_false, cond_true]
      exact runF_ofR (nn := mask 35) (F := 100) (fr := 8) gl [336] (ansR_of csE_ps (w35mb Ae.realFn c (a :: l) now n t ) (allT_c h1 (allT_c n0 rfl))) rfl rfl rfl rfl
    | false =>
      simp only [Bool.not_false, Bool.true_and, cond_false]
      have n1 : (!decide (c.ct ≤ n)) = true := by rw [h1]; rfl
      cases h2 : (mayR n (c, (a :: l)) != 0) with
      | true =>
        simp only [Bool.not_true, Bool.false_and, cond_false, cond_true]
        exact runF_ofR (nn := mask 35) (F := 100) (fr := 8) gl [336] (ansR_of csE_ps (w35mc Ae.realFn c (a :: l) now n t (mayR n (c, (a :: l)))) (allT_c h2 (allT_c h5 (allT_c n1 (allT_c n0 rfl))))) rfl rfl rfl rfl
      | false =>
        simp only [Bool.not_false, Bool.true_and, cond_false]
        have n2 : (!(mayR n (c, (a :: l)) != 0)) = true := by rw [h2]; rfl
        have h2z : mayR n (c, (a :: l)) = 0 := by simpa using h2
        cases h3 : ((Ae.opF c.recv (Ae.nonL n) [] t).2 != 0) with
        | true =>
          simp only [Bool.not_true, cond_false]
          have h3' : (Ae.realFn.wr c.recv (Ae.nonL n) [] t != 0) = true := h3
          exact runF_ofR (nn := mask 35) (F := 100) (fr := 8) gl [336] (ansR_of csE_ps (w35md Ae.realFn c (a :: l) now n t (mayR n (c, (a :: l)))) (allT_c h3' (allT_c hs (allT_c n2 (allT_c h5 (allT_c n1 (allT_c n0 rfl))))))) rfl rfl rfl rfl
        | false =>
          simp only [Bool.not_false, cond_true]
          have h3' : (!(Ae.realFn.wr c.recv (Ae.nonL n) [] t != 0)) = true := by
            have : (Ae.realFn.wr c.recv (Ae.nonL n) [] t != 0) = false := h3
            rw [this]; rfl
          have r := ansR_of csE_ps (w35me Ae.realFn c (a :: l) now n t (mayR n (c, (a :: l))) 0) (allT_c (o59_ok (by simp) hok h2z) (allT_c h3' (allT_c hs (allT_c n2 (allT_c h5 (allT_c n1 (allT_c n0 rfl)))))))
          have hk : ((a :: l).length + 1) = (a :: l ++ [n]).length := by simp
          rw [hk] at r
          exact runF_ofR (nn := mask 35) (F := 100) (fr := 8) gl [336] r rfl rfl rfl rfl
theorem g35_ok : CSOk Try.prog (csOne 35 g35) := csOne_ok fun args e he => by
  unfold g35 at he
  split at he
  · rename_i p now n t
    cases ht : Ae.slR t <;> rw [ht] at he <;> simp only [cond_true, cond_false] at he
    · cases he
    cases he
    refine effF_ok csE_ok hmix (by decide) (O := obD) (O2 := obD) (A := fun _ ns => .ptr (ns.getD 0 0) 0 :: [.u64 now, .u64 n, .str t]) (fun {η ns s} hf => findD_ok (A := fun ns => .ptr (ns.getD 0 0) 0 :: [.u64 now, .u64 n, .str t]) (fun ns h => argP0 (ns := []) h) hf) fun ⟨c, L⟩ hok => ?_
    refine ⟨relD _, relD _, .plain (lt_openDV now n t _), nameP0 _ rfl, ?_⟩
    have hR : R35 now n t c L := by
      cases L with
      | nil => exact run35n now n t ht c hok
      | cons a l => exact run35m now n t ht c a l hok
    cases hg : openDG now n t (c, L) with
    | false =>
      have es : srcO now n t (c, L) = List.range (kQ (qL L)) := by unfold srcO; rw [hg]; rfl
      have em : openDN now n t (c, L) = (c, L) := by unfold openDN; rw [hg]; rfl
      unfold R35 at hR
      rw [es, em] at hR ⊢
      exact ⟨by rw [List.length_range]; rfl, List.nodup_range, range_k, fun i j e1 e2 => .inl (by obtain ⟨_, rfl⟩ := range_at e1; exact e2), hR⟩
    | true =>
      have es : srcO now n t (c, L) = [0, kQ (qL L)] := by unfold srcO; rw [hg]; rfl
      have em : openDN now n t (c, L) = (sureD c, L ++ [n]) := by unfold openDN; rw [hg]; rfl
      unfold R35 at hR
      rw [es, em] at hR ⊢
      have hp := kQ_pos (qL L)
      refine ⟨?_, ?_, fun j hj => ?_, fun i j e1 e2 => ?_, hR⟩
      · cases L <;> rfl
      · have : 0 ≠ kQ (qL L) := by omega
        simp [this]
      · show j < kQ (qL L) + 1
        have : j = 0 ∨ j = kQ (qL L) := by simpa using hj
        omega
      · match i, e1 with
        | 0, e1 => cases e1; exact .inl hp
        | 1, e1 => cases e1; exact .inr (Nat.le_refl _)
        | i + 2, e1 => simp at e1
  · cases he
end Go.Proofs.Ytjdhndicgifnbaa.Tun

/- Tunnels: the document's is made; what a handshake got; no slots. -/
namespace Go.Proofs.Ytjdhndicgifnbaa.Tun
set_option linter.unusedVariables false
set_option linter.unusedSimpArgs false
open Go Go.Eng Go.Proofs.Ytjdhndicgifnbaa Go.Proofs.Ytjdhndicgifnbaa.Pol
set_option maxRecDepth 100000
set_option maxHeartbeats 1000000
set_option linter.unusedSimpArgs false
set_option linter.unusedVariables false
def newD (g3 g4 : List UInt8) (first : Bool) (now rc ct rk lf : UInt64) (sz : Int) : Dc := ⟨g3, g4, first, now, rc, ct, rk, lf, sz, 0, sz, first, false⟩
section
variable (g1 g2 g3 g4 g5 : List UInt8) (first : Bool) (now rc ct rk lf : UInt64) (sz : Int)
def sy10 : List Nat := [13, 18, 22]
theorem w10a : ansO (run1O Try.prog noPS (csOne 33 g33) sy10 [true] [] (mask 10) 100 10 [gotA g1 g2 g3 g4 g5, .bool first, .u64 now, limA rc ct rk lf sz] [] 0) = some (.tup [.nilPtr, .int .i64 2], [(g3.length : Int) != 32]) := by kernel_rfl
theorem w10b : ansO (run1O Try.prog noPS (csOne 33 g33) sy10 [false, true] [] (mask 10) 100 10 [gotA g1 g2 g3 g4 g5, .bool first, .u64 now, limA rc ct rk lf sz] [] 0) = some (.tup [.nilPtr, .int .i64 2], [(g4.length : Int) != 32, !((g3.length : Int) != 32)]) := by kernel_rfl
theorem w10c : ansO (run1O Try.prog noPS (csOne 33 g33) sy10 [false, false, false] [] (mask 10) 100 10 [gotA g1 g2 g3 g4 g5, .bool first, .u64 now, limA rc ct rk lf sz] [] 0) = some (.tup [.nilPtr, .int .i64 2], [!mayD rc ct rk lf sz, !((g4.length : Int) != 32), !((g3.length : Int) != 32)]) := by kernel_rfl
theorem w10d : ansM [248] (run1O Try.prog noPS (csOne 33 g33) sy10 [false, false, true] [] (mask 10) 100 10 [gotA g1 g2 g3 g4 g5, .bool first, .u64 now, limA rc ct rk lf sz] [] 0) = some (.tup [.ptr 248 0, .int .i64 0], [some (.cells false (cD .nilSlice (newD g3 g4 first now rc ct rk lf sz)))], [mayD rc ct rk lf sz, !((g4.length : Int) != 32), !((g3.length : Int) != 32)]) := by kernel_rfl
end
def g10 : List AVal → Option EffA
  | [.agg [.str g1, .str g2, .str g3, .str g4, .str g5], .bool first, .u64 now, .agg [.u64 rc, .u64 ct, .u64 rk, .u64 lf, .int .i64 sz]] => some (cond (newG g3 g4 rc ct rk lf sz) (newE obD 1 [0] winV (newD g3 g4 first now rc ct rk lf sz, [])) (.pure (.tup [.nilPtr, .int .i64 2])))
  | _ => none
theorem g10_ok : CSOk Try.prog (csOne 10 g10) := csOne_ok fun args e he => by
  unfold g10 at he
  split at he
  · rename_i g1 g2 g3 g4 g5 first now rc ct rk lf sz
    cases he
    unfold newG
    cases h1 : ((g3.length : Int) != 32) with
    | true =>
      simp only [Bool.not_true, Bool.false_and, cond_false]
      exact callOk_ans g33_ok (noPS_ok _) hmix gl (w10a g1 g2 g3 g4 g5 first now rc ct rk lf sz) (allT_c h1 rfl) rfl rfl
    | false =>
      have n1 : (!((g3.length : Int) != 32)) = true := by rw [h1]; rfl
      cases h2 : ((g4.length : Int) != 32) with
      | true =>
        simp only [Bool.not_true, Bool.not_false, Bool.true_and, Bool.false_and, cond_false]
        exact callOk_ans g33_ok (noPS_ok _) hmix gl (w10b g1 g2 g3 g4 g5 first now rc ct rk lf sz) (allT_c h2 (allT_c n1 rfl)) rfl rfl
      | false =>
        have n2 : (!((g4.length : Int) != 32)) = true := by rw [h2]; rfl
        cases h3 : mayD rc ct rk lf sz with
        | true =>
          simp only [Bool.not_false, Bool.true_and, cond_true]
          exact newE_ok g33_ok hmix (by decide) rfl (relD _) (nameWin (show 0 < 1 by decide)) rfl (by decide) (by decide) (runF_ofR (nn := mask 10) (F := 100) (fr := 0) gl [248] (ansR_of (noPS_ok _) (w10d g1 g2 g3 g4 g5 first now rc ct rk lf sz) (allT_c h3 (allT_c n2 (allT_c n1 rfl)))) rfl rfl rfl rfl)
        | false =>
          simp only [Bool.not_false, Bool.true_and, cond_false]
          exact callOk_ans g33_ok (noPS_ok _) hmix gl (w10c g1 g2 g3 g4 g5 first now rc ct rk lf sz) (allT_c (by rw [h3]; rfl) (allT_c n2 (allT_c n1 rfl))) rfl rfl
  · cases he
/-! ### what a handshake got -/
def keyA : List UInt8 := List.replicate 31 0 ++ [97]
def keyB : List UInt8 := List.replicate 31 0 ++ [98]
theorem w18t : (run1 Try.prog noCS (mask 18) 200 18 [.bool true] [] Try.prog.globals.size).map (·.1) = some (gotA [] [] keyA keyB []) := by kernel_rfl
theorem w18f : (run1 Try.prog noCS (mask 18) 200 18 [.bool false] [] Try.prog.globals.size).map (·.1) = some (gotA [] [] keyB keyA []) := by kernel_rfl
def g18 : List AVal → Option EffA
  | [.bool true] => some (.pure (gotA [] [] keyA keyB []))
  | [.bool false] => some (.pure (gotA [] [] keyB keyA []))
  | _ => none
theorem g18_ok : CSOk Try.prog (csOne 18 g18) := csOne_ok fun args e he => by
  unfold g18 at he
  split at he
  · cases he; exact callOk_val (noCS_ok _) hmix w18t rfl rfl
  · cases he; exact callOk_val (noCS_ok _) hmix w18f rfl rfl
  · cases he
/-! ### no slots -/
theorem w43n : (run1 Try.prog noCS (mask 43) 100 43 [.nilPtr] [] Try.prog.globals.size).map (·.1) = some (.bool true) := by kernel_rfl
def g43n : List AVal → Option EffA
  | [.nilPtr] => some (.pure (.bool true))
  | _ => none
theorem g43n_ok : CSOk Try.prog (csOne 43 g43n) := csOne_ok fun args e he => by
  unfold g43n at he
  split at he
  · cases he; exact callOk_val (noCS_ok _) hmix w43n rfl rfl
  · cases he
section
variable (n : UInt64) (i : UInt32)
theorem w22n : (run1 Try.prog (csOne 43 g43n) (mask 22) 100 22 [.nilPtr, .u32 i] [] Try.prog.globals.size).map (·.1) = some (.tup [.nilPtr, .int .i64 1]) := by kernel_rfl
theorem w23n : (run1 Try.prog (csOne 43 g43n) (mask 23) 100 23 [.nilPtr, .u64 n] [] Try.prog.globals.size).map (·.1) = some (.tup [.u32 0, .nilPtr, .int .i64 1]) := by kernel_rfl
theorem w24n : (run1 Try.prog (csOne 43 g43n) (mask 24) 100 24 [.nilPtr, .u32 i, .nilPtr] [] Try.prog.globals.size).map (·.1) = some (.int .i64 1) := by kernel_rfl
theorem w25n : (run1 Try.prog (csOne 43 g43n) (mask 25) 100 25 [.nilPtr, .u64 n] [] Try.prog.globals.size).map (·.1) = some .nilSlice := by kernel_rfl
theorem w26n : (run1 Try.prog (csOne 43 g43n) (mask 26) 100 26 [.nilPtr] [] Try.prog.globals.size).map (·.1) = some .nilSlice := by kernel_rfl
theorem w14n : (run1 Try.prog csP14 (mask 14) 100 14 [.nilPtr, .u64 n] [] Try.prog.globals.size).map (·.1) = some (.bool false) := by kernel_rfl
end
def csNil : CS := fun f args => match f, args with
  | 22, [.nilPtr, .u32 i] => some (.pure (.tup [.nilPtr, .int .i64 1]))
  | 23, [.nilPtr, .u64 n] => some (.pure (.tup [.u32 0, .nilPtr, .int .i64 1]))
  | 24, [.nilPtr, .u32 i, .nilPtr] => some (.pure (.int .i64 1))
  | 25, [.nilPtr, .u64 n] => some (.pure .nilSlice)
  | 26, [.nilPtr] => some (.pure .nilSlice)
  | 14, [.nilPtr, .u64 n] => some (.pure (.bool false))
  | _, _ => none
theorem csNil_ok : CSOk Try.prog csNil := fun f args e he => by
  unfold csNil at he
  split at he
  · cases he; exact callOk_val g43n_ok hmix (w22n _) rfl rfl
  · cases he; exact callOk_val g43n_ok hmix (w23n _) rfl rfl
  · cases he; exact callOk_val g43n_ok hmix (w24n _) rfl rfl
  · cases he; exact callOk_val g43n_ok hmix (w25n _) rfl rfl
  · cases he; exact callOk_val g43n_ok hmix w26n rfl rfl
  · cases he; exact callOk_val csP14_ok hmix (w14n _) rfl rfl
  · cases he
end Go.Proofs.Ytjdhndicgifnbaa.Tun

/- Tunnels: calls that open, of any text. -/
namespace Go.Proofs.Ytjdhndicgifnbaa.Tun
set_option linter.unusedVariables false
set_option linter.unusedSimpArgs false
open Go Go.Eng Go.Proofs.Ytjdhndicgifnbaa Go.Proofs.Ytjdhndicgifnbaa.Pol
set_option maxRecDepth 100000
set_option maxHeartbeats 1000000
set_option linter.unusedSimpArgs false
set_option linter.unusedVariables false
def m20 (t : Nat) (now n : UInt64) (c : List UInt8) : EffA := methE clsT clsT srcT t (fun _ s => openV now n c s) (openN now n c) fun s => okW s.w
def q20 : List AVal → Option (EffA × Bool)
  | [.ptr t 0, .u64 now, .u64 n, .str c] => some (m20 t now n c, Ae.slR c)
  | [.nilPtr, .u64 now, .u64 n, .str c] => some (.pure (.tup [.str [], .int .i64 1]), true)
  | _ => none
def q35 : List AVal → Option (EffA × Bool)
  | [.ptr p 0, .u64 now, .u64 n, .str t] => some (meO p now n t, Ae.slR t)
  | _ => none
theorem q20_ok : CSOk Try.prog (csP (psOne 20 q20)) := csP_one fun args v he => by
  unfold q20 at he
  split at he
  · rename_i t now n c
    simp only [Option.some.injEq, Prod.mk.injEq] at he
    obtain ⟨rfl, h⟩ := he
    exact g20_ok 20 [.ptr t 0, .u64 now, .u64 n, .str c] _ (by
      have : g20 [.ptr t 0, .u64 now, .u64 n, .str c] = some (m20 t now n c) := by
        unfold g20
        simp only [h, cond_true]
        rfl
      rw [← this]
      rfl)
  · rename_i now n c
    simp only [Option.some.injEq, Prod.mk.injEq] at he
    obtain ⟨rfl, h⟩ := he
    exact g20_ok 20 [.nilPtr, .u64 now, .u64 n, .str c] _ rfl
  · cases he
theorem q35_ok : CSOk Try.prog (csP (psOne 35 q35)) := csP_one fun args v he => by
  unfold q35 at he
  split at he
  · rename_i t now n c
    simp only [Option.some.injEq, Prod.mk.injEq] at he
    obtain ⟨rfl, h⟩ := he
    exact g35_ok 35 [.ptr t 0, .u64 now, .u64 n, .str c] _ (by
      have : g35 [.ptr t 0, .u64 now, .u64 n, .str c] = some (meO t now n c) := by
        unfold g35
        simp only [h, cond_true]
      rw [← this]
      rfl)
  · cases he
def psT : PS := psAlt (psOne 20 q20) (psOne 35 q35)
theorem psT_ok : CSOk Try.prog (csP psT) := csP_alt q20_ok q35_ok
/-- All that a law's code calls. -/
def csT : CS := csAlt (csP psT) (csAlt (csOne 18 g18) (csAlt (csOne 9 g9) (csAlt (csOne 10 g10) (csAlt (csOne 19 g19) (csAlt (csOne 34 g34) (csAlt (csOne 12 g12) (csAlt (csOne 13 g13) (csAlt (csOne 14 g14) (csAlt (csOne 15 g15) (csAlt (csOne 16 g16) (csAlt (csOne 17 g17) (csAlt (csOne 21 g21) csNil))))))))))))
theorem csT_ok : CSOk Try.prog csT := csAlt_ok psT_ok (csAlt_ok g18_ok (csAlt_ok g9_ok (csAlt_ok g10_ok (csAlt_ok g19_ok (csAlt_ok g34_ok (csAlt_ok g12_ok (csAlt_ok g13_ok (csAlt_ok g14_ok (csAlt_ok g15_ok (csAlt_ok g16_ok (csAlt_ok g17_ok (csAlt_ok g21_ok csNil_ok))))))))))))
theorem csT_ps : PSOk psT csT := csP_ok
end Go.Proofs.Ytjdhndicgifnbaa.Tun

/- What was sealed is opened. -/
namespace Go.Proofs.Ytjdhndicgifnbaa.Ae
set_option linter.unusedVariables false
set_option linter.unusedSimpArgs false
open Go Go.Eng Go.Proofs.Ytjdhndicgifnbaa
set_option maxRecDepth 100000
set_option linter.unusedSimpArgs false
set_option linter.unusedVariables false
theorem se_ok {k n a s : List UInt8} (hm : Cha.may k n = true) (ha : a.length ≤ 65536) (hs : s.length ≤ 65536) : seF k n a s = (ct k n s ++ tagA k n a (ct k n s), 0) := by
  unfold seF
  rw [hm, cond_true, if_neg (by omega)]
theorem op_open {k n a c t : List UInt8} (hm : Cha.may k n = true) (ha : a.length ≤ 65536) (hc : c.length ≤ 65536) (ht : t.length = 16) : opF k n a (c ++ t) = if tagA k n a c = t then (ct k n c, 0) else ([], 100) := by
  unfold opF
  have hl : (c ++ t).length = c.length + 16 := by rw [List.length_append, ht]
  rw [hm, cond_true, hl, if_neg (by omega), if_neg (by omega), Nat.add_sub_cancel, List.take_left, List.drop_left]
theorem ct_back (k n s : List UInt8) : ct k n (ct k n s) = s := Cha.trn_back k n 1 s
theorem op_se {k n a s : List UInt8} (hm : Cha.may k n = true) (ha : a.length ≤ 65536) (hs : s.length ≤ 65536) : opF k n a (ct k n s ++ tagA k n a (ct k n s)) = (s, 0) := by
  rw [op_open hm ha (by rw [ct_len]; exact hs) (tag_len hm), if_pos rfl, ct_back]
/-! ### the known one -/
theorem mayN {k : List UInt8} (h : k.length = 32) (n : UInt64) : Cha.may k (nonL n) = true := by
  unfold Cha.may
  rw [h]
  rfl
theorem se_len {k n s : List UInt8} (hm : Cha.may k n = true) (hs : s.length ≤ 65536) : (seF k n [] s).1.length = s.length + 16 := by
  rw [se_ok hm (by simp) hs]
  show (ct k n s ++ tagA k n [] (ct k n s)).length = _
  rw [List.length_append, ct_len, tag_len hm]
end Go.Proofs.Ytjdhndicgifnbaa.Ae

/- Tunnels: two speak. -/
namespace Go.Proofs.Ytjdhndicgifnbaa.Tun
set_option linter.unusedVariables false
set_option linter.unusedSimpArgs false
open Go Go.Eng Go.Proofs.Ytjdhndicgifnbaa Go.Proofs.Ytjdhndicgifnbaa.Pol
set_option maxRecDepth 100000
set_option maxHeartbeats 1000000
set_option linter.unusedSimpArgs false
set_option linter.unusedVariables false
def tA0 : Tn := newT keyA keyB true 5 2 3 10 20 8
def tA1 : Tn := incT tA0
def tA2 : Tn := incT tA1
def tB0 : Tn := newT keyB keyA false 5 2 3 10 20 8
def tB1 : Tn := opnT 1 tB0
def tB2 : Tn := incT tB1
def sOne : List UInt8 := [111, 110, 101]
def sTwo : List UInt8 := [116, 119, 111]
def c0 : List UInt8 := (Ae.seF keyA (Ae.nonL 0) [] sOne).1
def c1 : List UInt8 := (Ae.seF keyA (Ae.nonL 1) [] sTwo).1
def c2 : List UInt8 := (Ae.seF keyB (Ae.nonL 0) [] [120]).1
theorem keyA_len : keyA.length = 32 := rfl
theorem keyB_len : keyB.length = 32 := rfl
theorem seA (n : UInt64) {s : List UInt8} (h : s.length ≤ 65536) : (Ae.seF keyA (Ae.nonL n) [] s).2 = 0 := by rw [Ae.se_ok (Ae.mayN keyA_len n) (by simp) h]
theorem seB (n : UInt64) {s : List UInt8} (h : s.length ≤ 65536) : (Ae.seF keyB (Ae.nonL n) [] s).2 = 0 := by rw [Ae.se_ok (Ae.mayN keyB_len n) (by simp) h]
theorem opA : Ae.opF keyA (Ae.nonL 1) [] c1 = (sTwo, 0) := by
  unfold c1
  rw [Ae.se_ok (Ae.mayN keyA_len 1) (by simp) (by simp [sTwo])]
  exact Ae.op_se (Ae.mayN keyA_len 1) (by simp) (by simp [sTwo])
def hAl (ta tb : Tn) : HL := (16, .cells false [.u64 2, .u64 3, .u64 10, .u64 20, .int .i64 8]) :: (hT 48 49 50 51 ta ++ hT 112 113 114 115 tb)
def hA1 (ta : Tn) : HL := (16, .cells false [.u64 2, .u64 3, .u64 10, .u64 20, .int .i64 8]) :: hT 48 49 50 51 ta
def hA0 : HL := [(16, .cells false [.u64 2, .u64 3, .u64 10, .u64 20, .int .i64 8])]
def bkA (t : Tn) : AVal := .tup [.ptr 48 0, .agg (cT 49 51 t), .ptr 49 0, .agg (cW 50 t.w), .ptr 50 0, .agg (t.w.L.map .u64), .ptr 51 0, .agg [.u64 t.made]]
def bkB (t : Tn) : AVal := .tup [.ptr 112 0, .agg (cT 113 115 t), .ptr 113 0, .agg (cW 114 t.w), .ptr 114 0, .agg (t.w.L.map .u64), .ptr 115 0, .agg [.u64 t.made]]
theorem mA {val : List Nat → Tn → AVal} {next : Tn → Tn} {ok : Tn → Bool} {ta tb t2 : Tn} {v : AVal} {base : Nat} (hb : nodupB [base, 48, 49, 50, 51] = true) (ho : ok ta = true) (hv : val [48, 49, 50, 51] ta = v) (hn : next ta = t2) : mOb (methE clsT clsT srcT 48 val next ok) base (hAl ta tb) v (hAl t2 tb) = true := by
  subst hv hn
  refine decP_of ?_
  rw [methE_app (C := clsT) (C2 := clsT) (ns := [48, 49, 50, 51]) (s := ta) (tFind_at (t := 48) (w := 49) (b := 50) (a := 51) rfl rfl rfl rfl) hb ho]
  rfl
theorem mB {val : List Nat → Tn → AVal} {next : Tn → Tn} {ok : Tn → Bool} {ta tb t2 : Tn} {v : AVal} {base : Nat} (hb : nodupB [base, 112, 113, 114, 115] = true) (ho : ok tb = true) (hv : val [112, 113, 114, 115] tb = v) (hn : next tb = t2) : mOb (methE clsT clsT srcT 112 val next ok) base (hAl ta tb) v (hAl ta t2) = true := by
  subst hv hn
  refine decP_of ?_
  rw [methE_app (C := clsT) (C2 := clsT) (ns := [112, 113, 114, 115]) (s := tb) (tFind_at (t := 112) (w := 113) (b := 114) (a := 115) rfl rfl rfl rfl) hb ho]
  rfl
noncomputable def oNewA : Bool := mOb ((g9 [gotA [] [] keyA keyB [], .bool true, .u64 5, limA 2 3 10 20 8]).getD (.pure (.tup []))) 48 hA0 (.tup [.ptr 48 0, .int .i64 0]) (hA1 tA0)
noncomputable def oNewB : Bool := mOb ((g9 [gotA [] [] keyB keyA [], .bool false, .u64 5, limA 2 3 10 20 8]).getD (.pure (.tup []))) 112 (hA1 tA0) (.tup [.ptr 112 0, .int .i64 0]) (hAl tA0 tB0)
theorem newG_al (a b : List UInt8) (ha : a.length = 32) (hb : b.length = 32) : newG a b 2 3 10 20 8 = true := by
  unfold newG
  rw [ha, hb]
  rfl
theorem g9_at {g1 g2 g3 g4 g5 : List UInt8} {first : Bool} {now rc ct rk lf : UInt64} {sz : Int} {d : EffA} (h : newG g3 g4 rc ct rk lf sz = true) : (g9 [gotA g1 g2 g3 g4 g5, .bool first, .u64 now, limA rc ct rk lf sz]).getD d = newE obT 4 [0, 1, 2, 3] winV (newT g3 g4 first now rc ct rk lf sz) := by
  simp only [g9, gotA, limA, h, cond_true, Option.getD_some]
theorem oNewA_ok : oNewA = true := by
  refine decP_of ?_
  rw [g9_at (newG_al _ _ keyA_len keyB_len), newE_app (O2 := obT) (by decide)]
  rfl
theorem oNewB_ok : oNewB = true := by
  refine decP_of ?_
  rw [g9_at (newG_al _ _ keyB_len keyA_len), newE_app (O2 := obT) (by decide)]
  rfl
noncomputable def oal0 : Bool := mOb (methE clsT clsT srcT 112 (fun _ s => sealV 5 [120] s) (sealN 5 [120]) (fun _ => true)) 280 (hAl tA0 tB0) (.tup [.u64 0, .str [], .int .i64 3]) (hAl tA0 tB0)
noncomputable def oal1 : Bool := mOb (methE clsT clsT srcT 48 (fun _ s => sealV 5 sOne s) (sealN 5 sOne) (fun _ => true)) 352 (hAl tA0 tB0) (.tup [.u64 0, .str c0, .int .i64 0]) (hAl tA1 tB0)
noncomputable def oal2 : Bool := mOb (methE clsT clsT srcT 48 (fun _ s => sealV 5 sTwo s) (sealN 5 sTwo) (fun _ => true)) 368 (hAl tA1 tB0) (.tup [.u64 1, .str c1, .int .i64 0]) (hAl tA2 tB0)
noncomputable def oal3 : Bool := mOb (methE clsT clsT srcT 112 (fun _ s => openV 5 1 c1 s) (openN 5 1 c1) (fun s => okW s.w)) 456 (hAl tA2 tB0) (.tup [.str sTwo, .int .i64 0]) (hAl tA2 tB1)
noncomputable def oal4 : Bool := mOb (methE clsT clsT srcT 112 (fun _ s => openV 5 1 c1 s) (openN 5 1 c1) (fun s => okW s.w)) 528 (hAl tA2 tB1) (.tup [.str [], .int .i64 9]) (hAl tA2 tB1)
noncomputable def oal5 : Bool := mOb (methE clsT clsT srcT 112 (fun _ s => sealV 5 [120] s) (sealN 5 [120]) (fun _ => true)) 584 (hAl tA2 tB1) (.tup [.u64 0, .str c2, .int .i64 0]) (hAl tA2 tB2)
noncomputable def oal6 : Bool := mOb (methE clsT clsT srcT 48 (fun _ s => .bool (wantsT 5 s)) id (fun _ => true)) 872 (hAl tA2 tB2) (.bool true) (hAl tA2 tB2)
noncomputable def oal7 : Bool := mOb (methE clsT clsT srcT 112 (fun _ s => .bool (wantsT 5 s)) id (fun _ => true)) 904 (hAl tA2 tB2) (.bool false) (hAl tA2 tB2)
noncomputable def oal8 : Bool := mOb (methE clsT clsT srcT 48 (fun _ s => .bool (overT 24 s)) id (fun _ => true)) 944 (hAl tA2 tB2) (.bool false) (hAl tA2 tB2)
noncomputable def oal9 : Bool := mOb (methE clsT clsT srcT 48 (fun _ s => .bool (overT 25 s)) id (fun _ => true)) 984 (hAl tA2 tB2) (.bool true) (hAl tA2 tB2)
noncomputable def oal10 : Bool := mOb (methE clsT clsT srcT 48 (fun _ s => .u64 s.next) id (fun _ => true)) 1016 (hAl tA2 tB2) (.u64 2) (hAl tA2 tB2)
noncomputable def oal11 : Bool := mOb (methE clsT clsT srcT 48 (fun _ s => .bool s.sure) id (fun _ => true)) 1056 (hAl tA2 tB2) (.bool true) (hAl tA2 tB2)
noncomputable def oal12 : Bool := mOb (methE clsT clsT srcT 112 (fun _ s => .bool s.sure) id (fun _ => true)) 1088 (hAl tA2 tB2) (.bool true) (hAl tA2 tB2)
def sy8 : List Nat := [300023,300029,300048,300053,300056,64,71,300064,300071,300076,300108,300112,300117,300122,300126,300131,300135]
theorem w8 : ansO (run1O Try.prog psT csT sy8 [] [.tup [.ptr 48 0, .int .i64 0], bkA tA0, .tup [.ptr 112 0, .int .i64 0], bkB tB0, .tup [.u64 0, .str [], .int .i64 3], bkB tB0, .tup [.u64 0, .str c0, .int .i64 0], bkA tA1, .tup [.u64 1, .str c1, .int .i64 0], bkA tA2, .tup [.str sTwo, .int .i64 0], bkB tB1, .tup [.str [], .int .i64 9], bkB tB1, .tup [.u64 0, .str c2, .int .i64 0], bkB tB2, .bool true, bkA tA2, .bool false, bkB tB2, .bool false, bkA tA2, .bool true, bkA tA2, .u64 2, bkA tA2, .bool true, bkA tA2, .bool true, bkB tB2] (mask 8) 200 8 [] [] 0) = some (.bool true, [oal12, oal11, oal10, oal9, oal8, oal7, oal6, oal5, oal4, Ae.slR c1, oal3, Ae.slR c1, oal2, oal1, oal0, oNewB, oNewA]) := by kernel_rfl
theorem sealGa (n : UInt64) (t : Tn) (x : List UInt8) (h1 : overT 5 t = false) (h2 : decide (t.ct ≤ t.next) = false) (h3 : t.sure = true) (h4 : (Ae.seF t.send (Ae.nonL t.next) [] x).2 = 0) : sealG 5 x t = true := by
  unfold sealG
  rw [h1, h2, h3, h4]
  rfl
theorem sealVa (t : Tn) (x : List UInt8) (h : sealG 5 x t = true) : sealV 5 x t = .tup [.u64 t.next, .str (Ae.seF t.send (Ae.nonL t.next) [] x).1, .int .i64 0] ∧ sealN 5 x t = incT t := by
  unfold sealV sealN
  rw [h]
  exact ⟨rfl, rfl⟩
theorem gA0 : sealG 5 sOne tA0 = true := sealGa 0 _ _ (by decide) (by decide) rfl (seA 0 (by simp [sOne]))
theorem gA1 : sealG 5 sTwo tA1 = true := sealGa 1 _ _ (by decide) (by decide) rfl (seA 1 (by simp [sTwo]))
theorem gB1 : sealG 5 [120] tB1 = true := sealGa 0 _ _ (by decide) (by decide) rfl (seB 0 (by simp))
theorem gB0 : sealG 5 [120] tB0 = false := by
  unfold sealG
  have : tB0.sure = false := rfl
  rw [this, Bool.false_and, Bool.and_false, Bool.and_false]
theorem oB0 : openG 5 1 c1 tB0 = true := by
  unfold openG
  have h1 : overT 5 tB0 = false := by decide
  have h2 : decide (tB0.ct ≤ 1) = false := by decide
  have h3 : mayW 1 tB0.w = 0 := by decide
  have h4 : (Ae.opF tB0.recv (Ae.nonL 1) [] c1).2 = 0 := by
    have : tB0.recv = keyA := rfl
    rw [this, opA]
  rw [h1, h2, h3, h4]
  rfl
theorem may2 : mayW 1 tB1.w = 9 := by decide
theorem oB1 : openG 5 1 c1 tB1 = false := by
  unfold openG
  rw [may2]
  have h1 : overT 5 tB1 = false := by decide
  have h2 : decide (tB1.ct ≤ 1) = false := by decide
  rw [h1, h2]
  rfl
theorem c1_len : Ae.slR c1 = true := by
  unfold Ae.slR c1
  rw [Ae.se_len (Ae.mayN keyA_len 1) (by simp [sTwo])]
  rfl
theorem oal0_ok : oal0 = true := mB rfl rfl (by unfold sealV; rw [gB0]; rfl) (by unfold sealN; rw [gB0]; rfl)
theorem oal1_ok : oal1 = true := mA rfl rfl (sealVa _ _ gA0).1 (sealVa _ _ gA0).2
theorem oal2_ok : oal2 = true := mA rfl rfl (sealVa _ _ gA1).1 (sealVa _ _ gA1).2
theorem oal3_ok : oal3 = true := mB rfl (by decide) (by
    show openV 5 1 c1 tB0 = _
    unfold openV
    have : tB0.recv = keyA := rfl
    rw [oB0, this, opA]; rfl) (by show openN 5 1 c1 tB0 = _; unfold openN; rw [oB0]; rfl)
theorem oal4_ok : oal4 = true := mB rfl (by decide) (by
    show openV 5 1 c1 tB1 = _
    unfold openV openE
    have h1 : overT 5 tB1 = false := by decide
    have h2 : decide (tB1.ct ≤ 1) = false := by decide
    rw [oB1, may2, h1, h2]; rfl) (by show openN 5 1 c1 tB1 = _; unfold openN; rw [oB1]; rfl)
theorem oal5_ok : oal5 = true := mB rfl rfl (sealVa _ _ gB1).1 (sealVa _ _ gB1).2
theorem oal6_ok : oal6 = true := mA rfl rfl (congrArg AVal.bool (show wantsT 5 tA2 = true by decide)) rfl
theorem oal7_ok : oal7 = true := mB rfl rfl (congrArg AVal.bool (show wantsT 5 tB2 = false by decide)) rfl
theorem oal8_ok : oal8 = true := mA rfl rfl (congrArg AVal.bool (show overT 24 tA2 = false by decide)) rfl
theorem oal9_ok : oal9 = true := mA rfl rfl (congrArg AVal.bool (show overT 25 tA2 = true by decide)) rfl
theorem oal10_ok : oal10 = true := mA rfl rfl (congrArg AVal.u64 (show tA2.next = 2 by decide)) rfl
theorem oal11_ok : oal11 = true := mA rfl rfl rfl rfl
theorem oal12_ok : oal12 = true := mB rfl rfl rfl rfl
theorem run8 : (run1 Try.prog csT (mask 8) 200 8 [] [] Try.prog.globals.size).map (·.1) = some (.bool true) := by
  rw [gl]
  exact ansO_run csT_ps w8 (allT_c oal12_ok (allT_c oal11_ok (allT_c oal10_ok (allT_c oal9_ok (allT_c oal8_ok (allT_c oal7_ok (allT_c oal6_ok (allT_c oal5_ok (allT_c oal4_ok (allT_c c1_len (allT_c oal3_ok (allT_c c1_len (allT_c oal2_ok (allT_c oal1_ok (allT_c oal0_ok (allT_c oNewB_ok (allT_c oNewA_ok rfl)))))))))))))))))
def g8 : List AVal → Option EffA
  | [] => some (.pure (.bool true))
  | _ => none
theorem g8_ok : CSOk Try.prog (csOne 8 g8) := csOne_ok fun args e he => by
  unfold g8 at he
  split at he
  · cases he; exact callOk_val csT_ok hmix run8 rfl rfl
  · cases he
end Go.Proofs.Ytjdhndicgifnbaa.Tun

/- What no tunnel, and no slots, answer: TunnelNil. -/
namespace Go.Proofs.Ytjdhndicgifnbaa.Tun
set_option linter.unusedVariables false
set_option linter.unusedSimpArgs false
open Go Go.Eng Go.Proofs.Ytjdhndicgifnbaa Go.Proofs.Ytjdhndicgifnbaa.Pol
set_option maxRecDepth 100000
set_option maxHeartbeats 1000000
set_option linter.unusedSimpArgs false
set_option linter.unusedVariables false
def csL : CS := csAlt (csOne 8 g8) csT
theorem csL_ok : CSOk Try.prog csL := csAlt_ok g8_ok csT_ok
theorem w5a (n : UInt64) (s : List UInt8) : ansO (run1O Try.prog noPS csL [19] [true] [] (mask 5) 200 5 [.u64 n, .str s] [] 0) = some (.bool true, [decide ((4096 : Int) < (s.length : Int))]) := by kernel_rfl
theorem w5b (n : UInt64) (s : List UInt8) : ansO (run1O Try.prog noPS csL [19] [false] [] (mask 5) 200 5 [.u64 n, .str s] [] 0) = some (.bool true, [!decide ((4096 : Int) < (s.length : Int))]) := by kernel_rfl
theorem law5 (n : UInt64) (s : List UInt8) : CallOk Try.prog 5 [.u64 n, .str s] (.pure (.bool true)) := by
  cases h : decide ((4096 : Int) < (s.length : Int)) with
  | true => exact callOk_ans csL_ok (noPS_ok _) hmix gl (w5a n s) (allT_c h rfl) rfl rfl
  | false => exact callOk_ans csL_ok (noPS_ok _) hmix gl (w5b n s) (allT_c (by rw [h]; rfl) rfl) rfl rfl
end Go.Proofs.Ytjdhndicgifnbaa.Tun

/- Engine, part 20: from a law's answer to the row. -/
namespace Go.Eng
set_option linter.unusedVariables false
set_option linter.unusedSimpArgs false
open Go Go.WideShapes Go.ChangeShapes
theorem post_of_grew {H : Type} {enc : TypeId × Value → H} {P : Program} {f : Func} {s : ChangeSpec} {apart fresh handsOn again : Bool} {W W' : World} {args : Array Value} {v : Value} {ds gs : List (DataW H)} {before pa pv : List MemPlace}
    (hW : DataW.Whole enc P f.params.toList s.vars apart W args.toList ds gs before)
    (hres : ∀ (b : Nat) (sp : Nat → Bool) (hd : Bool), DataW.TrodAll enc P W' b sp hd f.resultTypes.toList (v.resultList f.resultTypes.size) (s.fn H (ds ++ gs)).results [])
    (hargs : ∀ sp : Nat → Bool, (∀ p ∈ before, sp p.block = true) → DataW.TrodAll enc P W' 0 sp true f.params.toList args.toList (s.fn H (ds ++ gs)).args pa)
    (hvars : ∀ sp : Nat → Bool, (∀ p ∈ before, sp p.block = true) → DataW.TrodVars enc P W' sp s.vars (s.fn H (ds ++ gs)).vars pv)
    (hps : before = pa ++ pv) (hg : Grew W W')
    (hok : ∀ (j : Nat) (t : TypeId) (r : Value), f.resultTypes[j]? = some t → (v.resultList f.resultTypes.size)[j]? = some r → Value.okWide P W' .any 0 t r) :
    s.post enc P f apart fresh handsOn again W args v W' := by
  have hlt := hW.lt
  have hold : ∀ p ∈ before, (fun b => decide (b < W.heap.size)) p.block = true := fun p hp => by simpa using hlt p hp
  refine ⟨ds, gs, before, [], pa, pv, hW, hres _ _ _, hargs _ hold, hvars _ hold, World.keptBut_mono (fun p hp => hp.elim) hg.1, fun _ => ?_⟩
  obtain ⟨_, _, _, _, _, hz, hn⟩ := hW
  have hmem : ∀ p, p ∈ ([] ++ pa) ++ pv → p ∈ before := fun p hp => by rw [hps]; simpa using hp
  refine ⟨hok, _, _, ([] ++ pa) ++ pv, ⟨[] ++ pa, pv, trodAll_append (hargs _ (fun _ _ => rfl)) (hres _ _ _), hvars _ (fun _ _ => rfl), rfl, fun b off hp => ?_, fun ha => ?_⟩, fun p hp _ => ?_⟩
  · have hb := hmem _ hp
    rw [hg.2.1 ⟨b, off, none⟩ (hlt _ hb)]
    exact hz b off hb
  · have := hn ha
    rw [hps] at this
    simpa using this
  · exact hmem _ hp
/-! ### the arguments -/
theorem vr_str (σ : Sig) (a : ByteArray) : VR σ (.str a.data.toList) (.string a) := by
  have := VR.str (σ := σ) a.data.toList
  rwa [Array.toArray_toList] at this
theorem wf_le {k : IntKind} {n : Int} (h : (Lit.int k n).wf = true) : k.min ≤ n ∧ n ≤ k.max := by
  simpa only [Lit.wf, Bool.and_eq_true, decide_eq_true_eq] using h
theorem vr_u8 {a : Int} (h : (Lit.int .u8 a).wf = true) : ∃ x : UInt8, ∀ σ, VR σ (.u8 x) (.int .u8 a) := by
  have h' := wf_le h
  have h1 : (0 : Int) ≤ a := h'.1
  have h2 : a ≤ 255 := h'.2
  refine ⟨UInt8.ofNat a.toNat, fun σ => ?_⟩
  have e : ((UInt8.ofNat a.toNat).toNat : Int) = a := by rw [UInt8.toNat_ofNat_of_lt' (show a.toNat < 256 by omega)]; omega
  have := VR.u8 (σ := σ) (UInt8.ofNat a.toNat)
  rwa [e] at this
theorem vr_u32 {a : Int} (h : (Lit.int .u32 a).wf = true) : ∃ x : UInt32, ∀ σ, VR σ (.u32 x) (.int .u32 a) := by
  have h' := wf_le h
  have h1 : (0 : Int) ≤ a := h'.1
  have h2 : a ≤ 4294967295 := h'.2
  refine ⟨UInt32.ofNat a.toNat, fun σ => ?_⟩
  have e : ((UInt32.ofNat a.toNat).toNat : Int) = a := by rw [UInt32.toNat_ofNat_of_lt' (show a.toNat < 4294967296 by omega)]; omega
  have := VR.u32 (σ := σ) (UInt32.ofNat a.toNat)
  rwa [e] at this
theorem vr_u64 {a : Int} (h : (Lit.int .u64 a).wf = true) : ∃ x : UInt64, ∀ σ, VR σ (.u64 x) (.int .u64 a) := by
  have h' := wf_le h
  have h1 : (0 : Int) ≤ a := h'.1
  have h2 : a ≤ 18446744073709551615 := h'.2
  refine ⟨UInt64.ofNat a.toNat, fun σ => ?_⟩
  have e : ((UInt64.ofNat a.toNat).toNat : Int) = a := by rw [UInt64.toNat_ofNat_of_lt' (show a.toNat < 18446744073709551616 by omega)]; omega
  have := VR.u64 (σ := σ) (UInt64.ofNat a.toNat)
  rwa [e] at this
end Go.Eng
