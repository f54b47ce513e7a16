/- Texts APn2, APv3, APv4, APv5, APv6, APq1, APq2, Ae0, Ae1, Ae2, Ae3, Ae4: what they show stands ahead of each. -/
import Derived.Test.YtifohjjmbohhnaaT10
import Derived.Test.YtifohjjmbohhnaaT7
import Derived.Test.YtifohjjmbohhnaaT9
/- The document's tag: what it makes. -/
namespace Go.Proofs.Ytifohjjmbohhnaa.Pol
set_option linter.unusedVariables false
set_option linter.unusedSimpArgs false
open Go Go.Eng
set_option maxRecDepth 1000000
set_option maxHeartbeats 1000000
set_option linter.unusedSimpArgs false
set_option linter.unusedVariables false
def pK (s : List UInt8) (k : Nat) : List UInt8 := (s.take (16 * k + mC s k)).drop (16 * k)
def B8 (h : Nat → UInt64) (p : List UInt8) : Nat → Nat → UInt64
  | 0 => h
  | i + 1 => updF (B8 h p i) i (B8 h p i i + (p.getD i 0).toUInt64)
def oneD (h : Nat → UInt64) (p : List UInt8) : Nat → UInt64 := updF (B8 h p p.length) p.length (B8 h p p.length p.length + 1)
def stepD (θ : Fq) (kf : Nat → UInt8) (h : Nat → UInt64) (p : List UInt8) : Nat → UInt64 := θ.mulR (gU (cellsU 18 (θ.carR (gU (cellsU 18 (oneD h p)))))) (gU (cellsU 18 (mk8 kf)))
def hD (θ : Fq) (kf : Nat → UInt8) (s : List UInt8) : Nat → Nat → UInt64
  | 0 => fun _ => 0
  | k + 1 => stepD θ kf (hD θ kf s k) (pK s k)
def docF (θ : Fq) (kf : Nat → UInt8) (s : List UInt8) : List UInt8 := (List.range 16).map (uN (θ.whole (gU (cellsU 18 (hD θ kf s (nC s))))) kf 16)
theorem mC_bnd {s : List UInt8} {k : Nat} (hk : k < nC s) : 16 * k < s.length ∧ 16 * k + mC s k ≤ s.length ∧ 0 < mC s k ∧ mC s k ≤ 16 := by
  have hlt : 16 * k < s.length := by unfold nC at hk; omega
  have hm1 : 16 * k + mC s k ≤ s.length := by unfold mC; split <;> omega
  have hm0 : 0 < mC s k := by unfold mC; split <;> omega
  have hm16 : mC s k ≤ 16 := by unfold mC; split <;> omega
  exact ⟨hlt, hm1, hm0, hm16⟩
theorem pK_len {s : List UInt8} {k : Nat} (hk : k < nC s) : (pK s k).length = mC s k := by
  obtain ⟨h1, h2, h3, h4⟩ := mC_bnd hk
  unfold pK
  rw [List.length_drop, List.length_take]
  omega
/-- One piece. -/
theorem round8 (θ : Fq) (kf : Nat → UInt8) (s : List UInt8) (h : Nat → UInt64) (F k : Nat) (hk : k < nC s) (hF : 20 < F) (hs : s.length < 1000000000000) :
    roundA (evC Try.prog (nq θ) Try.f27.ntmps (mask 27) F 0 b8) (headA Try.prog 0 (S8 kf s (mk8 kf) (fun _ => 0) (16 * 0))) (S8 kf s (mk8 kf) h (16 * k)) = some (S8 kf s (mk8 kf) (stepD θ kf h (pK s k)) (16 * (k + 1))) := by
  obtain ⟨h1, h2, h3, h4⟩ := mC_bnd hk
  have hpl := pK_len hk
  obtain ⟨r, hr⟩ : ∃ r, r = mk8 kf := ⟨_, rfl⟩
  have hst : stepD θ kf h (pK s k) = θ.mulR (gU (cellsU 18 (θ.carR (gU (cellsU 18 (oneD h (pK s k))))))) (gU (cellsU 18 r)) := by rw [hr]; rfl
  rw [hst, ← hr]
  obtain ⟨p, hp⟩ : ∃ p, p = pK s k := ⟨_, rfl⟩
  rw [← hp] at hpl ⊢
  have a1 := segO_pre (noPS_ok _) (d8o θ kf s (16 * k) F r h) (by simp only [allT, decide_eq_true (show ((16 * k : Nat) : Int) < (s.length : Int) by omega), cond_true])
  have a2 := segO_ok (noPS_ok _) (d8i θ kf s p (16 * k) (16 * k + mC s k) (16 * k + 16) F r h) (by
    have o1 : eqS (.str ((s.take ((16 * k + mC s k : Nat) : Int).toNat).drop ((16 * k : Nat) : Int).toNat)) (.str p) = true := by
      rw [Int.toNat_natCast, Int.toNat_natCast, hp]
      simp [eqS, pK]
    have o2 : (decide (0 ≤ ((16 * k : Nat) : Int)) && (decide (((16 * k : Nat) : Int) ≤ ((16 * k + mC s k : Nat) : Int)) && decide (((16 * k + mC s k : Nat) : Int) ≤ (s.length : Int)))) = true := by
      simp only [Bool.and_eq_true, decide_eq_true_eq]; omega
    have o3 : eqS (.int .i64 (if (s.length : Int) < ((16 * k + 16 : Nat) : Int) then (s.length : Int) else ((16 * k + 16 : Nat) : Int))) (.int .i64 ((16 * k + mC s k : Nat) : Int)) = true := eqI (by
      unfold mC
      by_cases h : s.length - 16 * k < 16
      · rw [if_pos h, if_pos (by omega)]; omega
      · rw [if_neg h, if_neg (by omega)])
    have o4 : eqS (.int .i64 (IntKind.wrap .i64 (((16 * k : Nat) : Int) + 16))) (.int .i64 ((16 * k + 16 : Nat) : Int)) = true := eqI (by rw [wrapI _ (by omega) (by omega)]; omega)
    simp only [allT, o1, o2, o3, o4, cond_true])
  rw [List.drop_zero] at a2
  have lp := evS_loop (P := Try.prog) (cs := nq θ) (nt := Try.f27.ntmps) (nn := mask 27) (F := F) (bs := 0) pi8_2 (fun j => SI8 kf s r (B8 h p j) (16 * k) p j) p.length (fun j hj => by
    have hj18 : j < 18 := by omega
    have e := putA_cellsU (B8 h p j) (B8 h p j j + (p.getD j 0).toUInt64) hj18
    have q := d8r θ kf s p (j + 1) j (16 * k) F r (B8 h p j) (B8 h p 0)
    rw [Int.toNat_natCast] at q
    rw [Int.toNat_natCast] at e
    rw [e] at q
    refine roundO2_ok (noPS_ok _) q ?_ (okI8 kf s p (j + 1) (16 * k) r (B8 h p (j + 1)))
    have o1 : Nat.ble (0 + j * 1 + (cellsA (.u64 (B8 h p j j + (p.getD j 0).toUInt64))).length) 18 = true := Nat.ble_eq_true_of_le (by show 0 + j * 1 + 1 ≤ 18; omega)
    have o2 : decide ((j : Int) < 18) = true := decide_eq_true (by omega)
    have o3 : decide ((j : Int) < (p.length : Int)) = true := decide_eq_true (by omega)
    have o4 := isAt_cellsU (B8 h p j) hj18
    rw [Int.toNat_natCast] at o4
    simp only [allT, plus1 (show j < 1000 by omega), cellsU_len, o1, o2, o3, o4, nat0, Bool.and_self, cond_true])
    (end7 (d8x θ kf s p p.length (16 * k) F r (B8 h p p.length)) (by simp only [allT, decide_eq_false (show ¬ ((p.length : Int) < (p.length : Int)) by omega), Bool.not_false, cond_true])) (by omega)
  have hq18 : p.length < 18 := by omega
  have e5 := putA_cellsU (B8 h p p.length) (B8 h p p.length p.length + 1) hq18
  have a3 := d8q θ kf s p p.length (16 * k) F r (B8 h p p.length)
  rw [e5] at a3
  have a3 := segO_ok (noPS_ok _) a3 (by
    have o1 : Nat.ble (0 + (p.length : Int).toNat * 1 + (cellsA (.u64 (B8 h p p.length p.length + 1))).length) 18 = true := ble_i hq18
    have o2 : decide ((p.length : Int) < 18) = true := decide_eq_true (by omega)
    simp only [allT, cellsU_len, o1, o2, isAt_cellsU (B8 h p p.length) hq18, nat0, Bool.and_self, cond_true])
  have a4 := segO_ok (noPS_ok _) (d8m θ kf s p p.length (16 * k) F r (oneD h p)) rfl
  have e2 := evC_block (id := 7) (b := bi8) ((evC_pieces _ _).trans (a2.trans (lp.trans (a3.trans (a4.trans (by rw [d8p]; rfl))))))
  have a5 := segO_pre (noPS_ok _) (d8z θ kf s p (16 * (k + 1)) p.length (16 * k) F r (θ.mulR (gU (cellsU 18 (θ.carR (gU (cellsU 18 (oneD h p)))))) (gU (cellsU 18 r)))) (by
    have o4 : eqS (.int .i64 (IntKind.wrap .i64 (((16 * k : Nat) : Int) + 16))) (.int .i64 ((16 * (k + 1) : Nat) : Int)) = true := eqI (by rw [wrapI _ (by omega) (by omega)]; omega)
    simp only [allT, o4, cond_true])
  refine round_of44 ?_ (d8h kf s p (16 * (k + 1)) p.length r _ (fun _ => 0)) rfl (ok8 ..)
  rw [po8_eq, evS_append a1]
  simp only [evS, e2]
  exact a5
theorem f8_at : Try.prog.funcs[27]? = some Try.f27 := by kernel_rfl
theorem f8_body : Try.f27.body = some (bodyOf Try.f27) := by kernel_rfl
theorem run8 (θ : Fq) (kf : Nat → UInt8) (s : List UInt8) (hs : s.length < 1000000000000) : (run1 Try.prog (nq θ) (mask 27) (s.length + 100 + 100) 27 [.str (keyL kf), .str s] [] 0).map (·.1) = some (.tup [.str (docF θ kf s), .int .i64 0]) := by
  have a1 := segO_pre (noPS_ok _) (d8a θ kf s (s.length + 100)) rfl
  have hn : nC s < s.length + 100 + 100 := by unfold nC; omega
  have lp := evS_loop (P := Try.prog) (cs := nq θ) (nt := Try.f27.ntmps) (nn := mask 27) (F := s.length + 100 + 100) (bs := 0) p8_12 (fun k => S8 kf s (mk8 kf) (hD θ kf s k) (16 * k)) (nC s) (fun k hk => round8 θ kf s (hD θ kf s k) _ k hk (by omega) hs)
    (end7 (d8e θ kf s (16 * nC s) (s.length + 100 + 100) (mk8 kf) (hD θ kf s (nC s))) (by simp only [allT, decide_eq_false (show ¬ (((16 * nC s : Nat) : Int) < (s.length : Int)) by unfold nC; omega), Bool.not_false, cond_true])) hn
  have z := (ansF_ok2 (noPS_ok (nq θ)) (d8t θ kf s (16 * nC s) (s.length + 100) (mk8 kf) (hD θ kf s (nC s))) rfl).1
  have hnm : Nat.ble ([AVal.str (keyL kf), .str s] : List AVal).length Try.f27.ntmps = true := by kernel_rfl
  have e : pieces (bodyOf Try.f27) = (pieces (bodyOf Try.f27)).take 12 ++ (pieces (bodyOf Try.f27)).drop 12 := (List.take_append_drop 12 _).symm
  have e2 := (congrArg (fun l => evS Try.prog (nq θ) Try.f27.ntmps (mask 27) (s.length + 100 + 100) 0 l ⟨startT [.str (keyL kf), .str s] 0, [], 0⟩) e).trans ((evS_append a1).trans lp)
  exact (run1_val f8_at f8_body hnm).trans ((congrArg (finV Try.prog Try.f27) e2).trans z)
theorem callOk8 {θ : Fq} (hq : CSOk Try.prog (nq θ)) (kf : Nat → UInt8) (s : List UInt8) (hs : s.length < 1000000000000) : CallOk Try.prog 27 [.str (keyL kf), .str s] (.pure (.tup [.str (docF θ kf s), .int .i64 0])) :=
  callOk_val hq hmix (by rw [gl]; exact run8 θ kf s hs) rfl rfl
/-- Keys of another length. -/
theorem run7n (θ : Fq) (k s : List UInt8) : ansO (run1O Try.prog noPS (nq θ) [21] [true] [] (mask 24) 100 24 [.str k, .str s] [] Try.prog.globals.size) = some (.tup [.str [], .int .i64 2], [(k.length : Int) != 32]) := by kernel_rfl
theorem run8n (θ : Fq) (k s : List UInt8) : ansO (run1O Try.prog noPS (nq θ) [20] [true] [] (mask 27) 100 27 [.str k, .str s] [] Try.prog.globals.size) = some (.tup [.str [], .int .i64 2], [(k.length : Int) != 32]) := by kernel_rfl
end Go.Proofs.Ytifohjjmbohhnaa.Pol

/- The functions on parts reckon as numbers do. -/
namespace Go.Proofs.Ytifohjjmbohhnaa.Pol
set_option linter.unusedVariables false
set_option linter.unusedSimpArgs false
open Go Go.Eng Go.Poly
set_option maxRecDepth 100000
set_option maxHeartbeats 1000000
set_option linter.unusedSimpArgs false
set_option linter.unusedVariables false
def nt (x : Nat → UInt64) (i : Nat) : Nat := (x i).toNat
def V5 (x : Nat → UInt64) : Nat := vN B26 (nt x) 5
def V18 (x : Nat → UInt64) : Nat := vN 256 (nt x) 18
theorem shr_n (x : UInt64) (s : Nat) (h : s < 64) : (shr_u64 x s).toNat = x.toNat / 2 ^ s := shr_nat x s h
theorem add_n {x y : UInt64} (h : x.toNat + y.toNat < 18446744073709551616) : (x + y).toNat = x.toNat + y.toNat := by
  rw [UInt64.toNat_add]; exact Nat.mod_eq_of_lt h
theorem mul_n {x y : UInt64} (h : x.toNat * y.toNat < 18446744073709551616) : (x * y).toNat = x.toNat * y.toNat := by
  rw [UInt64.toNat_mul]; exact Nat.mod_eq_of_lt h
theorem and26 (x : UInt64) : (x &&& 67108863).toNat = x.toNat % 67108864 := by
  rw [UInt64.toNat_and]
  exact Nat.and_two_pow_sub_one_eq_mod x.toNat 26
theorem and8 (x : UInt64) : (x &&& 255).toNat = x.toNat % 256 := by
  rw [UInt64.toNat_and]
  exact Nat.and_two_pow_sub_one_eq_mod x.toNat 8
theorem and2 (x : UInt64) : (x &&& 3).toNat = x.toNat % 4 := by
  rw [UInt64.toNat_and]
  exact Nat.and_two_pow_sub_one_eq_mod x.toNat 2
abbrev M62 : Nat := 4611686018427387904
theorem ch_lt {b : Nat} (hb : 2 ≤ b) {X : Nat → Nat} {j : Nat} (h : ∀ i, i ≤ j → X i < M62) : chN b X j < 2 * M62 := by
  have := ch_bound hb (x := X) (M := M62 - 1) (j := j) fun i hi => by have := h i hi; omega
  unfold M62 at *
  omega
theorem chS_n {s : Nat} (h1 : 1 ≤ s) (h2 : s < 64) {x : Nat → UInt64} : ∀ {j : Nat}, (∀ i, i ≤ j → nt x i < M62) → (chS s x j).toNat = chN (2 ^ s) (nt x) j
  | 0, h => by
    show (x 0 + 0).toNat = _
    rw [UInt64.add_zero]; rfl
  | j + 1, h => by
    have hb : 2 ≤ 2 ^ s := by
      have := Nat.pow_le_pow_right (n := 2) (by omega) h1
      simpa using this
    have ih := chS_n h1 h2 (x := x) (j := j) fun i hi => h i (by omega)
    have hl := ch_lt hb (X := nt x) (j := j + 1) h
    have e : chN (2 ^ s) (nt x) (j + 1) = nt x (j + 1) + chN (2 ^ s) (nt x) j / 2 ^ s := rfl
    show (x (j + 1) + shr_u64 (chS s x j) s).toNat = _
    have es : (shr_u64 (chS s x j) s).toNat = chN (2 ^ s) (nt x) j / 2 ^ s := by rw [shr_n _ _ h2, ih]
    rw [add_n (by rw [es]; unfold nt at *; unfold M62 at *; omega), es, e]; rfl
theorem chN_congr {b : Nat} {X Y : Nat → Nat} : ∀ {j : Nat}, (∀ i, i ≤ j → X i = Y i) → chN b X j = chN b Y j
  | 0, h => h 0 (by omega)
  | j + 1, h => by
    show X (j + 1) + chN b X j / b = Y (j + 1) + chN b Y j / b
    rw [h (j + 1) (by omega), chN_congr (j := j) fun i hi => h i (by omega)]
theorem pass5_congr {X Y : Nat → Nat} (h : ∀ i, i < 5 → X i = Y i) {j : Nat} (hj : j < 5) : pass5 X j = pass5 Y j := by
  unfold pass5
  rw [chN_congr (X := X) (Y := Y) (j := 0) fun i hi => h i (by omega), chN_congr (X := X) (Y := Y) (j := 4) fun i hi => h i (by omega), chN_congr (X := X) (Y := Y) (j := j) fun i hi => h i (by omega)]
theorem cpass_n {x : Nat → UInt64} (h : ∀ i, i < 5 → nt x i < M62) {j : Nat} (hj : j < 5) : nt (cpass x) j = pass5 (nt x) j := by
  have hc : ∀ k, k < 5 → (chS 26 x k).toNat = chN B26 (nt x) k := fun k hk => chS_n (by omega) (by omega) fun i hi => h i (by omega)
  have h4 := ch_lt (b := B26) (by unfold B26; omega) (X := nt x) (j := 4) fun i hi => h i (by omega)
  have e4 : (shr_u64 (chS 26 x 4) 26).toNat = chN B26 (nt x) 4 / B26 := by rw [shr_n _ _ (by omega), hc 4 (by omega)]
  show (cpass x j).toNat = _
  unfold cpass pass5
  by_cases e : j = 0
  · subst e
    rw [if_pos rfl, show Nat.beq 0 0 = true by rfl, cond_true]
    have e5 : (5 * shr_u64 (chS 26 x 4) 26).toNat = 5 * (chN B26 (nt x) 4 / B26) := by
      have : (5 : UInt64).toNat = 5 := rfl
      rw [mul_n (by rw [e4, this]; unfold M62 B26 at *; omega), e4, this]
    have e6 : (chS 26 x 0 &&& 67108863).toNat = chN B26 (nt x) 0 % B26 := by rw [and26, hc 0 (by omega)]
    rw [add_n (by rw [e5, e6]; unfold M62 B26 at *; omega), e5, e6]
  · rw [if_neg e, show Nat.beq j 0 = false by cases j with | zero => exact absurd rfl e | succ j => rfl, cond_false, and26, hc j hj]
theorem cpass_lt {x : Nat → UInt64} (h : ∀ i, i < 5 → nt x i < M62) : ∀ i, i < 5 → nt (cpass x) i < M62 := fun i hi => by
  rw [cpass_n h hi]
  obtain ⟨a, b⟩ := pass5_1 (X := nt x) h
  by_cases e : i = 0
  · subst e; unfold M62; omega
  · have := b i (by omega) hi
    unfold B26 at this
    unfold M62
    omega
theorem carF_n {x : Nat → UInt64} (h : ∀ i, i < 5 → nt x i < M62) : ∀ j, j < 5 → nt (carF x) j = carN5 (nt x) j := fun j hj => by
  unfold carF carN5
  rw [cpass_n (cpass_lt h) hj]
  exact pass5_congr (fun i hi => cpass_n h hi) hj
theorem N5_congr {X Y : Nat → Nat} (h : ∀ i, i < 5 → X i = Y i) (hN : N5 Y) : N5 X := ⟨by rw [h 0 (by omega)]; exact hN.1, fun i h0 hi => by rw [h i hi]; exact hN.2 i h0 hi⟩
theorem T5_congr {X Y : Nat → Nat} (h : ∀ i, i < 5 → X i = Y i) (hN : T5 Y) : T5 X := fun i hi => by rw [h i hi]; exact hN i hi
theorem carF_ok {x : Nat → UInt64} (h : ∀ i, i < 5 → nt x i < M62) : N5 (nt (carF x)) ∧ V5 (carF x) % Pp = V5 x % Pp ∧ (N5 (nt x) → T5 (nt (carF x))) := by
  have e := carF_n h
  refine ⟨N5_congr e (carN5_ok h), ?_, fun hn => T5_congr e (carN5_tight hn)⟩
  unfold V5
  rw [vN_congr e, carN5_mod]
theorem N5_62 {X : Nat → Nat} (h : N5 X) : ∀ i, i < 5 → X i < M62 := fun i hi => by
  have := N5_lt h i hi
  unfold M62
  omega
theorem nt_nU (x : Nat → UInt64) (k : Nat) : ∀ i, i < k → nt (nU k x) i = nt x i := fun i hi => by unfold nt nU; rw [if_pos hi]
theorem V5_nU (x : Nat → UInt64) : V5 (nU 5 x) = V5 x := vN_congr (nt_nU x 5)
theorem V18_nU (x : Nat → UInt64) : V18 (nU 18 x) = V18 x := vN_congr (nt_nU x 18)
/-! ### products of five parts -/
theorem zS_n {x y : Nat → UInt64} (hx : ∀ i, i < 5 → nt x i < 134217728) (hy : ∀ i, i < 5 → nt y i < 134217728) {j : Nat} (hj : j < 5) : ∀ k, k ≤ 5 → (zS x y j k).toNat = zN (nt x) (nt y) j k ∧ zN (nt x) (nt y) j k ≤ k * 90071992547409920
  | 0, _ => ⟨rfl, Nat.le_refl _⟩
  | k + 1, hk => by
    obtain ⟨h1, h2⟩ := zS_n hx hy hj k (by omega)
    have xk := hx k (by omega)
    have hf : ∀ m, m < 5 → (y m * 5).toNat = nt y m * 5 := fun m hm => by
      have := hy m hm
      have e5 : (5 : UInt64).toNat = 5 := rfl
      rw [mul_n (by rw [e5]; unfold nt at this; omega), e5]; rfl
    have key : ∃ u : Nat, (cond (Nat.ble k j) (y (j - k)) (y (j + 5 - k) * 5)).toNat = u ∧ (if k ≤ j then nt y (j - k) else nt y (j + 5 - k) * 5) = u ∧ u ≤ 671088640 := by
      by_cases h : k ≤ j
      · rw [Nat.ble_eq_true_of_le h, if_pos h, cond_true]
        have := hy (j - k) (by omega)
        exact ⟨_, rfl, rfl, by unfold nt at *; omega⟩
      · have hb : Nat.ble k j = false := by
          cases hb : Nat.ble k j with
          | false => rfl
          | true => exact absurd (Nat.le_of_ble_eq_true hb) h
        rw [hb, if_neg h, cond_false]
        have := hy (j + 5 - k) (by omega)
        exact ⟨_, hf _ (by omega), rfl, by omega⟩
    obtain ⟨u, k1, k2, k3⟩ := key
    have hm : nt x k * u ≤ 134217728 * 671088640 := Nat.mul_le_mul (by omega) k3
    have e1 : zN (nt x) (nt y) j (k + 1) = zN (nt x) (nt y) j k + nt x k * u := by rw [← k2]; rfl
    have hxm : (x k * cond (Nat.ble k j) (y (j - k)) (y (j + 5 - k) * 5)).toNat = nt x k * u := by
      have : (x k).toNat = nt x k := rfl
      rw [mul_n (by rw [k1, this]; omega), k1]; rfl
    rw [e1]
    refine ⟨?_, by rw [Nat.add_mul]; omega⟩
    show (zS x y j k + x k * cond (Nat.ble k j) (y (j - k)) (y (j + 5 - k) * 5)).toNat = _
    rw [add_n (by rw [h1, hxm]; omega), h1, hxm]
theorem mulF_ok {x y : Nat → UInt64} (hx : ∀ i, i < 5 → nt x i < 134217728) (hy : ∀ i, i < 5 → nt y i < 134217728) : N5 (nt (mulF x y)) ∧ V5 (mulF x y) % Pp = V5 x * V5 y % Pp := by
  have e : ∀ j, j < 5 → nt (nU 5 fun j => zS x y j 5) j = zN (nt x) (nt y) j 5 := fun j hj => by
    rw [nt_nU _ _ j hj]
    exact (zS_n hx hy hj 5 (by omega)).1
  have hl : ∀ i, i < 5 → nt (nU 5 fun j => zS x y j 5) i < M62 := fun i hi => by
    have := (zS_n hx hy hi 5 (by omega)).2
    rw [e i hi]
    unfold M62
    omega
  unfold mulF
  rw [gU_cellsU]
  obtain ⟨h1, h2, _⟩ := carF_ok hl
  refine ⟨h1, ?_⟩
  rw [h2]
  unfold V5
  rw [vN_congr e, zN_mod]
/-! ### what is below the prime -/
theorem plus5_n {x : Nat → UInt64} (h : nt x 0 < M62) : ∀ i, nt (plus5 x) i = if i = 0 then nt x 0 + 5 else nt x i := fun i => by
  unfold plus5
  cases i with
  | zero =>
    show (x 0 + 5).toNat = _
    have e5 : (5 : UInt64).toNat = 5 := rfl
    rw [if_pos rfl, add_n (by rw [e5]; unfold nt M62 at h; omega), e5]; rfl
  | succ i => rfl
theorem redF_ok {x : Nat → UInt64} (h : ∀ i, i < 5 → nt x i < M62) : T5 (nt (redF x)) ∧ V5 (redF x) = V5 x % Pp := by
  obtain ⟨w, hw⟩ : ∃ w, w = car2 τr x := ⟨_, rfl⟩
  have hT : T5 (nt w) ∧ V5 w % Pp = V5 x % Pp := by
    have e : w = nU 5 (carF (nU 5 (carF (nU 5 x)))) := by
      rw [hw]; unfold car2
      rw [gU_cellsU, gU_cellsU, gU_cellsU]; rfl
    have a0 : ∀ i, i < 5 → nt (nU 5 x) i < M62 := fun i hi => by rw [nt_nU _ _ i hi]; exact h i hi
    obtain ⟨b1, b2, _⟩ := carF_ok a0
    have c0 : N5 (nt (nU 5 (carF (nU 5 x)))) := N5_congr (nt_nU _ 5) b1
    obtain ⟨d1, d2, d3⟩ := carF_ok (N5_62 c0)
    rw [e]
    refine ⟨T5_congr (nt_nU _ 5) (d3 c0), ?_⟩
    rw [V5_nU, d2, V5_nU, b2, V5_nU]
  obtain ⟨hT, hV⟩ := hT
  have hlt : V5 w < B26 ^ 5 := vN_lt (by unfold B26; omega) hT
  have hw62 : ∀ i, i < 5 → nt w i < 67108864 := hT
  have hp5 := plus5_n (x := w) (by have := hw62 0 (by omega); unfold M62; omega)
  have hpl : ∀ i, i < 5 → nt (plus5 w) i < M62 := fun i hi => by
    have := hw62 i hi
    have := hw62 0 (by omega)
    rw [hp5 i]
    unfold M62
    split <;> omega
  have hch : ∀ j, j < 5 → (chS 26 (plus5 w) j).toNat = chN B26 (nt (plus5 w)) j := fun j hj => chS_n (by omega) (by omega) fun i hi => hpl i (by omega)
  have hv5 : vN B26 (nt (plus5 w)) 5 = V5 w + 5 := by
    have := vN_upd B26 (nt w) 0 5 5 (by omega)
    rw [Nat.pow_zero, Nat.mul_one] at this
    unfold V5
    rw [← this]
    exact vN_congr fun i _ => hp5 i
  have hc := carry_val B26 (nt (plus5 w)) 4
  have hcv : vN B26 (nt (plus5 w)) (4 + 1) = V5 w + 5 := hv5
  rw [hcv] at hc
  have hr5 : ∀ i, i < 5 → nt (red5 w) i = chN B26 (nt (plus5 w)) i % B26 := fun i hi => by
    show (chS 26 (plus5 w) i &&& 67108863).toNat = _
    rw [and26, hch i hi]
  have hrT : T5 (nt (red5 w)) := fun i hi => by rw [hr5 i hi]; exact Nat.mod_lt _ (by unfold B26; omega)
  have hrV : vN B26 (fun i => chN B26 (nt (plus5 w)) i % B26) (4 + 1) = V5 (red5 w) := (vN_congr hr5).symm
  rw [hrV] at hc
  have hrl : V5 (red5 w) < B26 ^ 5 := vN_lt (by unfold B26; omega) hrT
  have hC : (redC w).toNat = chN B26 (nt (plus5 w)) 4 / B26 := by
    show (shr_u64 (chS 26 (plus5 w) 4) 26).toNat = _
    rw [shr_n _ _ (by omega), hch 4 (by omega)]
  rw [← hC] at hc
  have hcond : decide (0 < redC w) = decide (0 < (redC w).toNat) := decide_eq_decide.2 UInt64.lt_iff_toNat_lt
  have hP := Pp_eq
  have hB : B26 ^ 5 = 2 ^ 130 := rfl
  have hB' : B26 ^ (4 + 1) = 2 ^ 130 := rfl
  rw [hB] at hlt hrl
  rw [hB'] at hc
  unfold redF
  rw [← hw, hcond, ← hV]
  generalize (redC w).toNat = k at *
  by_cases hk : 0 < k
  · rw [decide_eq_true hk, cond_true]
    refine ⟨hrT, ?_⟩
    generalize V5 (red5 w) = r at *
    generalize V5 w = v at *
    have hk1 : k = 1 := by omega
    subst hk1
    have : v = r + Pp := by omega
    have hrP : r < Pp := by omega
    rw [this, Nat.add_mod_right, Nat.mod_eq_of_lt hrP]
  · rw [decide_eq_false hk, cond_false]
    refine ⟨hT, ?_⟩
    generalize V5 (red5 w) = r at *
    generalize V5 w = v at *
    rw [Nat.mod_eq_of_lt (by omega)]
end Go.Proofs.Ytifohjjmbohhnaa.Pol

/- The document's functions on 18 parts reckon as numbers do. -/
namespace Go.Proofs.Ytifohjjmbohhnaa.Pol
set_option linter.unusedVariables false
set_option linter.unusedSimpArgs false
open Go Go.Eng Go.Poly
set_option maxRecDepth 100000
set_option maxHeartbeats 1000000
set_option linter.unusedSimpArgs false
set_option linter.unusedVariables false
abbrev M40 : Nat := 1099511627776
theorem or_n {a b k : Nat} (h : b < 2 ^ k) : (b ||| 2 ^ k * a) = b + 2 ^ k * a := by
  rw [Nat.or_comm, ← Nat.two_pow_add_eq_or_of_lt h, Nat.add_comm]
theorem shl_n (x : UInt64) (k : Nat) (hk : k < 64) (h : x.toNat * 2 ^ k < 18446744073709551616) : (shl_u64 x k).toNat = x.toNat * 2 ^ k := shl_nat x k hk h
theorem chS8 {x : Nat → UInt64} {n : Nat} (h : ∀ i, i < n → nt x i < M40) {j : Nat} (hj : j < n) : (chS 8 x j).toNat = chN 256 (nt x) j :=
  chS_n (s := 8) (by omega) (by omega) fun i hi => by have := h i (by omega); unfold M40 M62 at *; omega
theorem ch40 {X : Nat → Nat} {j : Nat} (h : ∀ i, i ≤ j → X i < M40) : chN 256 X j < 2 * M40 := by
  have := ch_bound (b := 256) (by omega) (x := X) (M := M40 - 1) (j := j) fun i hi => by have := h i hi; omega
  unfold M40 at *
  omega
theorem top_n {x : Nat → UInt64} (h : ∀ i, i < 18 → nt x i < M40) : ((shr_u64 (chS 8 x 16 &&& 255) 2 ||| shl_u64 (chS 8 x 17 &&& 255) 6) ||| shl_u64 (shr_u64 (chS 8 x 17) 8) 14).toNat = topN (nt x) ∧ topN (nt x) < M40 * M40 / 1048576 := by
  have h16 := chS8 h (show 16 < 18 by omega)
  have h17 := chS8 h (show 17 < 18 by omega)
  have b17 := ch40 (X := nt x) (j := 17) fun i hi => h i (by omega)
  have a1 : (shr_u64 (chS 8 x 16 &&& 255) 2).toNat = chN 256 (nt x) 16 % 256 / 4 := by rw [shr_n _ _ (by omega), and8, h16]
  have a2 : (shl_u64 (chS 8 x 17 &&& 255) 6).toNat = 2 ^ 6 * (chN 256 (nt x) 17 % 256) := by
    rw [shl_n _ _ (by omega) (by rw [and8]; omega), and8, h17, Nat.mul_comm]
  have a3' : (shr_u64 (chS 8 x 17) 8).toNat = chN 256 (nt x) 17 / 256 := by rw [shr_n _ _ (by omega), h17]
  have a3 : (shl_u64 (shr_u64 (chS 8 x 17) 8) 14).toNat = 2 ^ 14 * (chN 256 (nt x) 17 / 256) := by
    rw [shl_n _ _ (by omega) (by rw [a3']; unfold M40 at *; omega), a3', Nat.mul_comm]
  rw [UInt64.toNat_or, UInt64.toNat_or, a1, a2, a3]
  unfold topN
  unfold M40 at *
  generalize chN 256 (nt x) 16 = u at *
  generalize chN 256 (nt x) 17 = w at *
  have o1 : (u % 256 / 4 ||| 2 ^ 6 * (w % 256)) = u % 256 / 4 + 2 ^ 6 * (w % 256) := or_n (by omega)
  rw [o1, or_n (by omega)]
  omega
theorem rpass_n {x : Nat → UInt64} (h : ∀ i, i < 18 → nt x i < M40) {j : Nat} (hj : j < 18) : nt (rpass x) j = rpassN (nt x) j := by
  obtain ⟨t1, t2⟩ := top_n h
  have hc : ∀ i, i < 18 → (chS 8 x i &&& 255).toNat = chN 256 (nt x) i % 256 := fun i hi => by rw [and8, chS8 h hi]
  by_cases h0 : j = 0
  · subst h0
    show ((chS 8 x 0 &&& 255) + 5 * ((shr_u64 (chS 8 x 16 &&& 255) 2 ||| shl_u64 (chS 8 x 17 &&& 255) 6) ||| shl_u64 (shr_u64 (chS 8 x 17) 8) 14)).toNat = chN 256 (nt x) 0 % 256 + 5 * topN (nt x)
    have e5 : (5 : UInt64).toNat = 5 := rfl
    have e6 : (5 * ((shr_u64 (chS 8 x 16 &&& 255) 2 ||| shl_u64 (chS 8 x 17 &&& 255) 6) ||| shl_u64 (shr_u64 (chS 8 x 17) 8) 14)).toNat = 5 * topN (nt x) := by
      rw [mul_n (by rw [e5, t1]; unfold M40 at *; omega), t1, e5]
    rw [add_n (by rw [e6, hc 0 (by omega)]; unfold M40 at *; omega), e6, hc 0 (by omega)]
  by_cases h1 : j = 16
  · subst h1
    show ((chS 8 x 16 &&& 255) &&& 3).toNat = chN 256 (nt x) 16 % 256 % 4
    rw [and2, hc 16 (by omega)]
  by_cases h2 : j = 17
  · subst h2; rfl
  have e1 : rpass x j = (chS 8 x j &&& 255) := by
    unfold rpass
    split
    · exact absurd rfl h0
    · exact absurd rfl h1
    · exact absurd rfl h2
    · rfl
  show (rpass x j).toNat = _
  rw [e1, hc j hj]
  unfold rpassN lowN
  rw [if_neg h0, if_neg h1, if_neg h2]
theorem rpassN_congr {X Y : Nat → Nat} (h : ∀ i, i < 18 → X i = Y i) {j : Nat} (hj : j < 18) : rpassN X j = rpassN Y j := by
  have hc : ∀ k, k < 18 → chN 256 X k = chN 256 Y k := fun k hk => chN_congr fun i hi => h i (by omega)
  unfold rpassN lowN topN
  rw [hc 0 (by omega), hc 16 (by omega), hc 17 (by omega), hc j hj]
theorem carR_n {x : Nat → UInt64} (h : ∀ i, i < 18 → nt x i ≤ 4096) : ∀ j, j < 18 → nt (carR x) j = carN18 (nt x) j := fun j hj => by
  have h0 : ∀ i, i < 18 → nt x i < M40 := fun i hi => by have := h i hi; unfold M40; omega
  have v0 := val_4096 (X := nt x) h
  obtain ⟨v1, v2, v3⟩ := car18_vals v0
  have e1 : ∀ i, i < 18 → nt (rpass x) i = rpassN (nt x) i := fun i hi => rpass_n h0 hi
  have h1 : ∀ i, i < 18 → nt (rpass x) i < M40 := fun i hi => by
    have := rpass_le v0 i hi
    rw [e1 i hi]; unfold M40; omega
  have e2 : ∀ i, i < 18 → nt (rpass (rpass x)) i = rpassN (rpassN (nt x)) i := fun i hi => by rw [rpass_n h1 hi, rpassN_congr e1 hi]
  have h2 : ∀ i, i < 18 → nt (rpass (rpass x)) i < M40 := fun i hi => by
    have := rpass_le v1 i hi
    rw [e2 i hi]; unfold M40; omega
  have e3 : ∀ i, i < 18 → nt (rpass (rpass (rpass x))) i = rpassN (rpassN (rpassN (nt x))) i := fun i hi => by rw [rpass_n h2 hi, rpassN_congr e2 hi]
  have h3 : ∀ i, i < 18 → nt (rpass (rpass (rpass x))) i < M40 := fun i hi => by
    have := rpass_le (X := rpassN (rpassN (nt x))) (c := 0) (by omega) i hi
    rw [e3 i hi]; unfold M40; omega
  show (chS 8 (rpass (rpass (rpass x))) j &&& 255).toNat = chN 256 (rpassN (rpassN (rpassN (nt x)))) j % 256
  rw [and8, chS8 h3 hj, chN_congr fun i hi => e3 i (by omega)]
theorem C18_congr {X Y : Nat → Nat} (h : ∀ i, i < 18 → X i = Y i) (hC : C18 Y) : C18 X := ⟨fun i hi => by rw [h i hi]; exact hC.1 i hi, by rw [vN_congr h]; exact hC.2⟩
theorem carR_ok {x : Nat → UInt64} (h : ∀ i, i < 18 → nt x i ≤ 4096) : C18 (nt (carR x)) ∧ V18 (carR x) % Pp = V18 x % Pp := by
  have e := carR_n h
  obtain ⟨a, b⟩ := car18_ok (X := nt x) h
  refine ⟨C18_congr e a, ?_⟩
  unfold V18
  rw [vN_congr e, b]
/-! ### products -/
theorem tR_n {a b : Nat → UInt64} (ha : ∀ i, i < 18 → nt a i < 256) (hb : ∀ i, i < 18 → nt b i < 256) (m : Nat) : ∀ k, k ≤ 18 → (tR a b m k).toNat = prN (nt a) (nt b) 18 m k ∧ prN (nt a) (nt b) 18 m k ≤ k * 65025
  | 0, _ => ⟨rfl, Nat.le_refl _⟩
  | k + 1, hk => by
    obtain ⟨h1, h2⟩ := tR_n ha hb m k (by omega)
    have e : prN (nt a) (nt b) 18 m (k + 1) = prN (nt a) (nt b) 18 m k + rowN (nt b) (nt a k) k 18 m := rfl
    have ak := ha k (by omega)
    rw [e]
    show (cond (Nat.ble k m && Nat.ble m (k + 17)) (tR a b m k + a k * b (m - k)) (tR a b m k)).toNat = _ ∧ _
    by_cases hc : k ≤ m ∧ m < k + 18
    · have hbm := hb (m - k) (by omega)
      have hm : nt a k * nt b (m - k) ≤ 255 * 255 := Nat.mul_le_mul (by omega) (by omega)
      have er : rowN (nt b) (nt a k) k 18 m = nt a k * nt b (m - k) := by unfold rowN; rw [if_pos hc]
      have em : (a k * b (m - k)).toNat = nt a k * nt b (m - k) := mul_n (by unfold nt at hm; omega)
      rw [Nat.ble_eq_true_of_le hc.1, Nat.ble_eq_true_of_le (show m ≤ k + 17 by omega), er]
      simp only [Bool.and_self, cond_true]
      exact ⟨by rw [add_n (by rw [h1, em]; omega), h1, em], by rw [Nat.add_mul]; omega⟩
    · have er : rowN (nt b) (nt a k) k 18 m = 0 := by unfold rowN; rw [if_neg hc]
      have hb : (Nat.ble k m && Nat.ble m (k + 17)) = false := by
        cases hb : (Nat.ble k m && Nat.ble m (k + 17)) with
        | false => rfl
        | true =>
          rw [Bool.and_eq_true] at hb
          have := Nat.le_of_ble_eq_true hb.1
          have := Nat.le_of_ble_eq_true hb.2
          exact absurd ⟨by omega, by omega⟩ hc
      rw [hb, cond_false, er, Nat.add_zero, Nat.add_mul]
      exact ⟨h1, Nat.le_trans h2 (Nat.le_add_right _ _)⟩
theorem tC_n {a b : Nat → UInt64} (ha : ∀ i, i < 18 → nt a i < 256) (hb : ∀ i, i < 18 → nt b i < 256) (j : Nat) : nt (tC a b) j = tcN (nt a) (nt b) j := by
  have e : ∀ i, nt (fun m => tR a b m 18) i = tN18 (nt a) (nt b) i := fun i => (tR_n ha hb i 18 (by omega)).1
  have hl : ∀ i, i < j + 1 → nt (fun m => tR a b m 18) i < M40 := fun i _ => by
    have := (tR_n ha hb i 18 (by omega)).2
    rw [e i]
    unfold tN18 M40
    omega
  show (chS 8 (fun m => tR a b m 18) j &&& 255).toNat = _
  rw [and8, chS8 hl (by omega), chN_congr fun i _ => e i]
  unfold tcN
  rfl
theorem hi_n {x y : UInt64} (hx : x.toNat < 256) (hy : y.toNat < 256) : (shr_u64 x 2 ||| (shl_u64 y 6 &&& 255)).toNat = x.toNat / 4 + y.toNat % 4 * 64 := by
  have a1 : (shr_u64 x 2).toNat = x.toNat / 4 := by rw [shr_n _ _ (by omega)]
  have a2 : (shl_u64 y 6 &&& 255).toNat = 2 ^ 6 * (y.toNat % 4) := by rw [and8, shl_n _ _ (by omega) (by omega)]; omega
  rw [UInt64.toNat_or, a1, a2, or_n (by omega)]
  omega
theorem prR_n {a b : Nat → UInt64} (ha : ∀ i, i < 18 → nt a i < 256) (hb : ∀ i, i < 18 → nt b i < 256) : ∀ j, j < 18 → nt (prR a b) j = prR18 (nt a) (nt b) j := fun j hj => by
  have ht := tC_n ha hb
  have htl : ∀ i, nt (tC a b) i < 256 := fun i => by rw [ht i]; exact Nat.mod_lt _ (by omega)
  have h1 : nt (loR a b) j = loN (nt a) (nt b) j := by
    show (loR a b j).toNat = _
    unfold loR loN
    by_cases c : 17 ≤ j
    · rw [Nat.ble_eq_true_of_le c, if_pos c]; rfl
    · have hb : Nat.ble 17 j = false := by
        cases hb : Nat.ble 17 j with
        | false => rfl
        | true => exact absurd (Nat.le_of_ble_eq_true hb) c
      rw [hb, if_neg c, cond_false]
      by_cases d : j = 16
      · subst d
        rw [if_pos rfl, show Nat.beq 16 16 = true by rfl, cond_true, and2, ← ht 16]; rfl
      · have hq : Nat.beq j 16 = false := by
          cases hq : Nat.beq j 16 with
          | false => rfl
          | true => exact absurd (Nat.eq_of_beq_eq_true hq) d
        rw [if_neg d, hq, cond_false, ← ht j]; rfl
  have h2 : nt (hiR a b) j = hiN (nt a) (nt b) j := by
    show (hiR a b j).toNat = _
    unfold hiR hiN
    by_cases c : 17 ≤ j
    · rw [Nat.ble_eq_true_of_le c, if_pos c]; rfl
    · have hb : Nat.ble 17 j = false := by
        cases hb : Nat.ble 17 j with
        | false => rfl
        | true => exact absurd (Nat.le_of_ble_eq_true hb) c
      rw [hb, if_neg c, cond_false, hi_n (htl (16 + j)) (htl (17 + j)), ← ht (16 + j), ← ht (17 + j)]; rfl
  have hle := prR18_le (a := nt a) (b := nt b) j hj
  have e5 : (5 : UInt64).toNat = 5 := rfl
  have hle2 : loN (nt a) (nt b) j + 5 * hiN (nt a) (nt b) j ≤ 4096 := hle
  have h1' : (loR a b j).toNat = loN (nt a) (nt b) j := h1
  have h2' : (hiR a b j).toNat = hiN (nt a) (nt b) j := h2
  have e6 : (5 * hiR a b j).toNat = 5 * hiN (nt a) (nt b) j := by rw [mul_n (by rw [e5, h2']; omega), e5, h2']
  show (loR a b j + 5 * hiR a b j).toNat = loN (nt a) (nt b) j + 5 * hiN (nt a) (nt b) j
  rw [add_n (by rw [e6, h1']; omega), e6, h1']
theorem mulRF_ok {a b : Nat → UInt64} (ha : C18 (nt a)) (hb : C18 (nt b)) : C18 (nt (mulRF a b)) ∧ V18 (mulRF a b) % Pp = V18 a * V18 b % Pp := by
  have e := prR_n ha.1 hb.1
  have h1 : ∀ i, i < 18 → nt (nU 18 (prR a b)) i ≤ 4096 := fun i hi => by rw [nt_nU _ _ i hi, e i hi]; exact prR18_le i hi
  unfold mulRF
  rw [gU_cellsU]
  obtain ⟨c, d⟩ := carR_ok h1
  refine ⟨c, ?_⟩
  rw [d, V18_nU]
  unfold V18
  rw [vN_congr e, times18 ha.2 hb.2]
/-! ### what is below the prime -/
theorem wholeF_ok {x : Nat → UInt64} (h : ∀ i, i < 18 → nt x i ≤ 4096) : C18 (nt (wholeF x)) ∧ V18 (wholeF x) = V18 x % Pp := by
  obtain ⟨w, hw⟩ : ∃ w, w = whG τr x := ⟨_, rfl⟩
  have hT : C18 (nt w) ∧ V18 w % Pp = V18 x % Pp := by
    have e : w = nU 18 (carR (nU 18 x)) := by rw [hw]; unfold whG; rw [gU_cellsU, gU_cellsU]; rfl
    have a0 : ∀ i, i < 18 → nt (nU 18 x) i ≤ 4096 := fun i hi => by rw [nt_nU _ _ i hi]; exact h i hi
    obtain ⟨b1, b2⟩ := carR_ok a0
    rw [e]
    exact ⟨C18_congr (nt_nU _ 18) b1, by rw [V18_nU, b2, V18_nU]⟩
  obtain ⟨⟨hD, hL⟩, hV⟩ := hT
  have hp5 := plus5_n (x := w) (by have := hD 0 (by omega); unfold M62; omega)
  have hpl : ∀ i, i < 18 → nt (plus5 w) i < M40 := fun i hi => by
    have := hD i hi
    have := hD 0 (by omega)
    rw [hp5 i]
    unfold M40
    split <;> omega
  have hw5 : ∀ i, i < 18 → nt (wh5 w) i = chN 256 (nt (plus5 w)) i % 256 := fun i hi => by
    show (chS 8 (plus5 w) i &&& 255).toNat = _
    rw [and8, chS8 hpl hi]
  have hv5 : vN 256 (nt (plus5 w)) 18 = V18 w + 5 := by
    have := vN_upd 256 (nt w) 0 5 18 (by omega)
    rw [Nat.pow_zero, Nat.mul_one] at this
    unfold V18
    rw [← this]
    exact vN_congr fun i _ => hp5 i
  have hc := carry_val 256 (nt (plus5 w)) 17
  have hcv : vN 256 (nt (plus5 w)) (17 + 1) = V18 w + 5 := hv5
  have hrV : vN 256 (fun i => chN 256 (nt (plus5 w)) i % 256) (17 + 1) = V18 (wh5 w) := (vN_congr hw5).symm
  rw [hcv, hrV] at hc
  have hlt : V18 w < 2 ^ 130 := hL
  have hd5 : ∀ i, i < 18 → nt (wh5 w) i < 256 := fun i hi => by rw [hw5 i hi]; exact Nat.mod_lt _ (by omega)
  have hval : V18 (wh5 w) = V18 w + 5 := by
    generalize V18 (wh5 w) = r at *
    generalize V18 w = v at *
    generalize chN 256 (nt (plus5 w)) 17 / 256 = k at *
    clear hw5 hD hp5 hpl hd5 hrV
    have hc' : v + 5 = r + k * 256 ^ 18 := hc
    omega
  have h17 : nt (wh5 w) 17 = 0 := vN_high (b := 256) (by omega) (x := nt (wh5 w)) (n := 18) (k := 17) (by
    have : vN 256 (nt (wh5 w)) 18 = V18 w + 5 := hval
    rw [this]
    generalize V18 w = v at *
    clear hw5 hD hp5 hpl hd5 hrV hc
    omega) (by omega) (by omega)
  have hsp := vN_18 (nt (wh5 w))
  have h16 := vN_lt (b := 256) (by omega) (x := nt (wh5 w)) (n := 16) fun i hi => hd5 i (by omega)
  have hd16 := hd5 16 (by omega)
  rw [h17, Nat.zero_mul, Nat.add_zero, show vN 256 (nt (wh5 w)) 18 = V18 w + 5 from hval] at hsp
  have hcond : decide (4 ≤ wh5 w 16) = decide (4 ≤ nt (wh5 w) 16) := decide_eq_decide.2 UInt64.le_iff_toNat_le
  have hP := Pp_eq
  have hw3 : ∀ i, i < 18 → nt (wh3 w) i = if i = 16 then nt (wh5 w) 16 % 4 else nt (wh5 w) i := fun i hi => by
    show (wh3 w i).toNat = _
    unfold wh3
    by_cases d : i = 16
    · subst d
      rw [if_pos rfl, show Nat.beq 16 16 = true by rfl, cond_true, and2]; rfl
    · have hq : Nat.beq i 16 = false := by
        cases hq : Nat.beq i 16 with
        | false => rfl
        | true => exact absurd (Nat.eq_of_beq_eq_true hq) d
      rw [if_neg d, hq, cond_false]; rfl
  have hv3 : V18 (wh3 w) = vN 256 (nt (wh5 w)) 16 + nt (wh5 w) 16 % 4 * 256 ^ 16 := by
    show vN 256 (nt (wh3 w)) 18 = _
    rw [vN_18, hw3 16 (by omega), hw3 17 (by omega), if_pos rfl, if_neg (by omega), h17, Nat.zero_mul, Nat.add_zero, vN_congr (x := nt (wh3 w)) (y := nt (wh5 w)) fun i hi => by rw [hw3 i (by omega), if_neg (by omega)]]
  have hd3 : ∀ i, i < 18 → nt (wh3 w) i < 256 := fun i hi => by
    rw [hw3 i hi]
    split
    · omega
    · exact hd5 i hi
  unfold wholeF
  rw [← hw, hcond, ← hV]
  by_cases hk : 4 ≤ nt (wh5 w) 16
  · rw [decide_eq_true hk, cond_true]
    have : V18 (wh3 w) = V18 w % Pp := by
      rw [hv3]
      generalize V18 w = v at *
      generalize vN 256 (nt (wh5 w)) 16 = u at *
      generalize nt (wh5 w) 16 = d at *
      clear hw5 hD hp5 hpl hd5 hrV hc hw3 hd3 hv3 hv5 hcv
      have hd4 : d = 4 := by omega
      subst hd4
      have e : v = u + Pp := by omega
      have hu : u < Pp := by omega
      rw [e, Nat.add_mod_right, Nat.mod_eq_of_lt hu]
      omega
    refine ⟨⟨hd3, ?_⟩, this⟩
    show V18 (wh3 w) < 2 ^ 130
    rw [this]
    have := Nat.mod_lt (V18 w) Pp_pos
    generalize V18 w % Pp = z at *
    clear hw5 hD hp5 hpl hd5 hrV hc hw3 hd3 hv3 hv5 hcv
    omega
  · rw [decide_eq_false hk, cond_false]
    refine ⟨⟨hD, hL⟩, ?_⟩
    generalize V18 w = v at *
    generalize vN 256 (nt (wh5 w)) 16 = u at *
    generalize nt (wh5 w) 16 = d at *
    clear hw5 hD hp5 hpl hd5 hrV hc hw3 hd3 hv3 hv5 hcv
    rw [Nat.mod_eq_of_lt (by omega)]
end Go.Proofs.Ytifohjjmbohhnaa.Pol

/- Bytes as a number in five parts; the bytes of such a number. -/
namespace Go.Proofs.Ytifohjjmbohhnaa.Pol
set_option linter.unusedVariables false
set_option linter.unusedSimpArgs false
open Go Go.Eng Go.Poly
set_option maxRecDepth 100000
set_option maxHeartbeats 1000000
set_option linter.unusedSimpArgs false
set_option linter.unusedVariables false
theorem nt_updF (x : Nat → UInt64) (k : Nat) (v : UInt64) (j : Nat) : nt (updF x k v) j = if j = k then v.toNat else nt x j := by
  unfold nt updF
  split <;> rfl
/-- One byte more. -/
structure OfInv (x : Nat → UInt64) (i v : Nat) : Prop where
  lt : ∀ j, nt x j < B26
  cur : nt x (8 * i / 26) < 2 ^ (8 * i % 26)
  hi : ∀ j, 8 * i / 26 < j → nt x j = 0
  val : V5 x = v
theorem of1_n {b : UInt64} {x : Nat → UInt64} {i : Nat} (hb : b.toNat < 256) (hx : nt x (8 * i / 26) < 2 ^ (8 * i % 26)) :
    nt (of1 b x i) = fun j => if j = 8 * i / 26 then nt x (8 * i / 26) + b.toNat % 2 ^ (26 - 8 * i % 26) * 2 ^ (8 * i % 26) else nt x j := by
  funext j
  unfold of1
  rw [nt_updF]
  by_cases e : j = 8 * i / 26
  · rw [if_pos e, if_pos e]
    have hr : 8 * i % 26 ≤ 25 := by omega
    have hp : 2 ^ (8 * i % 26) ≤ 2 ^ 25 := Nat.pow_le_pow_right (by omega) hr
    have h1 : b.toNat * 2 ^ (8 * i % 26) ≤ 255 * 2 ^ 25 := Nat.mul_le_mul (by omega) hp
    have h2 : (shl_u64 b (8 * i % 26) &&& 67108863).toNat = 2 ^ (8 * i % 26) * (b.toNat % 2 ^ (26 - 8 * i % 26)) := by
      rw [and26, shl_n _ _ (by omega) (by omega)]
      have e26 : 67108864 = 2 ^ (26 - 8 * i % 26) * 2 ^ (8 * i % 26) := by
        rw [← Nat.pow_add, Nat.sub_add_cancel (by omega)]
      rw [e26, Nat.mul_mod_mul_right, Nat.mul_comm]
    rw [UInt64.toNat_or, h2]
    have := or_n (a := b.toNat % 2 ^ (26 - 8 * i % 26)) hx
    unfold nt at *
    rw [this, Nat.mul_comm (2 ^ (8 * i % 26))]
  · rw [if_neg e, if_neg e]
theorem pow256 (i : Nat) : (256 : Nat) ^ i = B26 ^ (8 * i / 26) * 2 ^ (8 * i % 26) := by
  have e1 : (256 : Nat) = 2 ^ 8 := rfl
  have e2 : B26 = 2 ^ 26 := rfl
  rw [e1, e2, ← Nat.pow_mul, ← Nat.pow_mul, ← Nat.pow_add]
  congr 1
  omega
theorem of_step {b : UInt64} {x : Nat → UInt64} {i v : Nat} (hi : i < 17) (hb : b.toNat < 256) (h16 : i = 16 → b.toNat ≤ 1) (h : OfInv x i v) : (∀ j, nt (ofS b x i) j < B26) ∧ V5 (ofS b x i) = v + b.toNat * 256 ^ i ∧ (i < 16 → OfInv (ofS b x i) (i + 1) (v + b.toNat * 256 ^ i)) := by
  obtain ⟨q, hq⟩ : ∃ q, q = 8 * i / 26 := ⟨_, rfl⟩
  obtain ⟨r, hr⟩ : ∃ r, r = 8 * i % 26 := ⟨_, rfl⟩
  have hcur := h.cur
  rw [← hq, ← hr] at hcur
  have hq5 : q < 5 := by omega
  have e1 := of1_n hb h.cur
  rw [← hq, ← hr] at e1
  have hQP : 2 ^ (26 - r) * 2 ^ r = B26 := by rw [← Nat.pow_add, Nat.sub_add_cancel (by omega)]
  have hsmall : r ≤ 18 → b.toNat < 2 ^ (26 - r) := fun hr18 => by
    have : 2 ^ 8 ≤ 2 ^ (26 - r) := Nat.pow_le_pow_right (by omega) (by omega)
    omega
  -- what stands in the parts
  have hn : nt (ofS b x i) = fun j => if j = q + 1 then b.toNat / 2 ^ (26 - r) else if j = q then nt x q + b.toNat % 2 ^ (26 - r) * 2 ^ r else nt x j := by
    funext j
    unfold ofS
    rw [← hq, ← hr]
    have hx1 : nt x (q + 1) = 0 := h.hi (q + 1) (by omega)
    by_cases hc : 18 < r ∧ q < 4
    · have hcb : (Nat.blt 18 r && Nat.blt q 4) = true := by
        rw [Bool.and_eq_true]
        exact ⟨Nat.ble_eq_true_of_le (by omega), Nat.ble_eq_true_of_le (by omega)⟩
      rw [hcb, cond_true, nt_updF]
      by_cases e : j = q + 1
      · rw [if_pos e, if_pos e, UInt64.toNat_or, shr_n _ _ (by omega)]
        have : (of1 b x i (q + 1)).toNat = 0 := by
          have h2 : nt (of1 b x i) (q + 1) = if q + 1 = q then nt x q + b.toNat % 2 ^ (26 - r) * 2 ^ r else nt x (q + 1) := congrFun e1 (q + 1)
          rw [if_neg (by omega), hx1] at h2
          exact h2
        rw [this, Nat.zero_or]
      · rw [if_neg e, if_neg e, congrFun e1 j]
    · have hcb : (Nat.blt 18 r && Nat.blt q 4) = false := by
        cases hcb : (Nat.blt 18 r && Nat.blt q 4) with
        | false => rfl
        | true =>
          rw [Bool.and_eq_true] at hcb
          have a1 : 18 < r := Nat.le_of_ble_eq_true hcb.1
          have a2 : q < 4 := Nat.le_of_ble_eq_true hcb.2
          exact absurd ⟨a1, a2⟩ hc
      rw [hcb, cond_false, congrFun e1 j]
      have hz : b.toNat / 2 ^ (26 - r) = 0 := by
        apply Nat.div_eq_of_lt
        by_cases hr18 : r ≤ 18
        · exact hsmall hr18
        · have hi16 : i = 16 := by omega
          have := h16 hi16
          have : 2 ^ 1 ≤ 2 ^ (26 - r) := Nat.pow_le_pow_right (by omega) (by omega)
          omega
      by_cases e : j = q + 1
      · rw [if_pos e, if_neg (by omega), e, hx1, hz]
      · rw [if_neg e]
  have hP : 0 < 2 ^ r := Nat.pow_pos (by omega)
  have hQ : 0 < 2 ^ (26 - r) := Nat.pow_pos (by omega)
  have hlow : nt x q + b.toNat % 2 ^ (26 - r) * 2 ^ r < B26 := by
    have h1 : b.toNat % 2 ^ (26 - r) * 2 ^ r ≤ (2 ^ (26 - r) - 1) * 2 ^ r := Nat.mul_le_mul_right _ (by have := Nat.mod_lt b.toNat hQ; omega)
    have h2 : (2 ^ (26 - r) - 1) * 2 ^ r + 2 ^ r = B26 := by
      have : (2 ^ (26 - r) - 1) * 2 ^ r + 2 ^ r = (2 ^ (26 - r) - 1 + 1) * 2 ^ r := by rw [Nat.add_mul, Nat.one_mul]
      rw [this, Nat.sub_add_cancel hQ, hQP]
    omega
  have hhigh : b.toNat / 2 ^ (26 - r) < 2 ^ (r - 18) := by
    by_cases hr18 : r ≤ 18
    · rw [Nat.div_eq_of_lt (hsmall hr18)]; exact Nat.pow_pos (by omega)
    · rw [Nat.div_lt_iff_lt_mul hQ, ← Nat.pow_add, show r - 18 + (26 - r) = 8 by omega]
      exact hb
  have hlt : ∀ j, nt (ofS b x i) j < B26 := fun j => by
    rw [hn]
    show (if j = q + 1 then _ else _) < B26
    split
    · have : 2 ^ (r - 18) ≤ 2 ^ 26 := Nat.pow_le_pow_right (by omega) (by omega)
      have e : (2 : Nat) ^ 26 = B26 := rfl
      omega
    · split
      · exact hlow
      · exact h.lt j
  have hval : V5 (ofS b x i) = v + b.toNat * 256 ^ i := by
    have hbp : b.toNat * 256 ^ i = b.toNat % 2 ^ (26 - r) * 2 ^ r * B26 ^ q + b.toNat / 2 ^ (26 - r) * B26 ^ (q + 1) := by
      rw [pow256, ← hq, ← hr]
      have hmd := Nat.mod_add_div b.toNat (2 ^ (26 - r))
      conv => lhs; rw [← hmd]
      rw [Nat.pow_succ, ← hQP, Nat.add_mul]
      simp only [Nat.mul_assoc, Nat.mul_left_comm, Nat.mul_comm]
    rw [hbp, ← h.val]
    have u1 := vN_upd B26 (nt x) q (b.toNat % 2 ^ (26 - r) * 2 ^ r) 5 hq5
    by_cases hq4 : q < 4
    · have u2 := vN_upd B26 (fun j => if j = q then nt x q + b.toNat % 2 ^ (26 - r) * 2 ^ r else nt x j) (q + 1) (b.toNat / 2 ^ (26 - r)) 5 (by omega)
      rw [u1] at u2
      unfold V5
      rw [← Nat.add_assoc, ← u2, hn]
      refine vN_congr fun j _ => ?_
      by_cases e : j = q + 1
      · rw [if_pos e, if_pos e, if_neg (by omega), h.hi (q + 1) (by omega), Nat.zero_add]
      · rw [if_neg e, if_neg e]
    · have hz : b.toNat / 2 ^ (26 - r) = 0 := by
        apply Nat.div_eq_of_lt
        by_cases hr18 : r ≤ 18
        · exact hsmall hr18
        · have hi16 : i = 16 := by omega
          have := h16 hi16
          have : 2 ^ 1 ≤ 2 ^ (26 - r) := Nat.pow_le_pow_right (by omega) (by omega)
          omega
      rw [hz, Nat.zero_mul, Nat.add_zero]
      unfold V5
      rw [← u1, hn]
      refine vN_congr fun j hj => ?_
      rw [if_neg (by omega)]
  refine ⟨hlt, hval, fun hi16 => ⟨hlt, ?_, fun j hj => ?_, hval⟩⟩
  · rw [hn]
    show (if 8 * (i + 1) / 26 = q + 1 then _ else _) < _
    by_cases e : r < 18
    · have e1 : 8 * (i + 1) / 26 = q := by omega
      have e2 : 8 * (i + 1) % 26 = r + 8 := by omega
      rw [e1, e2, if_neg (by omega), if_pos rfl, Nat.mod_eq_of_lt (hsmall (by omega)), Nat.pow_add]
      have : b.toNat * 2 ^ r ≤ 255 * 2 ^ r := Nat.mul_le_mul_right _ (by omega)
      omega
    · have e1 : 8 * (i + 1) / 26 = q + 1 := by omega
      have e2 : 8 * (i + 1) % 26 = r - 18 := by omega
      rw [e1, e2, if_pos rfl]
      exact hhigh
  · rw [hn]
    show (if j = q + 1 then _ else _) = 0
    by_cases e : r < 18
    · have e1 : 8 * (i + 1) / 26 = q := by omega
      rw [e1] at hj
      by_cases ej : j = q + 1
      · rw [if_pos ej, Nat.div_eq_of_lt (hsmall (by omega))]
      · rw [if_neg ej, if_neg (by omega), h.hi j (by omega)]
    · have e1 : 8 * (i + 1) / 26 = q + 1 := by omega
      rw [e1] at hj
      rw [if_neg (by omega), if_neg (by omega), h.hi j (by omega)]
def bN (c : Nat → UInt8) (m n : Nat) (i : Nat) : Nat := (bt c m n i).toNat
theorem bt_lt (c : Nat → UInt8) (m n i : Nat) : (bt c m n i).toNat < 256 := by
  unfold bt
  cases (Nat.blt 0 n && Nat.beq i n)
  · cases Nat.blt i m
    · show (0 : UInt64).toNat < 256
      decide
    · show (c i).toUInt64.toNat < 256
      rw [UInt8.toNat_toUInt64]
      exact (c i).toNat_lt
  · show (1 : UInt64).toNat < 256
    decide
theorem bt_16 (c : Nat → UInt8) {m n : Nat} (hm : m ≤ 16) : (bt c m n 16).toNat ≤ 1 := by
  unfold bt
  have : Nat.blt 16 m = false := by
    cases hb : Nat.blt 16 m with
    | false => rfl
    | true => exact absurd (Nat.le_of_ble_eq_true hb) (by omega)
  rw [this]
  cases (Nat.blt 0 n && Nat.beq 16 n)
  · show (0 : UInt64).toNat ≤ 1
    decide
  · show (1 : UInt64).toNat ≤ 1
    decide
theorem ofN_inv (c : Nat → UInt8) {m n : Nat} (hm : m ≤ 16) : ∀ i, i ≤ 16 → OfInv (ofN c m n i) i (vN 256 (bN c m n) i)
  | 0, _ => by
    have z : ∀ j, nt (ofN c m n 0) j = 0 := fun j => rfl
    exact ⟨fun j => by rw [z j]; unfold B26; omega, by rw [z]; exact Nat.pow_pos (by omega), fun j _ => z j, vN_zero B26 fun j _ => z j⟩
  | i + 1, h => by
    have hi : i < 16 := h
    have h17 : i < 17 := Nat.lt_succ_of_lt hi
    have hr := ofN_inv c (n := n) hm i (Nat.le_of_lt hi)
    have hs := of_step (b := bt c m n i) h17 (bt_lt c m n i) (fun e => absurd e (Nat.ne_of_lt hi)) hr
    exact hs.2.2 hi
/-- Bytes as a number. -/
theorem ofN_ok (c : Nat → UInt8) {m n : Nat} (hm : m ≤ 16) : (∀ j, nt (ofN c m n 17) j < B26) ∧ V5 (ofN c m n 17) = vN 256 (bN c m n) 17 := by
  have h := of_step (i := 16) (b := bt c m n 16) (by decide) (bt_lt c m n 16) (fun _ => bt_16 c hm) (ofN_inv c (n := n) hm 16 (Nat.le_refl _))
  exact ⟨h.1, h.2.1⟩
/-! ### the bytes of a number in five parts -/
theorem xw_n {h : Nat → UInt64} (hT : T5 (nt h)) : ∀ i, i < 16 → (xw h i &&& 255).toNat = V5 h / 256 ^ i % 256 := fun i hi => by
  rw [and8]
  have h0 : (h 0).toNat < 67108864 := hT 0 (by omega)
  have h1 : (h 1).toNat < 67108864 := hT 1 (by omega)
  have h2 : (h 2).toNat < 67108864 := hT 2 (by omega)
  have h3 : (h 3).toNat < 67108864 := hT 3 (by omega)
  have h4 : (h 4).toNat < 67108864 := hT 4 (by omega)
  have hV : V5 h = (h 0).toNat + (h 1).toNat * 67108864 + (h 2).toNat * 4503599627370496 + (h 3).toNat * 302231454903657293676544 + (h 4).toNat * 20282409603651670423947251286016 := by
    show 0 + (h 0).toNat * 67108864 ^ 0 + (h 1).toNat * 67108864 ^ 1 + (h 2).toNat * 67108864 ^ 2 + (h 3).toNat * 67108864 ^ 3 + (h 4).toNat * 67108864 ^ 4 = _
    omega
  have sh : ∀ (x : UInt64) (s p : Nat), s < 64 → p = 2 ^ s → (shr_u64 x s).toNat = x.toNat / p := fun x s p hs hp => by rw [hp]; exact shr_n x s hs
  have orr : ∀ (x y : UInt64) (s p : Nat), s < 7 → p = 2 ^ s → x.toNat < 67108864 → y.toNat < 67108864 → (shr_u64 x (26 - s) ||| shl_u64 y s).toNat = x.toNat / 2 ^ (26 - s) + p * y.toNat := fun x y s p hs hp hx hy => by
    have hp7 : 2 ^ s ≤ 2 ^ 7 := Nat.pow_le_pow_right (by omega) (by omega)
    have hm : y.toNat * 2 ^ s ≤ 67108864 * 2 ^ 7 := Nat.mul_le_mul (by omega) hp7
    rw [UInt64.toNat_or, shr_n _ _ (by omega), shl_n _ _ (by omega) (by omega), Nat.mul_comm y.toNat, hp]
    refine or_n ?_
    rw [Nat.div_lt_iff_lt_mul (Nat.pow_pos (by omega)), ← Nat.pow_add, show s + (26 - s) = 26 by omega]
    exact hx
  rw [hV]
  generalize V5 h = V at *
  match i, hi with
  | 0, _ => show (shr_u64 (h 0) 0).toNat % 256 = _; rw [sh _ 0 1 (by omega) rfl]; omega
  | 1, _ => show (shr_u64 (h 0) 8).toNat % 256 = _; rw [sh _ 8 256 (by omega) rfl]; omega
  | 2, _ => show (shr_u64 (h 0) 16).toNat % 256 = _; rw [sh _ 16 65536 (by omega) rfl]; omega
  | 3, _ => show (shr_u64 (h 0) (26 - 2) ||| shl_u64 (h 1) 2).toNat % 256 = _; rw [orr _ _ 2 4 (by omega) rfl h0 h1]; omega
  | 4, _ => show (shr_u64 (h 1) 6).toNat % 256 = _; rw [sh _ 6 64 (by omega) rfl]; omega
  | 5, _ => show (shr_u64 (h 1) 14).toNat % 256 = _; rw [sh _ 14 16384 (by omega) rfl]; omega
  | 6, _ => show (shr_u64 (h 1) (26 - 4) ||| shl_u64 (h 2) 4).toNat % 256 = _; rw [orr _ _ 4 16 (by omega) rfl h1 h2]; omega
  | 7, _ => show (shr_u64 (h 2) 4).toNat % 256 = _; rw [sh _ 4 16 (by omega) rfl]; omega
  | 8, _ => show (shr_u64 (h 2) 12).toNat % 256 = _; rw [sh _ 12 4096 (by omega) rfl]; omega
  | 9, _ => show (shr_u64 (h 2) (26 - 6) ||| shl_u64 (h 3) 6).toNat % 256 = _; rw [orr _ _ 6 64 (by omega) rfl h2 h3]; omega
  | 10, _ => show (shr_u64 (h 3) 2).toNat % 256 = _; rw [sh _ 2 4 (by omega) rfl]; omega
  | 11, _ => show (shr_u64 (h 3) 10).toNat % 256 = _; rw [sh _ 10 1024 (by omega) rfl]; omega
  | 12, _ => show (shr_u64 (h 3) 18).toNat % 256 = _; rw [sh _ 18 262144 (by omega) rfl]; omega
  | 13, _ => show (shr_u64 (h 4) 0).toNat % 256 = _; rw [sh _ 0 1 (by omega) rfl]; omega
  | 14, _ => show (shr_u64 (h 4) 8).toNat % 256 = _; rw [sh _ 8 256 (by omega) rfl]; omega
  | n + 16, hn => exact absurd hn (by omega)
  | 15, _ => show (shr_u64 (h 4) 16).toNat % 256 = _; rw [sh _ 16 65536 (by omega) rfl]; omega
end Go.Proofs.Ytifohjjmbohhnaa.Pol

/- The program's tag is the document's. -/
namespace Go.Proofs.Ytifohjjmbohhnaa.Pol
set_option linter.unusedVariables false
set_option linter.unusedSimpArgs false
open Go Go.Eng Go.Poly
set_option maxRecDepth 100000
set_option maxHeartbeats 1000000
set_option linter.unusedSimpArgs false
set_option linter.unusedVariables false
/-- The digits of a piece: its bytes, and 1 behind them. -/
def pN (p : List UInt8) (i : Nat) : Nat := if i = p.length then 1 else if i < p.length then (p.getD i 0).toNat else 0
/-- The digits of the key's first half. -/
def rN (kf : Nat → UInt8) (i : Nat) : Nat := if i < 16 then (mk kf i).toNat else 0
/-! ### the program's side -/
theorem A5_n {h x : Nat → UInt64} (hh : ∀ i, i < 5 → nt h i < 67108869) (hx : ∀ i, i < 5 → nt x i < 67108864) : ∀ k, k ≤ 5 → ∀ i, i < 5 → nt (A5 h x k) i = if i < k then nt h i + nt x i else nt h i
  | 0, _, i, _ => by rw [if_neg (by omega)]; rfl
  | k + 1, hk, i, hi => by
    have ih := A5_n hh hx k (by omega)
    show nt (updF (A5 h x k) k (A5 h x k k + x k)) i = _
    rw [nt_updF]
    have e := ih k (by omega)
    rw [if_neg (by omega)] at e
    have e' : (A5 h x k k).toNat = nt h k := e
    have h1 := hh k (by omega)
    have h2 := hx k (by omega)
    by_cases c : i = k
    · subst c
      rw [if_pos rfl, if_pos (by omega), add_n (by rw [e']; unfold nt at *; omega), e']; rfl
    · rw [if_neg c, ih i hi]
      by_cases d : i < k
      · rw [if_pos d, if_pos (by omega)]
      · rw [if_neg d, if_neg (by omega)]
theorem beq_d (a b : Nat) : Nat.beq a b = decide (a = b) := by
  cases h : Nat.beq a b with
  | true => rw [decide_eq_true (Nat.eq_of_beq_eq_true h)]
  | false => rw [decide_eq_false fun e => by subst e; simp [Nat.beq_refl] at h]
theorem blt_d (a b : Nat) : Nat.blt a b = decide (a < b) := by
  cases h : Nat.blt a b with
  | true => exact (decide_eq_true (show a < b from Nat.le_of_ble_eq_true h)).symm
  | false => rw [decide_eq_false fun e => by rw [show Nat.blt a b = true from Nat.ble_eq_true_of_le e] at h; cases h]
theorem ble_d (a b : Nat) : Nat.ble a b = decide (a ≤ b) := by
  cases h : Nat.ble a b with
  | true => rw [decide_eq_true (Nat.le_of_ble_eq_true h)]
  | false => rw [decide_eq_false fun e => by rw [Nat.ble_eq_true_of_le e] at h; cases h]
theorem pK_gB {s : List UInt8} {k : Nat} (hk : k < nC s) (i : Nat) : gB (((s.map AVal.u8).drop (16 * k)).take (mC s k)) i = (pK s k).getD i 0 := by
  have e : ((s.map AVal.u8).drop (16 * k)).take (mC s k) = (pK s k).map AVal.u8 := by
    unfold pK
    rw [List.drop_take, List.map_take, List.map_drop, Nat.add_sub_cancel_left]
  rw [e, gB_map]
theorem xK_n {s : List UInt8} {k : Nat} (hk : k < nC s) : (∀ i, nt (xK θr s k) i < 67108864) ∧ V5 (xK θr s k) = vN 256 (pN (pK s k)) 17 := by
  obtain ⟨h1, h2, h3, h4⟩ := mC_bnd hk
  have hpl := pK_len hk
  obtain ⟨a, b⟩ := ofN_ok (gB (((s.map AVal.u8).drop (16 * k)).take (mC s k))) (m := mC s k) (n := mC s k) h4
  refine ⟨a, ?_⟩
  show V5 (ofN _ _ _ 17) = _
  rw [b]
  refine vN_congr fun i hi => ?_
  unfold bN pN bt
  rw [pK_gB hk, beq_d, blt_d, blt_d, hpl, decide_eq_true h3]
  simp only [Bool.true_and]
  by_cases c : i = mC s k
  · rw [if_pos c, decide_eq_true c]; rfl
  · rw [if_neg c, decide_eq_false c, cond_false]
    by_cases d : i < mC s k
    · rw [if_pos d, decide_eq_true d, cond_true, UInt8.toNat_toUInt64]
    · rw [if_neg d, decide_eq_false d]; rfl
theorem rK_n (kf : Nat → UInt8) : (∀ i, nt (rK θr kf) i < 67108864) ∧ V5 (rK θr kf) = vN 256 (rN kf) 16 := by
  obtain ⟨a, b⟩ := ofN_ok (gB (cellsB 16 (mk kf))) (m := 16) (n := 0) (by omega)
  refine ⟨a, ?_⟩
  show V5 (ofN (gB (cellsB 16 (mk kf))) 16 0 17) = _
  rw [b]
  have h16 : bN (gB (cellsB 16 (mk kf))) 16 0 16 = 0 := rfl
  show vN 256 _ 16 + bN (gB (cellsB 16 (mk kf))) 16 0 16 * 256 ^ 16 = _
  rw [h16, Nat.zero_mul, Nat.add_zero]
  refine vN_congr fun i hi => ?_
  unfold bN rN bt
  rw [gB_cellsB, blt_d, blt_d, if_pos hi, decide_eq_true hi]
  show ((nB 16 (mk kf) i).toUInt64).toNat = _
  rw [UInt8.toNat_toUInt64]
  unfold nB
  rw [if_pos hi]
theorem stepK_ok {kf : Nat → UInt8} {h x : Nat → UInt64} (hh : N5 (nt h)) (hx : ∀ i, i < 5 → nt x i < 67108864) : N5 (nt (stepK θr kf h x)) ∧ V5 (stepK θr kf h x) % Pp = (V5 h + V5 x) * V5 (rK θr kf) % Pp := by
  have hA := A5_n (N5_lt hh) hx 5 (by omega)
  have hA5 : ∀ i, i < 5 → nt (nU 5 (A5 h x 5)) i = nt h i + nt x i := fun i hi => by rw [nt_nU _ _ i hi, hA i hi, if_pos hi]
  have hl : ∀ i, i < 5 → nt (nU 5 (A5 h x 5)) i < M62 := fun i hi => by
    rw [hA5 i hi]
    have := N5_lt hh i hi
    have := hx i hi
    unfold M62
    omega
  obtain ⟨c1, c2, _⟩ := carF_ok hl
  have d1 : ∀ i, i < 5 → nt (nU 5 (carF (nU 5 (A5 h x 5)))) i < 134217728 := fun i hi => by
    rw [nt_nU _ _ i hi]
    have := N5_lt c1 i hi
    omega
  have d2 : ∀ i, i < 5 → nt (nU 5 (rK θr kf)) i < 134217728 := fun i hi => by
    rw [nt_nU _ _ i hi]
    have := (rK_n kf).1 i
    omega
  obtain ⟨e1, e2⟩ := mulF_ok d1 d2
  have e : stepK θr kf h x = mulF (nU 5 (carF (nU 5 (A5 h x 5)))) (nU 5 (rK θr kf)) := by
    unfold stepK
    rw [gU_cellsU, gU_cellsU, gU_cellsU]; rfl
  rw [e]
  refine ⟨e1, ?_⟩
  rw [e2, V5_nU, V5_nU]
  refine mod_mul ?_ rfl
  rw [c2]
  have : V5 (nU 5 (A5 h x 5)) = V5 h + V5 x := by
    unfold V5
    rw [← vN_add]
    exact vN_congr hA5
  rw [this]
/-! ### the document's side -/
theorem mk8_n (kf : Nat → UInt8) (i : Nat) : nt (mk8 kf) i = rN kf i := by
  unfold nt mk8 rN mk
  rw [ble_d]
  by_cases h : i < 16
  · rw [if_pos h, decide_eq_false (by omega), cond_false]
    cases (Nat.beq i 3 || (Nat.beq i 7 || (Nat.beq i 11 || Nat.beq i 15))) with
    | true =>
      simp only [cond_true]
      rw [UInt64.toNat_and, UInt8.toNat_and, UInt8.toNat_toUInt64]; rfl
    | false =>
      simp only [cond_false]
      cases (Nat.beq i 4 || (Nat.beq i 8 || Nat.beq i 12)) with
      | true =>
        simp only [cond_true]
        rw [UInt64.toNat_and, UInt8.toNat_and, UInt8.toNat_toUInt64]; rfl
      | false =>
        simp only [cond_false]
        rw [UInt8.toNat_toUInt64]
  · rw [if_neg h, decide_eq_true (by omega)]; rfl
theorem rN_lt (kf : Nat → UInt8) (i : Nat) : rN kf i < 256 := by
  unfold rN
  split
  · exact (mk kf i).toNat_lt
  · omega
theorem vN_18z {t : Nat → Nat} (h16 : t 16 = 0) (h17 : t 17 = 0) : vN 256 t 18 = vN 256 t 16 := by
  rw [vN_18, h16, h17]
  generalize 256 ^ 16 = p
  generalize 256 ^ 17 = q
  omega
theorem rN_high (kf : Nat → UInt8) {i : Nat} (h : 16 ≤ i) : rN kf i = 0 := by unfold rN; rw [if_neg (by omega)]
theorem lt_130 {v : Nat} (h : v < 256 ^ 16) : v < 2 ^ 130 := by omega
theorem V18_mk8 (kf : Nat → UInt8) : C18 (nt (mk8 kf)) ∧ V18 (mk8 kf) = vN 256 (rN kf) 16 := by
  have e : V18 (mk8 kf) = vN 256 (rN kf) 16 := by
    unfold V18
    rw [vN_congr (x := nt (mk8 kf)) (y := rN kf) fun i _ => mk8_n kf i, vN_18z (rN_high kf (by omega)) (rN_high kf (by omega))]
  refine ⟨⟨fun i _ => by rw [mk8_n]; exact rN_lt kf i, ?_⟩, e⟩
  show V18 (mk8 kf) < 2 ^ 130
  rw [e]
  exact lt_130 (vN_lt (b := 256) (by omega) (x := rN kf) (n := 16) fun i _ => rN_lt kf i)
theorem B8_n {h : Nat → UInt64} {p : List UInt8} (hh : ∀ i, nt h i < 256 ∨ 18 ≤ i) : ∀ k, k ≤ 17 → ∀ i, nt (B8 h p k) i = if i < k then nt h i + (p.getD i 0).toNat else nt h i
  | 0, _, i => by rw [if_neg (by omega)]; rfl
  | k + 1, hk, i => by
    have ih := B8_n (p := p) hh k (by omega)
    show nt (updF (B8 h p k) k (B8 h p k k + (p.getD k 0).toUInt64)) i = _
    rw [nt_updF]
    have e := ih k
    rw [if_neg (by omega)] at e
    have e' : (B8 h p k k).toNat = nt h k := e
    have h1 : nt h k < 256 := by
      rcases hh k with h1 | h1
      · exact h1
      · omega
    have h2 := (p.getD k 0).toNat_lt
    by_cases c : i = k
    · subst c
      rw [if_pos rfl, if_pos (by omega), add_n (by rw [e', UInt8.toNat_toUInt64]; omega), e', UInt8.toNat_toUInt64]
    · rw [if_neg c, ih i]
      by_cases d : i < k
      · rw [if_pos d, if_pos (by omega)]
      · rw [if_neg d, if_neg (by omega)]
theorem oneD_n {h : Nat → UInt64} {p : List UInt8} (hC : C18 (nt h)) (hp : p.length ≤ 16) : (∀ i, i < 18 → nt (oneD h p) i ≤ 4096) ∧ V18 (oneD h p) = V18 h + vN 256 (pN p) 17 := by
  have hh : ∀ i, nt h i < 256 ∨ 18 ≤ i := fun i => by
    by_cases c : i < 18
    · exact .inl (hC.1 i c)
    · exact .inr (by omega)
  have hB := B8_n (p := p) hh p.length (by omega)
  have e : ∀ i, i < 18 → nt (oneD h p) i = nt h i + pN p i := fun i hi => by
    unfold oneD
    rw [nt_updF]
    unfold pN
    have hl := hC.1 i hi
    by_cases c : i = p.length
    · rw [if_pos c, if_pos c]
      have e2 := hB p.length
      rw [if_neg (by omega)] at e2
      have e3 : (B8 h p p.length p.length).toNat = nt h p.length := e2
      have e1 : (1 : UInt64).toNat = 1 := rfl
      rw [add_n (by rw [e3, e1, ← c]; omega), e3, e1, c]
    · rw [if_neg c, if_neg c, hB i]
      by_cases d : i < p.length
      · rw [if_pos d, if_pos d]
      · rw [if_neg d, if_neg d, Nat.add_zero]
  refine ⟨fun i hi => ?_, ?_⟩
  · rw [e i hi]
    have := hC.1 i hi
    have h2 := (p.getD i 0).toNat_lt
    unfold pN
    split
    · omega
    · split <;> omega
  · unfold V18
    rw [vN_congr e, vN_add]
    congr 1
    have h17 : pN p 17 = 0 := by unfold pN; rw [if_neg (by omega), if_neg (by omega)]
    rw [vN_18b, h17, Nat.zero_mul, Nat.add_zero]
theorem stepD_ok {kf : Nat → UInt8} {h : Nat → UInt64} {p : List UInt8} (hh : C18 (nt h)) (hp : p.length ≤ 16) : C18 (nt (stepD θr kf h p)) ∧ V18 (stepD θr kf h p) % Pp = (V18 h + vN 256 (pN p) 17) * vN 256 (rN kf) 16 % Pp := by
  obtain ⟨a1, a2⟩ := oneD_n hh hp
  have b1 : ∀ i, i < 18 → nt (nU 18 (oneD h p)) i ≤ 4096 := fun i hi => by rw [nt_nU _ _ i hi]; exact a1 i hi
  obtain ⟨c1, c2⟩ := carR_ok b1
  obtain ⟨r1, r2⟩ := V18_mk8 kf
  have d1 : C18 (nt (nU 18 (carR (nU 18 (oneD h p))))) := C18_congr (nt_nU _ 18) c1
  have d2 : C18 (nt (nU 18 (mk8 kf))) := C18_congr (nt_nU _ 18) r1
  obtain ⟨e1, e2⟩ := mulRF_ok d1 d2
  have e : stepD θr kf h p = mulRF (nU 18 (carR (nU 18 (oneD h p)))) (nU 18 (mk8 kf)) := by
    unfold stepD
    rw [gU_cellsU, gU_cellsU, gU_cellsU]; rfl
  rw [e]
  refine ⟨e1, ?_⟩
  rw [e2, V18_nU, V18_nU, r2]
  refine mod_mul ?_ rfl
  rw [c2, V18_nU, a2]
/-- Piece by piece both numbers are the same. -/
theorem both_h (kf : Nat → UInt8) (s : List UInt8) : ∀ k, k ≤ nC s → N5 (nt (hK θr kf s k)) ∧ C18 (nt (hD θr kf s k)) ∧ V5 (hK θr kf s k) % Pp = V18 (hD θr kf s k) % Pp
  | 0, _ => by
    have z5 : ∀ i, nt (hK θr kf s 0) i = 0 := fun i => rfl
    have z18 : ∀ i, nt (hD θr kf s 0) i = 0 := fun i => rfl
    have v18 : vN 256 (nt (hD θr kf s 0)) 18 = 0 := vN_zero 256 fun i _ => z18 i
    have v5 : vN B26 (nt (hK θr kf s 0)) 5 = 0 := vN_zero B26 fun i _ => z5 i
    refine ⟨⟨by rw [z5]; omega, fun i _ _ => by rw [z5]; unfold B26; omega⟩, ⟨fun i _ => by rw [z18]; omega, by rw [v18]; omega⟩, ?_⟩
    unfold V5 V18
    rw [v18, v5]
  | k + 1, hk => by
    obtain ⟨h1, h2, h3⟩ := both_h kf s k (by omega)
    have hkN : k < nC s := by omega
    obtain ⟨x1, x2⟩ := xK_n hkN
    have hp := pK_len hkN
    have hm := (mC_bnd hkN).2.2.2
    obtain ⟨a1, a2⟩ := stepK_ok (kf := kf) h1 fun i _ => x1 i
    obtain ⟨b1, b2⟩ := stepD_ok (kf := kf) (p := pK s k) h2 (by omega)
    refine ⟨a1, b1, ?_⟩
    show V5 (stepK θr kf (hK θr kf s k) (xK θr s k)) % Pp = V18 (stepD θr kf (hD θr kf s k) (pK s k)) % Pp
    rw [a2, b2, x2, (rK_n kf).2]
    exact mod_mul (mod_add h3 rfl) rfl
/-- The bytes of the number at the end. -/
def endD (kf : Nat → UInt8) (s : List UInt8) : Nat → UInt64 := wholeF (gU (cellsU 18 (hD θr kf s (nC s))))
theorem both_end (kf : Nat → UInt8) (s : List UInt8) : ∀ i, i < 16 → (xw (endK θr kf s) i &&& 255) = endD kf s i := fun i hi => by
  obtain ⟨h1, h2, h3⟩ := both_h kf s (nC s) (Nat.le_refl _)
  have a0 : ∀ i, i < 5 → nt (nU 5 (hK θr kf s (nC s))) i < M62 := fun i hi => by rw [nt_nU _ _ i hi]; exact N5_62 h1 i hi
  obtain ⟨a1, a2⟩ := redF_ok a0
  have b0 : ∀ i, i < 18 → nt (nU 18 (hD θr kf s (nC s))) i ≤ 4096 := fun i hi => by rw [nt_nU _ _ i hi]; have := h2.1 i hi; omega
  obtain ⟨b1, b2⟩ := wholeF_ok b0
  have e1 : endK θr kf s = redF (nU 5 (hK θr kf s (nC s))) := by unfold endK; rw [gU_cellsU]; rfl
  have e2 : endD kf s = wholeF (nU 18 (hD θr kf s (nC s))) := by unfold endD; rw [gU_cellsU]
  have e3 : V5 (endK θr kf s) = V18 (endD kf s) := by rw [e1, e2, a2, b2, V5_nU, V18_nU, h3]
  apply UInt64.toNat_inj.1
  rw [← e1] at a1
  rw [← e2] at b1
  rw [xw_n a1 i hi, e3]
  exact vN_digit (b := 256) (by omega) (x := nt (endD kf s)) (n := 18) b1.1 (by omega)
theorem c1_d1 (kf : Nat → UInt8) (s : List UInt8) (c : UInt64) {i : Nat} (hi : i < 16) : c1 (endK θr kf s) kf c i = d1 (endD kf s) kf c i := by
  unfold c1 d1
  rw [both_end kf s i hi, UInt64.add_comm]
theorem cN_dN (kf : Nat → UInt8) (s : List UInt8) : ∀ i, i ≤ 16 → cN (endK θr kf s) kf i = dN (endD kf s) kf i
  | 0, _ => rfl
  | i + 1, h => by
    show shr_u64 (c1 _ kf _ i) 8 = shr_u64 (d1 _ kf _ i) 8
    rw [cN_dN kf s i (by omega), c1_d1 kf s _ (by omega)]
theorem tN_uN (kf : Nat → UInt8) (s : List UInt8) : ∀ i, i ≤ 16 → tN (endK θr kf s) kf i = uN (endD kf s) kf i
  | 0, _ => rfl
  | i + 1, h => by
    show updF _ i (c1 _ kf _ i).toUInt8 = updF _ i (d1 _ kf _ i).toUInt8
    rw [tN_uN kf s i (by omega), cN_dN kf s i (by omega), c1_d1 kf s _ (by omega)]
/-- The program's tag is the document's. -/
theorem tag_eq (kf : Nat → UInt8) (s : List UInt8) : tagF θr kf s = docF θr kf s := by
  show (List.range 16).map (tN (endK θr kf s) kf 16) = (List.range 16).map (uN (endD kf s) kf 16)
  rw [tN_uN kf s 16 (Nat.le_refl _)]
end Go.Proofs.Ytifohjjmbohhnaa.Pol

/- Whether two texts are the same. -/
namespace Go.Proofs.Ytifohjjmbohhnaa.Pol
set_option linter.unusedVariables false
set_option linter.unusedSimpArgs false
open Go Go.Eng
set_option maxRecDepth 100000
set_option maxHeartbeats 1000000
set_option linter.unusedSimpArgs false
set_option linter.unusedVariables false
noncomputable def p9 : List Code := pieces (bodyOf Try.f18)
noncomputable def L9 : Code := loopOf (p9.getD 3 .skip)
def T9 (a b : List UInt8) (x : UInt8) (m i : Nat) : TL := [(0, .str a), (1, .str b), (4, .bool false), (5, .u8 x), (11, .int .i64 (m : Int)), (12, .int .i64 (i : Int))]
def S9 (a b : List UInt8) (x : UInt8) (m i : Nat) : SA := ⟨T9 a b x m i, [], 64⟩
section
variable (a b : List UInt8) (x x0 : UInt8) (m i j F : Nat)
theorem p9_3 : (pieces (bodyOf Try.f18))[3]? = some (.block 0 (.loop L9)) := by kernel_rfl
theorem w9a : segO (evSO Try.prog noPS noCS [200011] Try.f18.ntmps (mask 18) (F + 100) 0 ((pieces (bodyOf Try.f18)).take 3) ⟨startT [.str a, .str b] 0, [], 0⟩ ⟨[], [.int .i64 (m : Int)], []⟩) = some (S9 a b 0 m 0, [eqS (.int .i64 (if (b.length : Int) < (a.length : Int) then (b.length : Int) else (a.length : Int))) (.int .i64 (m : Int))]) := by kernel_rfl
theorem w9r : roundO2 Try.prog noPS noCS [13,18,21,200012] [true] [.int .i64 (j : Int)] Try.f18.ntmps (mask 18) F 0 L9 (S9 a b x0 m 0) (S9 a b x m i) = some (S9 a b (x ||| (a.getD (i : Int).toNat 0 ^^^ b.getD (i : Int).toNat 0)) m j, [eqS (.int .i64 (IntKind.wrap .i64 ((i : Int) + 1))) (.int .i64 (j : Int)), decide (0 ≤ (i : Int)) && decide ((i : Int) < (b.length : Int)), decide (0 ≤ (i : Int)) && decide ((i : Int) < (a.length : Int)), decide ((i : Int) < (m : Int))]) := by kernel_rfl
theorem w9x : evSO Try.prog noPS noCS [13] Try.f18.ntmps (mask 18) F 0 [L9] (S9 a b x m i) ⟨[false], [], []⟩ = some (.exit 0, ⟨T9 a b x m i ++ [(13, .bool false)], [], 72⟩, ⟨[], [], [!(decide ((i : Int) < (m : Int)))]⟩) := by kernel_rfl
theorem w9t : ansF Try.prog Try.f18 (evSO Try.prog noPS noCS [26] Try.f18.ntmps (mask 18) F 0 ((pieces (bodyOf Try.f18)).drop 4) ⟨T9 a b x m i ++ [(13, .bool false)], [], 72⟩ ⟨[true], [], []⟩) = some (.bool ((a.length : Int) == (b.length : Int)), [x == 0]) := by kernel_rfl
theorem w9f : ansF Try.prog Try.f18 (evSO Try.prog noPS noCS [26] Try.f18.ntmps (mask 18) F 0 ((pieces (bodyOf Try.f18)).drop 4) ⟨T9 a b x m i ++ [(13, .bool false)], [], 72⟩ ⟨[false], [], []⟩) = some (.bool false, [!(x == 0)]) := by kernel_rfl
theorem ok9 : okS Try.prog (S9 a b x m i) = true := by kernel_rfl
end
def xr (a b : List UInt8) : Nat → UInt8
  | 0 => 0
  | i + 1 => xr a b i ||| (a.getD i 0 ^^^ b.getD i 0)
theorem or_z {x y : UInt8} : (x ||| y) = 0 ↔ x = 0 ∧ y = 0 := by
  constructor
  · intro h
    have h1 := congrArg UInt8.toNat h
    rw [UInt8.toNat_or] at h1
    have h2 : x.toNat ||| y.toNat = 0 := h1
    exact ⟨UInt8.toNat_inj.1 (Nat.or_eq_zero_iff.1 h2).1, UInt8.toNat_inj.1 (Nat.or_eq_zero_iff.1 h2).2⟩
  · rintro ⟨rfl, rfl⟩; rfl
theorem xor_z {x y : UInt8} : (x ^^^ y) = 0 ↔ x = y := UInt8.xor_eq_zero_iff
theorem xr_z (a b : List UInt8) : ∀ n, xr a b n = 0 ↔ ∀ i, i < n → a.getD i 0 = b.getD i 0
  | 0 => ⟨fun _ i h => by omega, fun _ => rfl⟩
  | n + 1 => by
    show (xr a b n ||| _) = 0 ↔ _
    rw [or_z, xr_z a b n, xor_z]
    constructor
    · rintro ⟨h1, h2⟩ i hi
      by_cases e : i = n
      · subst e; exact h2
      · exact h1 i (by omega)
    · intro h
      exact ⟨fun i hi => h i (by omega), h n (by omega)⟩
theorem same_val (a b : List UInt8) : (cond (xr a b (min a.length b.length) == 0) ((a.length : Int) == (b.length : Int)) false) = (a == b) := by
  by_cases hl : a.length = b.length
  · have e : ((a.length : Int) == (b.length : Int)) = true := by rw [hl]; simp
    rw [e]
    have hm : min a.length b.length = a.length := by omega
    by_cases hx : xr a b (min a.length b.length) = 0
    · have : a = b := by
        apply List.ext_getElem hl
        intro i h1 h2
        have := (xr_z a b _).1 hx i (by omega)
        rw [List.getD_eq_getElem?_getD, List.getD_eq_getElem?_getD, List.getElem?_eq_getElem h1, List.getElem?_eq_getElem h2] at this
        exact this
      rw [hx, this]; simp
    · have : a ≠ b := by
        intro h
        subst h
        exact hx ((xr_z a a _).2 fun i _ => rfl)
      have e1 : (xr a b (min a.length b.length) == 0) = false := by simp [hx]
      have e2 : (a == b) = false := by simp [this]
      rw [e1, e2]; rfl
  · have : a ≠ b := fun h => hl (by rw [h])
    have e : ((a.length : Int) == (b.length : Int)) = false := by simp; omega
    have e2 : (a == b) = false := by simp [this]
    rw [e, e2]
    cases (xr a b (min a.length b.length) == 0) <;> rfl
theorem run9 (a b : List UInt8) (hs : a.length < 1000000000000) : (run1 Try.prog noCS (mask 18) (a.length + 100 + 100) 18 [.str a, .str b] [] Try.prog.globals.size).map (·.1) = some (.bool (a == b)) := by
  rw [gl]
  obtain ⟨m, hm⟩ : ∃ m, m = min a.length b.length := ⟨_, rfl⟩
  have hp := segO_pre (noPS_ok _) (w9a a b m (a.length + 100)) (by
    have : eqS (.int .i64 (if (b.length : Int) < (a.length : Int) then (b.length : Int) else (a.length : Int))) (.int .i64 (m : Int)) = true := eqI (by split <;> omega)
    simp only [allT, this, cond_true])
  have hr : ∀ i, i < m → roundA (evC Try.prog noCS Try.f18.ntmps (mask 18) (a.length + 100 + 100) 0 L9) (headA Try.prog 0 (S9 a b (xr a b 0) m 0)) (S9 a b (xr a b i) m i) = some (S9 a b (xr a b (i + 1)) m (i + 1)) := fun i hi => by
    have q := w9r a b (xr a b i) 0 m i (i + 1) (a.length + 100 + 100)
    rw [Int.toNat_natCast] at q
    refine roundO2_ok (noPS_ok _) q ?_ (ok9 ..)
    have o1 : eqS (.int .i64 (IntKind.wrap .i64 ((i : Int) + 1))) (.int .i64 ((i + 1 : Nat) : Int)) = true := eqS_i64 (by rw [wrapI _ (by omega) (by omega)]; omega)
    have o2 : (decide (0 ≤ (i : Int)) && decide ((i : Int) < (b.length : Int))) = true := by simp only [Bool.and_eq_true, decide_eq_true_eq]; omega
    have o3 : (decide (0 ≤ (i : Int)) && decide ((i : Int) < (a.length : Int))) = true := by simp only [Bool.and_eq_true, decide_eq_true_eq]; omega
    have o4 : decide ((i : Int) < (m : Int)) = true := decide_eq_true (by omega)
    simp only [allT, o1, o2, o3, o4, cond_true]
  have hx := (evSO_ok (noPS_ok _) _ _ _ _ _ _ (w9x a b (xr a b m) m m (a.length + 100 + 100)) (by simp [allT])).1
  rw [evS_one] at hx
  have hv := same_val a b
  rw [← hm] at hv
  have ht : finV Try.prog Try.f18 (evS Try.prog noCS Try.f18.ntmps (mask 18) (a.length + 100 + 100) 0 ((pieces (bodyOf Try.f18)).drop 4) ⟨T9 a b (xr a b m) m m ++ [(13, .bool false)], [], 72⟩) = some (.bool (a == b)) := by
    cases hc : (xr a b m == 0) <;> rw [hc] at hv <;> simp only [cond_true, cond_false] at hv <;> rw [← hv]
    · exact (ansF_ok2 (noPS_ok _) (w9f a b (xr a b m) m m _) (by rw [hc]; rfl)).1
    · exact (ansF_ok2 (noPS_ok _) (w9t a b (xr a b m) m m _) (by rw [hc]; rfl)).1
  exact run_loop (fn := Try.f18) (c := bodyOf Try.f18) (by kernel_rfl) (by kernel_rfl) (by kernel_rfl) 3 p9_3 (fun i => S9 a b (xr a b i) m i) m hp hr hx (by omega) ht
theorem call9 (a b : List UInt8) (hs : a.length < 1000000000000) : CallOk Try.prog 18 [.str a, .str b] (.pure (.bool (a == b))) := callOk_val (noCS_ok _) hmix (run9 a b hs) rfl rfl
end Go.Proofs.Ytifohjjmbohhnaa.Pol

/- Tags as summaries; the bytes of a tag. -/
namespace Go.Proofs.Ytifohjjmbohhnaa.Pol
set_option linter.unusedVariables false
set_option linter.unusedSimpArgs false
open Go Go.Eng Go.Poly
set_option maxRecDepth 100000
set_option maxHeartbeats 1000000
set_option linter.unusedSimpArgs false
set_option linter.unusedVariables false
def kfOf (k : List UInt8) (i : Nat) : UInt8 := k.getD i 0
theorem keyL_of {k : List UInt8} (h : k.length = 32) : keyL (kfOf k) = k := by
  unfold keyL
  apply List.ext_getElem
  · simp [h]
  · intro i h1 h2
    rw [List.getElem_map, List.getElem_range]
    unfold kfOf
    rw [List.getD_eq_getElem?_getD, List.getElem?_eq_getElem h2]; rfl
def tvR (k s : List UInt8) : List UInt8 := cond (Nat.beq k.length 32) (tagF θr (kfOf k) s) []
def trR (k : List UInt8) : Int := cond (Nat.beq k.length 32) 0 2
def shR (s : List UInt8) : Bool := Nat.ble s.length 1000000
def smR (a b : List UInt8) : Bool := a == b
structure Fz where
  tv : List UInt8 → List UInt8 → List UInt8
  tr : List UInt8 → Int
  sm : List UInt8 → List UInt8 → Bool
  sh : List UInt8 → Bool
def realFz : Fz := ⟨tvR, trR, smR, shR⟩
theorem call7 (k s : List UInt8) (h : shR s = true) : CallOk Try.prog 24 [.str k, .str s] (.pure (.tup [.str (tvR k s), .int .i64 (trR k)])) := by
  have hs := Nat.le_of_ble_eq_true h
  unfold tvR trR
  by_cases hk : k.length = 32
  · rw [hk, show Nat.beq 32 32 = true by rfl, cond_true, cond_true]
    have := callOk7 nq_ok (kfOf k) s (by omega)
    rw [keyL_of hk] at this
    exact this
  · have hb : Nat.beq k.length 32 = false := by rw [beq_d, decide_eq_false hk]
    rw [hb, cond_false, cond_false]
    refine callOk_val nq_ok hmix (ansO_run (noPS_ok _) (run7n θr k s) ?_) rfl rfl
    have : ((k.length : Int) != 32) = true := by simp only [bne_iff_ne, ne_eq]; omega
    simp only [allT, this, cond_true]
theorem call8 (k s : List UInt8) (h : shR s = true) : CallOk Try.prog 27 [.str k, .str s] (.pure (.tup [.str (tvR k s), .int .i64 (trR k)])) := by
  have hs := Nat.le_of_ble_eq_true h
  unfold tvR trR
  by_cases hk : k.length = 32
  · rw [hk, show Nat.beq 32 32 = true by rfl, cond_true, cond_true]
    have := callOk8 nq_ok (kfOf k) s (by omega)
    rw [keyL_of hk, ← tag_eq] at this
    exact this
  · have hb : Nat.beq k.length 32 = false := by rw [beq_d, decide_eq_false hk]
    rw [hb, cond_false, cond_false]
    refine callOk_val nq_ok hmix (ansO_run (noPS_ok _) (run8n θr k s) ?_) rfl rfl
    have : ((k.length : Int) != 32) = true := by simp only [bne_iff_ne, ne_eq]; omega
    simp only [allT, this, cond_true]
def z7 (φ : Fz) : List AVal → Option (EffA × Bool)
  | [.str k, .str s] => some (.pure (.tup [.str (φ.tv k s), .int .i64 (φ.tr k)]), φ.sh s)
  | _ => none
def z9 (φ : Fz) : List AVal → Option (EffA × Bool)
  | [.str a, .str b] => some (.pure (.bool (φ.sm a b)), φ.sh a)
  | _ => none
theorem z7_ok : CSOk Try.prog (csP (psOne 24 (z7 realFz))) := csP_one fun args v he => by
  unfold z7 at he
  split at he
  · rename_i k s
    simp only [Option.some.injEq, Prod.mk.injEq] at he
    obtain ⟨rfl, h⟩ := he
    exact call7 k s h
  · cases he
theorem z8_ok : CSOk Try.prog (csP (psOne 27 (z7 realFz))) := csP_one fun args v he => by
  unfold z7 at he
  split at he
  · rename_i k s
    simp only [Option.some.injEq, Prod.mk.injEq] at he
    obtain ⟨rfl, h⟩ := he
    exact call8 k s h
  · cases he
theorem z9_ok : CSOk Try.prog (csP (psOne 18 (z9 realFz))) := csP_one fun args v he => by
  unfold z9 at he
  split at he
  · rename_i a b
    simp only [Option.some.injEq, Prod.mk.injEq] at he
    obtain ⟨rfl, h⟩ := he
    exact call9 a b (by have : a.length ≤ 1000000 := Nat.le_of_ble_eq_true h; omega)
  · cases he
def psz (φ : Fz) : PS := psAlt (psOne 24 (z7 φ)) (psAlt (psOne 27 (z7 φ)) (psOne 18 (z9 φ)))
theorem psz_ok : CSOk Try.prog (csP (psz realFz)) := csP_alt z7_ok (csP_alt z8_ok z9_ok)
def nz0 (φ : Fz) : CS := csAlt (csP (psz φ)) noCS
theorem nz0_ok : CSOk Try.prog (nz0 realFz) := csAlt_ok psz_ok (noCS_ok _)
theorem nz0_ps (φ : Fz) : PSOk (psz φ) (nz0 φ) := csP_ok
/-! ### the bytes of a tag -/
def Eb (kf : Nat → UInt8) (s : List UInt8) (i : Nat) : Nat := V5 (endK θr kf s) / 256 ^ i % 256
def cyN (kf : Nat → UInt8) (E : Nat → Nat) : Nat → Nat
  | 0 => 0
  | i + 1 => (cyN kf E i + (E i + (kf (16 + i)).toNat)) / 256
theorem cy_le {kf : Nat → UInt8} {E : Nat → Nat} (hE : ∀ i, E i < 256) : ∀ i, cyN kf E i ≤ 1
  | 0 => Nat.zero_le _
  | i + 1 => by
    have := cy_le (kf := kf) hE i
    have := hE i
    have := (kf (16 + i)).toNat_lt
    show (cyN kf E i + (E i + (kf (16 + i)).toNat)) / 256 ≤ 1
    omega
theorem end_T5 (kf : Nat → UInt8) (s : List UInt8) : T5 (nt (endK θr kf s)) := by
  obtain ⟨h1, h2, h3⟩ := both_h kf s (nC s) (Nat.le_refl _)
  have a0 : ∀ i, i < 5 → nt (nU 5 (hK θr kf s (nC s))) i < M62 := fun i hi => by rw [nt_nU _ _ i hi]; exact N5_62 h1 i hi
  have e1 : endK θr kf s = redF (nU 5 (hK θr kf s (nC s))) := by unfold endK; rw [gU_cellsU]; rfl
  rw [e1]
  exact (redF_ok a0).1
theorem end_V5 (kf : Nat → UInt8) (s : List UInt8) : V5 (endK θr kf s) = V5 (hK θr kf s (nC s)) % Pp := by
  obtain ⟨h1, h2, h3⟩ := both_h kf s (nC s) (Nat.le_refl _)
  have a0 : ∀ i, i < 5 → nt (nU 5 (hK θr kf s (nC s))) i < M62 := fun i hi => by rw [nt_nU _ _ i hi]; exact N5_62 h1 i hi
  have e1 : endK θr kf s = redF (nU 5 (hK θr kf s (nC s))) := by unfold endK; rw [gU_cellsU]; rfl
  rw [e1, (redF_ok a0).2, V5_nU]
theorem Eb_lt (kf : Nat → UInt8) (s : List UInt8) (i : Nat) : Eb kf s i < 256 := Nat.mod_lt _ (by omega)
theorem c1_n (kf : Nat → UInt8) (s : List UInt8) {c : UInt64} {k : Nat} (hc : c.toNat = k) (hk : k ≤ 1) {i : Nat} (hi : i < 16) : (c1 (endK θr kf s) kf c i).toNat = k + (Eb kf s i + (kf (16 + i)).toNat) := by
  have h1 := xw_n (end_T5 kf s) i hi
  have h2 := Eb_lt kf s i
  have h3 := (kf (16 + i)).toNat_lt
  have h1' : (xw (endK θr kf s) i &&& 255).toNat = Eb kf s i := h1
  have e : ((xw (endK θr kf s) i &&& 255) + (kf (16 + i)).toUInt64).toNat = Eb kf s i + (kf (16 + i)).toNat := by
    rw [add_n (by rw [h1', UInt8.toNat_toUInt64]; omega), h1', UInt8.toNat_toUInt64]
  unfold c1
  rw [add_n (by rw [e, hc]; omega), e, hc]
theorem cN_n (kf : Nat → UInt8) (s : List UInt8) : ∀ i, i ≤ 16 → (cN (endK θr kf s) kf i).toNat = cyN kf (Eb kf s) i
  | 0, _ => rfl
  | i + 1, h => by
    show (shr_u64 (c1 (endK θr kf s) kf (cN (endK θr kf s) kf i) i) 8).toNat = (cyN kf (Eb kf s) i + (Eb kf s i + (kf (16 + i)).toNat)) / 256
    rw [shr_n _ _ (by omega), c1_n kf s (cN_n kf s i (by omega)) (cy_le (Eb_lt kf s) i) (by omega)]
theorem tN_get (h : Nat → UInt64) (kf : Nat → UInt8) : ∀ n, ∀ i, i < n → tN h kf n i = (c1 h kf (cN h kf i) i).toUInt8
  | 0, i, hi => by omega
  | n + 1, i, hi => by
    show updF (tN h kf n) n (c1 h kf (cN h kf n) n).toUInt8 i = _
    unfold updF
    by_cases e : i = n
    · subst e; rw [if_pos rfl]
    · rw [if_neg e, tN_get h kf n i (by omega)]
theorem tag_len (kf : Nat → UInt8) (s : List UInt8) : (tagF θr kf s).length = 16 := by unfold tagF; simp
theorem tag_get (kf : Nat → UInt8) (s : List UInt8) {i : Nat} (hi : i < 16) : ((tagF θr kf s).getD i 0).toNat = (cyN kf (Eb kf s) i + (Eb kf s i + (kf (16 + i)).toNat)) % 256 := by
  have e : (tagF θr kf s).getD i 0 = tN (endK θr kf s) kf 16 i := by
    unfold tagF
    rw [List.getD_eq_getElem?_getD, List.getElem?_map, List.getElem?_range hi]; rfl
  rw [e, tN_get _ _ 16 i hi, UInt64.toNat_toUInt8, c1_n kf s (cN_n kf s i (by omega)) (cy_le (Eb_lt kf s) i) hi]
/-- Keys whose first halves are the same. -/
theorem Eb_congr {kf kg : Nat → UInt8} (h : ∀ i, i < 16 → kf i = kg i) (s : List UInt8) : Eb kf s = Eb kg s := by
  have hm : cellsB 16 (mk kf) = cellsB 16 (mk kg) := cellsB_congr fun i hi => by unfold mk; rw [h i hi]
  have hr : rK θr kf = rK θr kg := by unfold rK; rw [hm]
  have hh : ∀ k, hK θr kf s k = hK θr kg s k := fun k => by
    induction k with
    | zero => rfl
    | succ k ih =>
      show stepK θr kf (hK θr kf s k) (xK θr s k) = stepK θr kg (hK θr kg s k) (xK θr s k)
      rw [ih]
      unfold stepK
      rw [hr]
  funext i
  unfold Eb
  rw [end_V5, end_V5, hh]
/-- The number of a text of one piece and more. -/
theorem V5_step (kf : Nat → UInt8) (s : List UInt8) {k : Nat} (hk : k < nC s) : V5 (hK θr kf s (k + 1)) % Pp = (V5 (hK θr kf s k) + vN 256 (pN (pK s k)) 17) * vN 256 (rN kf) 16 % Pp := by
  obtain ⟨h1, h2, h3⟩ := both_h kf s k (by omega)
  obtain ⟨x1, x2⟩ := xK_n hk
  obtain ⟨a1, a2⟩ := stepK_ok (kf := kf) h1 fun i _ => x1 i
  show V5 (stepK θr kf (hK θr kf s k) (xK θr s k)) % Pp = _
  rw [a2, x2, (rK_n kf).2]
theorem Eb_zero {kf : Nat → UInt8} (h : ∀ i, i < 16 → kf i = 0) (s : List UInt8) (i : Nat) : Eb kf s i = 0 := by
  have hr : vN 256 (rN kf) 16 = 0 := vN_zero 256 fun i hi => by
    unfold rN
    rw [if_pos hi]
    unfold mk
    rw [h i hi]
    cases (Nat.beq i 3 || (Nat.beq i 7 || (Nat.beq i 11 || Nat.beq i 15))) <;> cases (Nat.beq i 4 || (Nat.beq i 8 || Nat.beq i 12)) <;> rfl
  have hv : ∀ k, k ≤ nC s → V5 (hK θr kf s k) % Pp = 0 := fun k hk => by
    cases k with
    | zero => exact (congrArg (· % Pp) (show V5 (hK θr kf s 0) = 0 from vN_zero B26 fun i _ => rfl)).trans (Nat.zero_mod _)
    | succ k => rw [V5_step kf s (by omega), hr, Nat.mul_zero, Nat.zero_mod]
  unfold Eb
  rw [end_V5, hv _ (Nat.le_refl _), Nat.zero_div]
theorem Eb_nil (kf : Nat → UInt8) (i : Nat) : Eb kf [] i = 0 := by
  unfold Eb
  rw [end_V5]
  have : V5 (hK θr kf [] (nC [])) = 0 := vN_zero B26 fun i _ => rfl
  rw [this, Nat.zero_mod, Nat.zero_div]
/-- Without a number the tag is the key's second half. -/
theorem tag_zero {kf : Nat → UInt8} {s : List UInt8} (h : ∀ i, Eb kf s i = 0) : tagF θr kf s = (List.range 16).map fun i => kf (16 + i) := by
  have hc : ∀ i, cyN kf (Eb kf s) i = 0 := fun i => by
    induction i with
    | zero => rfl
    | succ i ih =>
      have := (kf (16 + i)).toNat_lt
      show (cyN kf (Eb kf s) i + (Eb kf s i + (kf (16 + i)).toNat)) / 256 = 0
      rw [ih, h i]
      omega
  apply List.ext_getElem
  · rw [tag_len]; simp
  · intro i h1 h2
    rw [tag_len] at h1
    have e := tag_get kf s h1
    rw [List.getD_eq_getElem?_getD, List.getElem?_eq_getElem (by rw [tag_len]; exact h1)] at e
    apply UInt8.toNat_inj.1
    rw [List.getElem_map, List.getElem_range]
    have := (kf (16 + i)).toNat_lt
    rw [show ((tagF θr kf s)[i]).toNat = _ from e, hc i, h i]
    omega
end Go.Proofs.Ytifohjjmbohhnaa.Pol

/- Texts with bytes 0 behind them as a summary; numbers as bytes. -/
namespace Go.Proofs.Ytifohjjmbohhnaa.Ae
set_option linter.unusedVariables false
set_option linter.unusedSimpArgs false
open Go Go.Eng Go.Proofs.Ytifohjjmbohhnaa
set_option maxRecDepth 100000
set_option maxHeartbeats 1000000
set_option linter.unusedSimpArgs false
set_option linter.unusedVariables false
abbrev mask := Pol.mask
theorem hmix : Try.prog.follows .mixedOrders = true := Pol.hmix
theorem gl : Try.prog.globals.size = 0 := Pol.gl
def two (off : Nat) : AObj → Option AVal
  | .cells _ c => match c[off]?, c[off + 1]? with
    | some (.str a), some (.str b) => cond (Nat.ble a.length 200000 && Nat.ble b.length 200000) (some (.str (Bld.padT a b))) none
    | _, _ => none
def g25 : List AVal → Option EffA
  | [.slice n off 2 1] => some (.read n (two off))
  | _ => none
theorem g25_ok : CSOk Try.prog (csOne 25 g25) := csOne_ok fun args e he => by
  unfold g25 at he
  split at he
  · rename_i n off
    cases he
    intro σ args' H w base v H' hl hg hH happ hfree
    simp only [EffA.app] at happ
    cases hn : aget H n with
    | none => rw [hn] at happ; cases happ
    | some ob =>
      rw [hn] at happ
      simp only at happ
      cases hv : two off ob with
      | none => rw [hv] at happ; cases happ
      | some u =>
        rw [hv] at happ
        simp only [Option.some.injEq, Prod.mk.injEq] at happ
        obtain ⟨rfl, rfl⟩ := happ
        obtain ⟨ro, c⟩ := ob
        unfold two at hv
        simp only at hv
        split at hv
        · rename_i a b h0 h1
          cases hb : (Nat.ble a.length 200000 && Nat.ble b.length 200000) <;> rw [hb] at hv <;> simp only [cond_true, cond_false] at hv
          · cases hv
          · cases hv
            rw [Bool.and_eq_true] at hb
            obtain ⟨x, rfl, hx⟩ := LR.inv1 hl
            cases hx with
            | @slice _ _ _ _ p o cap hp ho hc hs =>
              have hoo : o = p.sh + off := by
                rcases ho with h | h
                · cases h
                · exact h
              subst hoo
              obtain ⟨q, hq, hor⟩ := hH.obj n _ hn
              rw [hp] at hq
              cases hq
              obtain ⟨c', t, fz, e1, e2, e3, _⟩ := hor
              obtain ⟨u0, i0, r0⟩ := e3 off _ h0
              obtain ⟨u1, i1, r1⟩ := e3 (off + 1) _ h1
              cases r0
              cases r1
              have hlt : p.blk < w.heap.size := (Array.getElem?_eq_some_iff.1 e1).1
              have sz : ∀ l : List UInt8, (⟨l.toArray⟩ : ByteArray).size = l.length := fun l => by show l.toArray.size = _; simp
              refine (Bld.padded_calls ⟨a.toArray⟩ ⟨b.toArray⟩ (by rw [sz]; exact Nat.le_of_ble_eq_true hb.1) (by rw [sz]; exact Nat.le_of_ble_eq_true hb.2) p.blk (p.sh + off) cap w (by rw [cell_at e1]; exact i0) (by rw [cell_at e1]; exact i1) hlt).mono fun r w' ⟨hr, hf⟩ => ?_
              have keep : ∀ b, b < w.heap.size → w'.heap[b]? = w.heap[b]? := fun b hb => hf.block b hb (by intro e; cases e)
              refine ⟨σ, _, hr, ?_, ⟨fun m o hm => ?_, hH.inj⟩, ⟨Sig.le_refl σ, hf.size, hf.os, hf.output, hf.tape, fun b hb hno => ⟨keep b hb, hno⟩⟩, Only.refl _ _⟩
              · have e : (⟨a.toArray⟩ : ByteArray).data.toList = a := by simp
                have e' : (⟨b.toArray⟩ : ByteArray).data.toList = b := by simp
                rw [e, e']
                exact .str _
              · obtain ⟨q, hq, ho⟩ := hH.obj m o hm
                exact ⟨q, hq, ho.mono (Sig.le_refl σ) (keep _ ho.lt)⟩
        · cases hv
  · cases he
/-! ### small ones -/
theorem run20 (n : UInt64) : (run1 Try.prog noCS (mask 20) 100 20 [.u64 n] [] Try.prog.globals.size).map (·.1) = some (.str (Bld.eightL n)) := by kernel_rfl
def g8 (e : UInt64 → List UInt8) : List AVal → Option EffA
  | [.u64 n] => some (.pure (.str (e n)))
  | _ => none
theorem g19_ok : CSOk Try.prog (csOne 19 (g8 Bld.eightL)) := csOne_ok fun args e he => by
  unfold g8 at he
  split at he
  · cases he; exact callOk_val (noCS_ok _) hmix (Bld.run19 _) rfl rfl
  · cases he
theorem g20_ok : CSOk Try.prog (csOne 20 (g8 Bld.eightL)) := csOne_ok fun args e he => by
  unfold g8 at he
  split at he
  · cases he; exact callOk_val (noCS_ok _) hmix (run20 _) rfl rfl
  · cases he
end Go.Proofs.Ytifohjjmbohhnaa.Ae

/- What sealing is made of, as summaries. -/
namespace Go.Proofs.Ytifohjjmbohhnaa.Ae
set_option linter.unusedVariables false
set_option linter.unusedSimpArgs false
open Go Go.Eng Go.Proofs.Ytifohjjmbohhnaa
set_option maxRecDepth 100000
set_option maxHeartbeats 1000000
set_option linter.unusedSimpArgs false
set_option linter.unusedVariables false
structure Fl where
  may : List UInt8 → List UInt8 → Bool
  tv : List UInt8 → List UInt8 → UInt32 → List UInt8 → List UInt8
  tr : List UInt8 → List UInt8 → UInt32 → List UInt8 → Int
  bv : List UInt8 → List UInt8 → UInt32 → List UInt8
  br : List UInt8 → List UInt8 → Int
  pg : List UInt8 → List UInt8 → List UInt8
  pr : List UInt8 → Int
  sm : List UInt8 → List UInt8 → Bool
  sh : List UInt8 → Bool
  ei : UInt64 → List UInt8
def bvR (k n : List UInt8) (c : UInt32) : List UInt8 := cond (Cha.may k n) (Cha.blkL Cha.realFb k n c) []
def brR (k n : List UInt8) : Int := cond (Cha.may k n) 0 2
def realFl : Fl := ⟨Cha.may, Cha.tvR, Cha.trR, bvR, brR, Pol.tvR, Pol.trR, Pol.smR, Pol.shR, Bld.eightL⟩
def gMay (φ : Fl) : List AVal → Option EffA
  | [.str a, .str b] => some (.pure (.bool (φ.may a b)))
  | _ => none
def gBlk (φ : Fl) : List AVal → Option EffA
  | [.str a, .str b, .u32 c] => some (.pure (.tup [.str (φ.bv a b c), .int .i64 (φ.br a b)]))
  | _ => none
def pTurn (φ : Fl) : List AVal → Option (EffA × Bool)
  | [.str a, .str b, .u32 c, .str s] => some (.pure (.tup [.str (φ.tv a b c s), .int .i64 (φ.tr a b c s)]), φ.sh s)
  | _ => none
def pBlk (φ : Fl) : List AVal → Option (EffA × Bool)
  | [.str a, .str b, .u32 c] => some (.pure (.str (φ.bv a b c)), φ.may a b)
  | _ => none
def pTag (φ : Fl) : List AVal → Option (EffA × Bool)
  | [.str k, .str s] => some (.pure (.tup [.str (φ.pg k s), .int .i64 (φ.pr k)]), φ.sh s)
  | _ => none
def pSame (φ : Fl) : List AVal → Option (EffA × Bool)
  | [.str a, .str b] => some (.pure (.bool (φ.sm a b)), φ.sh a)
  | _ => none
theorem sh_short {s : List UInt8} (h : Pol.shR s = true) : Cha.shortB s = true := Nat.ble_eq_true_of_le (by have := Nat.le_of_ble_eq_true h; omega)
theorem may15 : CSOk Try.prog (csOne 15 (gMay realFl)) := csOne_ok fun args e he => by
  unfold gMay at he
  split at he
  · cases he; exact Cha.k8_ok 15 _ _ rfl
  · cases he
theorem may21 : CSOk Try.prog (csOne 21 (gMay realFl)) := csOne_ok fun args e he => by
  unfold gMay at he
  split at he
  · cases he; exact Cha.k12_ok 21 _ _ rfl
  · cases he
theorem blk23 : CSOk Try.prog (csOne 23 (gBlk realFl)) := csOne_ok fun args e he => by
  unfold gBlk at he
  split at he
  · rename_i a b c
    cases he
    have hg := Cha.k7_ok 23 [.str a, .str b, .u32 c] _ rfl
    have e0 : Cha.realFb.may a b = Cha.may a b := rfl
    rw [e0] at hg
    show CallOk Try.prog 23 _ (.pure (.tup [.str (bvR a b c), .int .i64 (brR a b)]))
    unfold bvR brR
    cases hm : Cha.may a b <;> rw [hm] at hg <;> exact hg
  · cases he
theorem turn13 : CSOk Try.prog (csP (psOne 13 (pTurn realFl))) := csP_one fun args v he => by
  unfold pTurn at he
  split at he
  · rename_i a b c s
    simp only [Option.some.injEq, Prod.mk.injEq] at he
    obtain ⟨rfl, h⟩ := he
    exact Cha.call10 a b s c (sh_short h)
  · cases he
theorem turn16 : CSOk Try.prog (csP (psOne 16 (pTurn realFl))) := csP_one fun args v he => by
  unfold pTurn at he
  split at he
  · rename_i a b c s
    simp only [Option.some.injEq, Prod.mk.injEq] at he
    obtain ⟨rfl, h⟩ := he
    exact Cha.call11 a b s c (sh_short h)
  · cases he
theorem blk26 : CSOk Try.prog (csP (psOne 26 (pBlk realFl))) := csP_one fun args v he => by
  unfold pBlk at he
  split at he
  · rename_i a b c
    simp only [Option.some.injEq, Prod.mk.injEq] at he
    obtain ⟨rfl, h⟩ := he
    have hm : Cha.may a b = true := h
    have hg := Cha.k9_ok 26 [.str a, .str b, .u32 c] _ (show cond (Cha.may a b) _ _ = _ by rw [hm]; rfl)
    show CallOk Try.prog 26 _ (.pure (.str (bvR a b c)))
    unfold bvR
    rw [hm]
    exact hg
  · cases he
theorem tag24 : CSOk Try.prog (csP (psOne 24 (pTag realFl))) := csP_one fun args v he => by
  unfold pTag at he
  split at he
  · rename_i k s
    simp only [Option.some.injEq, Prod.mk.injEq] at he
    obtain ⟨rfl, h⟩ := he
    exact Pol.call7 k s h
  · cases he
theorem tag27 : CSOk Try.prog (csP (psOne 27 (pTag realFl))) := csP_one fun args v he => by
  unfold pTag at he
  split at he
  · rename_i k s
    simp only [Option.some.injEq, Prod.mk.injEq] at he
    obtain ⟨rfl, h⟩ := he
    exact Pol.call8 k s h
  · cases he
theorem same18 : CSOk Try.prog (csP (psOne 18 (pSame realFl))) := csP_one fun args v he => by
  unfold pSame at he
  split at he
  · rename_i a b
    simp only [Option.some.injEq, Prod.mk.injEq] at he
    obtain ⟨rfl, h⟩ := he
    exact Pol.call9 a b (by have : a.length ≤ 1000000 := Nat.le_of_ble_eq_true h; omega)
  · cases he
def psl (φ : Fl) : PS := psAlt (psOne 13 (pTurn φ)) (psAlt (psOne 16 (pTurn φ)) (psAlt (psOne 26 (pBlk φ)) (psAlt (psOne 24 (pTag φ)) (psAlt (psOne 27 (pTag φ)) (psOne 18 (pSame φ))))))
theorem psl_ok : CSOk Try.prog (csP (psl realFl)) := csP_alt turn13 (csP_alt turn16 (csP_alt blk26 (csP_alt tag24 (csP_alt tag27 same18))))
def chl (φ : Fl) : CS := csAlt (csOne 15 (gMay φ)) (csAlt (csOne 21 (gMay φ)) (csAlt (csOne 23 (gBlk φ)) (csAlt (csOne 25 g25) (csAlt (csOne 19 (g8 φ.ei)) (csOne 20 (g8 φ.ei))))))
theorem chl_ok : CSOk Try.prog (chl realFl) := csAlt_ok may15 (csAlt_ok may21 (csAlt_ok blk23 (csAlt_ok g25_ok (csAlt_ok g19_ok g20_ok))))
def nl (φ : Fl) : CS := csAlt (csP (psl φ)) (chl φ)
theorem nl_ok : CSOk Try.prog (nl realFl) := csAlt_ok psl_ok chl_ok
theorem nl_ps (φ : Fl) : PSOk (psl φ) (nl φ) := csP_ok
end Go.Proofs.Ytifohjjmbohhnaa.Ae

/- Bytes 0 behind a text. -/
namespace Go.Proofs.Ytifohjjmbohhnaa.Ae
set_option linter.unusedVariables false
set_option linter.unusedSimpArgs false
open Go Go.Eng Go.Proofs.Ytifohjjmbohhnaa
set_option maxRecDepth 100000
set_option maxHeartbeats 1000000
set_option linter.unusedSimpArgs false
set_option linter.unusedVariables false
theorem w28 (s : List UInt8) (m : Nat) : ansO (run1O Try.prog noPS noCS [7,8,9,200007] [] [.int .i64 (m : Int), .str (List.replicate m 0)] (mask 28) 100 28 [.str s] [] Try.prog.globals.size) = some (.str (List.replicate m 0),
  [strAt (zrow [.u8 0] ((m : Int).toNat * 1)) 0 (m : Int).toNat (List.replicate m 0), (((decide (0 ≤ (m : Int)) && decide ((m : Int) ≤ (m : Int))) && decide (((1 : Nat) : Int) * (m : Int) ≤ 281474976710656)) && decide ((m : Int) ≤ 281474976710656)), eqS (.int .i64 (Int.tmod (IntKind.wrap .i64 (16 - (Int.tmod (s.length : Int) 16))) 16)) (.int .i64 (m : Int)), true]) := by kernel_rfl
theorem pad_val (n : Nat) : Int.tmod (IntKind.wrap .i64 (16 - (Int.tmod (n : Int) 16))) 16 = (((16 - n % 16) % 16 : Nat) : Int) := by
  have e : Int.tmod (n : Int) 16 = ((n % 16 : Nat) : Int) := (Int.ofNat_tmod n 16).symm
  rw [e, wrapI _ (by omega) (by omega)]
  have e2 : (16 : Int) - ((n % 16 : Nat) : Int) = ((16 - n % 16 : Nat) : Int) := by omega
  rw [e2]
  exact (Int.ofNat_tmod (16 - n % 16) 16).symm
theorem bytesA_rep : ∀ (m : Nat), bytesA (List.replicate m (.u8 0)) = some (List.replicate m 0)
  | 0 => rfl
  | m + 1 => by rw [List.replicate_succ, List.replicate_succ, bytesA, bytesA_rep m]
theorem run28 (s : List UInt8) : (run1 Try.prog noCS (mask 28) 100 28 [.str s] [] Try.prog.globals.size).map (·.1) = some (.str (Bld.padL s.length)) := by
  have h16 : (16 - s.length % 16) % 16 < 16 := Nat.mod_lt _ (by omega)
  have q := w28 s ((16 - s.length % 16) % 16)
  rw [pad_val] at q
  obtain ⟨m, hm⟩ : ∃ m, m = (16 - s.length % 16) % 16 := ⟨_, rfl⟩
  rw [← hm] at q h16
  have r := ansO_run (noPS_ok _) q (by
    have o1 : strAt (zrow [.u8 0] ((m : Int).toNat * 1)) 0 (m : Int).toNat (List.replicate m 0) = true := by
      rw [Int.toNat_natCast, Nat.mul_one]
      show strAt (List.replicate m (.u8 0)) 0 m (List.replicate m 0) = true
      unfold strAt
      rw [List.drop_zero, List.length_replicate, List.take_of_length_le (by simp), bytesA_rep]
      simp
    have o2 : (((decide (0 ≤ (m : Int)) && decide ((m : Int) ≤ (m : Int))) && decide (((1 : Nat) : Int) * (m : Int) ≤ 281474976710656)) && decide ((m : Int) ≤ 281474976710656)) = true := by simp; omega
    have o3 : eqS (.int .i64 (m : Int)) (.int .i64 (m : Int)) = true := by simp [eqS]
    simp only [allT, o1, o2, o3, cond_true])
  rw [hm] at r
  exact r
def gPad (f : Nat → List UInt8) : List AVal → Option EffA
  | [.str s] => some (.pure (.str (f s.length)))
  | _ => none
theorem pad28 : CSOk Try.prog (csOne 28 (gPad Bld.padL)) := csOne_ok fun args e he => by
  unfold gPad at he
  split at he
  · cases he; exact callOk_val (noCS_ok _) hmix (run28 _) rfl rfl
  · cases he
def nm (φ : Fl) (f : Nat → List UInt8) : CS := csAlt (csP (psl φ)) (csAlt (csOne 28 (gPad f)) (chl φ))
theorem nm_ok : CSOk Try.prog (nm realFl Bld.padL) := csAlt_ok psl_ok (csAlt_ok pad28 chl_ok)
theorem nm_ps (φ : Fl) (f : Nat → List UInt8) : PSOk (psl φ) (nm φ f) := csP_ok
end Go.Proofs.Ytifohjjmbohhnaa.Ae

/- Tags of what is sealed. -/
namespace Go.Proofs.Ytifohjjmbohhnaa.Ae
set_option linter.unusedVariables false
set_option linter.unusedSimpArgs false
open Go Go.Eng Go.Proofs.Ytifohjjmbohhnaa
set_option maxRecDepth 100000
set_option maxHeartbeats 1000000
set_option linter.unusedSimpArgs false
set_option linter.unusedVariables false
def k0 (b : List UInt8) : List UInt8 := (b.take (Int.toNat 32)).drop (Int.toNat 0)
theorem w14t (φ : Fl) (k n a c d : List UInt8) : ansO (run1O Try.prog (psl φ) (nl φ) [19,22,300026,27] [true] [.str d, .tup []] (mask 14) 100 14 [.str k, .str n, .str a, .str c] [] Try.prog.globals.size) = some (.tup [.str [], .int .i64 (φ.br k n)], [φ.br k n != 0]) := by kernel_rfl
theorem w14f (φ : Fl) (k n a c d : List UInt8) : ansO (run1O Try.prog (psl φ) (nl φ) [19,22,300026,27] [false] [.str d, .tup []] (mask 14) 100 14 [.str k, .str n, .str a, .str c] [] Try.prog.globals.size) = some (.tup [.str (φ.pg (k0 (φ.bv k n 0)) d), .int .i64 (φ.pr (k0 (φ.bv k n 0)))],
  [φ.sh d, decP ((EffA.read 128 (two 0)).app 136 [(128, .cells false [.str a, .str c])] = some (.str d, [(128, .cells false [.str a, .str c])])), decide ((0 : Int) ≤ 0) && (decide ((0 : Int) ≤ 32) && decide ((32 : Int) ≤ ((φ.bv k n 0).length : Int))), !(φ.br k n != 0)]) := by kernel_rfl
def doc (φ : Fl) (f : Nat → List UInt8) (a c : List UInt8) : List UInt8 := ((((a ++ f a.length) ++ c) ++ f c.length) ++ φ.ei (UInt64.ofInt (a.length : Int))) ++ φ.ei (UInt64.ofInt (c.length : Int))
theorem w17 (φ : Fl) (k n a c : List UInt8) (f : Nat → List UInt8) : ansO (run1O Try.prog (psl φ) (nm φ f) [14,15,19,21,24,29,34,35] [] [] (mask 17) 100 17 [.str k, .str n, .str a, .str c] [] Try.prog.globals.size) = some (.str (φ.pg (k0 (φ.bv k n 0)) (doc φ f a c)),
  [φ.sh (doc φ f a c), Nat.ble (((((a ++ f a.length) ++ c) ++ f c.length) ++ φ.ei (UInt64.ofInt (a.length : Int))).length + (φ.ei (UInt64.ofInt (c.length : Int))).length) 9223372036854775807, Nat.ble ((((a ++ f a.length) ++ c) ++ f c.length).length + (φ.ei (UInt64.ofInt (a.length : Int))).length) 9223372036854775807,
   Nat.ble (((a ++ f a.length) ++ c).length + (f c.length).length) 9223372036854775807, Nat.ble ((a ++ f a.length).length + c.length) 9223372036854775807, Nat.ble (a.length + (f a.length).length) 9223372036854775807, decide ((0 : Int) ≤ 0) && (decide ((0 : Int) ≤ 32) && decide ((32 : Int) ≤ ((φ.bv k n 0).length : Int))), φ.may k n]) := by kernel_rfl
theorem ofInt64 (n : Nat) : UInt64.ofInt (n : Int) = UInt64.ofNat n := by
  apply UInt64.toNat_inj.1
  unfold UInt64.ofInt
  rw [UInt64.toNat_ofNat', UInt64.toNat_ofNat']
  omega
theorem padL_len (n : Nat) : (Bld.padL n).length < 16 := by
  unfold Bld.padL
  rw [List.length_replicate]
  exact Nat.mod_lt _ (by omega)
theorem doc_eq (a c : List UInt8) : doc realFl Bld.padL a c = Bld.padT a c := by
  unfold doc Bld.padT
  rw [ofInt64, ofInt64, List.append_assoc (a ++ Bld.padL a.length ++ c ++ Bld.padL c.length)]
  rfl
theorem padT_len (a c : List UInt8) : (Bld.padT a c).length ≤ a.length + c.length + 46 := by
  have := padL_len a.length
  have := padL_len c.length
  unfold Bld.padT
  simp only [List.length_append, Bld.eight_len]
  omega
def tagA (k n a c : List UInt8) : List UInt8 := Pol.tvR (k0 (bvR k n 0)) (Bld.padT a c)
theorem bv_len {k n : List UInt8} (h : Cha.may k n = true) : (bvR k n 0).length = 64 := by
  unfold bvR
  rw [h]
  exact Cha.blkL_len _ _ _ _
theorem k0_len {k n : List UInt8} (h : Cha.may k n = true) : (k0 (bvR k n 0)).length = 32 := by
  unfold k0
  rw [List.length_drop, List.length_take, bv_len h]
  rfl
theorem pr0 {k n : List UInt8} (h : Cha.may k n = true) : Pol.trR (k0 (bvR k n 0)) = 0 := by
  unfold Pol.trR
  rw [k0_len h]; rfl
theorem call14 (k n a c : List UInt8) (ha : a.length ≤ 200000) (hc : c.length ≤ 200000) : CallOk Try.prog 14 [.str k, .str n, .str a, .str c] (.pure (.tup [.str (cond (Cha.may k n) (tagA k n a c) []), .int .i64 (brR k n)])) := by
  cases hm : Cha.may k n with
  | false =>
    have hb : (realFl.br k n != 0) = true := by show (brR k n != 0) = true; unfold brR; rw [hm]; rfl
    exact callOk_val nl_ok hmix (ansO_run (nl_ps _) (w14t realFl k n a c []) (by simp only [allT, hb, cond_true])) rfl rfl
  | true =>
    have hb : (realFl.br k n != 0) = false := by show (brR k n != 0) = false; unfold brR; rw [hm]; rfl
    have hl : (decide ((0 : Int) ≤ 0) && (decide ((0 : Int) ≤ 32) && decide ((32 : Int) ≤ ((realFl.bv k n 0).length : Int)))) = true := by
      have : (realFl.bv k n 0).length = 64 := bv_len hm
      rw [this]; rfl
    have hs : realFl.sh (Bld.padT a c) = true := Nat.ble_eq_true_of_le (by have := padT_len a c; omega)
    have hd : decP ((EffA.read 128 (two 0)).app 136 [(128, .cells false [.str a, .str c])] = some (.str (Bld.padT a c), [(128, .cells false [.str a, .str c])])) = true := decP_of (by
      have e1 : Nat.ble a.length 200000 = true := Nat.ble_eq_true_of_le ha
      have e2 : Nat.ble c.length 200000 = true := Nat.ble_eq_true_of_le hc
      simp [EffA.app, aget, two, e1, e2])
    have r := callOk_val nl_ok hmix (ansO_run (nl_ps _) (w14f realFl k n a c (Bld.padT a c)) (by simp only [allT, hb, hl, hs, hd, Bool.not_false, cond_true])) rfl rfl
    have e1 : realFl.pr (k0 (realFl.bv k n 0)) = 0 := pr0 hm
    rw [e1] at r
    have e2 : brR k n = 0 := by unfold brR; rw [hm]; rfl
    rw [e2]
    exact r
theorem call17 (k n a c : List UInt8) (hm : Cha.may k n = true) (ha : a.length ≤ 200000) (hc : c.length ≤ 200000) : CallOk Try.prog 17 [.str k, .str n, .str a, .str c] (.pure (.str (tagA k n a c))) := by
  have hl : (decide ((0 : Int) ≤ 0) && (decide ((0 : Int) ≤ 32) && decide ((32 : Int) ≤ ((realFl.bv k n 0).length : Int)))) = true := by
    have : (realFl.bv k n 0).length = 64 := bv_len hm
    rw [this]; rfl
  have hs : realFl.sh (doc realFl Bld.padL a c) = true := by
    rw [doc_eq]
    exact Nat.ble_eq_true_of_le (by have := padT_len a c; omega)
  have l1 := padL_len a.length
  have l2 := padL_len c.length
  have e8 : ∀ x, (realFl.ei x).length = 8 := fun x => Bld.eight_len x
  have r := callOk_val nm_ok hmix (ansO_run (nm_ps _ _) (w17 realFl k n a c Bld.padL) (by
    have o : ∀ x, x ≤ 9223372036854775807 → Nat.ble x 9223372036854775807 = true := fun x h => Nat.ble_eq_true_of_le h
    have hm' : realFl.may k n = true := hm
    rw [o _ (by simp only [List.length_append, e8]; omega), o _ (by simp only [List.length_append, e8]; omega), o _ (by simp only [List.length_append]; omega), o _ (by simp only [List.length_append]; omega), o _ (by omega)]
    simp only [allT, hl, hs, hm', cond_true])) rfl rfl
  rw [doc_eq] at r
  exact r
end Go.Proofs.Ytifohjjmbohhnaa.Ae

/- Sealing and opening: what they are made of. -/
namespace Go.Proofs.Ytifohjjmbohhnaa.Ae
set_option linter.unusedVariables false
set_option linter.unusedSimpArgs false
open Go Go.Eng Go.Proofs.Ytifohjjmbohhnaa
set_option maxRecDepth 100000
set_option maxHeartbeats 1000000
set_option linter.unusedSimpArgs false
set_option linter.unusedVariables false
structure Fm where
  may : List UInt8 → List UInt8 → Bool
  tv : List UInt8 → List UInt8 → UInt32 → List UInt8 → List UInt8
  tr : List UInt8 → List UInt8 → UInt32 → List UInt8 → Int
  tg : List UInt8 → List UInt8 → List UInt8 → List UInt8 → List UInt8
  br : List UInt8 → List UInt8 → Int
  sm : List UInt8 → List UInt8 → Bool
  sh : List UInt8 → Bool
def shS (s : List UInt8) : Bool := Nat.ble s.length 200000
def tgR (k n a c : List UInt8) : List UInt8 := cond (Cha.may k n) (tagA k n a c) []
def realFm : Fm := ⟨Cha.may, Cha.tvR, Cha.trR, tgR, brR, Pol.smR, shS⟩
def hMay (φ : Fm) : List AVal → Option EffA
  | [.str a, .str b] => some (.pure (.bool (φ.may a b)))
  | _ => none
def qTurn (φ : Fm) : List AVal → Option (EffA × Bool)
  | [.str a, .str b, .u32 c, .str s] => some (.pure (.tup [.str (φ.tv a b c s), .int .i64 (φ.tr a b c s)]), φ.sh s)
  | _ => none
def qTag (φ : Fm) : List AVal → Option (EffA × Bool)
  | [.str k, .str n, .str a, .str c] => some (.pure (.tup [.str (φ.tg k n a c), .int .i64 (φ.br k n)]), φ.sh a && φ.sh c)
  | _ => none
def qDoc (φ : Fm) : List AVal → Option (EffA × Bool)
  | [.str k, .str n, .str a, .str c] => some (.pure (.str (φ.tg k n a c)), φ.may k n && (φ.sh a && φ.sh c))
  | _ => none
def qSame (φ : Fm) : List AVal → Option (EffA × Bool)
  | [.str a, .str b] => some (.pure (.bool (φ.sm a b)), φ.sh a)
  | _ => none
theorem shS_R {s : List UInt8} (h : shS s = true) : Pol.shR s = true := Nat.ble_eq_true_of_le (by have := Nat.le_of_ble_eq_true h; omega)
theorem hmay15 : CSOk Try.prog (csOne 15 (hMay realFm)) := csOne_ok fun args e he => by
  unfold hMay at he
  split at he
  · cases he; exact Cha.k8_ok 15 _ _ rfl
  · cases he
theorem qturn13 : CSOk Try.prog (csP (psOne 13 (qTurn realFm))) := csP_one fun args v he => by
  unfold qTurn at he
  split at he
  · rename_i a b c s
    simp only [Option.some.injEq, Prod.mk.injEq] at he
    obtain ⟨rfl, h⟩ := he
    exact Cha.call10 a b s c (sh_short (shS_R h))
  · cases he
theorem qturn16 : CSOk Try.prog (csP (psOne 16 (qTurn realFm))) := csP_one fun args v he => by
  unfold qTurn at he
  split at he
  · rename_i a b c s
    simp only [Option.some.injEq, Prod.mk.injEq] at he
    obtain ⟨rfl, h⟩ := he
    exact Cha.call11 a b s c (sh_short (shS_R h))
  · cases he
theorem qtag14 : CSOk Try.prog (csP (psOne 14 (qTag realFm))) := csP_one fun args v he => by
  unfold qTag at he
  split at he
  · rename_i k n a c
    simp only [Option.some.injEq, Prod.mk.injEq] at he
    obtain ⟨rfl, h⟩ := he
    rw [Bool.and_eq_true] at h
    exact call14 k n a c (Nat.le_of_ble_eq_true h.1) (Nat.le_of_ble_eq_true h.2)
  · cases he
theorem qdoc17 : CSOk Try.prog (csP (psOne 17 (qDoc realFm))) := csP_one fun args v he => by
  unfold qDoc at he
  split at he
  · rename_i k n a c
    simp only [Option.some.injEq, Prod.mk.injEq] at he
    obtain ⟨rfl, h⟩ := he
    rw [Bool.and_eq_true, Bool.and_eq_true] at h
    have hm : Cha.may k n = true := h.1
    have e : realFm.tg k n a c = tagA k n a c := by show tgR k n a c = _; unfold tgR; rw [hm]; rfl
    rw [e]
    exact call17 k n a c hm (Nat.le_of_ble_eq_true h.2.1) (Nat.le_of_ble_eq_true h.2.2)
  · cases he
theorem qsame18 : CSOk Try.prog (csP (psOne 18 (qSame realFm))) := csP_one fun args v he => by
  unfold qSame at he
  split at he
  · rename_i a b
    simp only [Option.some.injEq, Prod.mk.injEq] at he
    obtain ⟨rfl, h⟩ := he
    exact Pol.call9 a b (by have := Nat.le_of_ble_eq_true h; omega)
  · cases he
def psm (φ : Fm) : PS := psAlt (psOne 13 (qTurn φ)) (psAlt (psOne 16 (qTurn φ)) (psAlt (psOne 14 (qTag φ)) (psAlt (psOne 17 (qDoc φ)) (psOne 18 (qSame φ)))))
theorem psm_ok : CSOk Try.prog (csP (psm realFm)) := csP_alt qturn13 (csP_alt qturn16 (csP_alt qtag14 (csP_alt qdoc17 qsame18)))
def nn (φ : Fm) : CS := csAlt (csP (psm φ)) (csOne 15 (hMay φ))
theorem nn_ok : CSOk Try.prog (nn realFm) := csAlt_ok psm_ok hmay15
theorem nn_ps (φ : Fm) : PSOk (psm φ) (nn φ) := csP_ok
end Go.Proofs.Ytifohjjmbohhnaa.Ae
