/- Texts Eng30, Mo4, Mo5, Mo6, Mo9, Mo7, Mo8, Mo10, Fp: what they show stands ahead of each. -/
import Derived.Test.YthpknhpbnpaghaaT5
import Derived.Test.YthpknhpbnpaghaaT8
/- Engine, part 30: functions with a loop, tests foretold from the beginning to the end. -/
namespace Go.Eng
set_option linter.unusedVariables false
set_option linter.unusedSimpArgs false
open Go
/-- A loop's end and what stands behind it. -/
def endO (P : Program) (ps : PS) (cs : CS) (sy : List Nat) (fn : Func) (nn F bs id : Nat) (b : Code) (l : List Code) (s : SA) (q : OS) : Option (AVal × List Bool) :=
  match evT P ps cs sy fn.ntmps nn F bs b s q with
  | some (.exit id', s1, q1) => cond (Nat.beq id' id) (ansF P fn (evSO P ps cs sy fn.ntmps nn F bs l s1 q1)) none
  | _ => none
theorem ansF_ok2 {P : Program} {ps : PS} {cs : CS} (hps : PSOk ps cs) {sy : List Nat} {fn : Func} {nt nn F bs : Nat} {l : List Code} {s : SA} {q : OS} {v : AVal} {ob : List Bool} (h : ansF P fn (evSO P ps cs sy nt nn F bs l s q) = some (v, ob)) (ha : allT ob = true) : finV P fn (evS P cs nt nn F bs l s) = some v ∧ allT q.ob = true := by
  cases hx : evSO P ps cs sy nt nn F bs l s q with
  | none => rw [hx] at h; cases h
  | some r =>
    obtain ⟨x, s', q'⟩ := r
    rw [hx] at h
    have hq : q'.ob = ob := by
      unfold ansF at h
      cases hv : finV P fn (some (x, s')) with
      | none => simp only [hv] at h; cases h
      | some u =>
        simp only [hv, Option.some.injEq, Prod.mk.injEq] at h
        exact h.2
    have h2 := evSO_ok hps l s q x s' q' hx (by rw [hq]; exact ha)
    refine ⟨?_, h2.2⟩
    rw [h2.1]
    unfold ansF at h
    cases hv : finV P fn (some (x, s')) with
    | none => simp only [hv] at h; cases h
    | some u =>
      simp only [hv, Option.some.injEq, Prod.mk.injEq] at h
      rw [h.1]
theorem endO_ok {P : Program} {ps : PS} {cs : CS} (hps : PSOk ps cs) {sy : List Nat} {fn : Func} {nn F bs id : Nat} {b : Code} {l : List Code} {s : SA} {os : List Bool} {vs : List AVal} {v : AVal} {ob : List Bool} (h : endO P ps cs sy fn nn F bs id b l s ⟨os, vs, []⟩ = some (v, ob)) (ha : allT ob = true) :
    ∃ s1, evC P cs fn.ntmps nn F bs b s = some (.exit id, s1) ∧ finV P fn (evS P cs fn.ntmps nn F bs l s1) = some v := by
  unfold endO at h
  split at h
  · rename_i id' s1 q1 he
    cases hb : Nat.beq id' id with
    | false => rw [hb] at h; cases h
    | true =>
      rw [hb, cond_true] at h
      have := Nat.eq_of_beq_eq_true hb
      subst this
      obtain ⟨h1, h2⟩ := ansF_ok2 hps h ha
      exact ⟨s1, (evT_ok hps b _ _ _ _ _ he h2).1, h1⟩
  · cases h
theorem segO_pre {P : Program} {ps : PS} {cs : CS} (hps : PSOk ps cs) {sy : List Nat} {nt nn F bs : Nat} {l : List Code} {s s' : SA} {os : List Bool} {vs : List AVal} {ob : List Bool} (h : segO (evSO P ps cs sy nt nn F bs l s ⟨os, vs, []⟩) = some (s', ob)) (ha : allT ob = true) : evS P cs nt nn F bs l s = some (.normal, s') := by
  unfold segO at h
  split at h
  · rename_i s1 q he
    simp only [Option.some.injEq, Prod.mk.injEq] at h
    obtain ⟨rfl, rfl⟩ := h
    exact (evSO_ok hps _ _ _ _ _ _ he ha).1
  · cases h
theorem run_loopO {P : Program} {ps : PS} {cs : CS} (hps : PSOk ps cs) {nn F : Nat} {f : FuncId} {fn : Func} {c : Code} {args : List AVal} {H : HL} {fr : Nat} (hf : P.funcs[f]? = some fn) (hb : fn.body = some c) (hn : Nat.ble args.length fn.ntmps = true)
    (k : Nat) {id : Nat} {b : Code} (hk : (pieces c)[k]? = some (.block id (.loop b))) (I : Nat → SA) (N : Nat) {sy0 sy1 : List Nat} {os0 os1 : List Bool} {vs0 vs1 : List AVal} {ob0 ob1 : List Bool}
    (hpre : segO (evSO P ps cs sy0 fn.ntmps nn F fr ((pieces c).take k) ⟨startT args 0, H, fr⟩ ⟨os0, vs0, []⟩) = some (I 0, ob0)) (ha0 : allT ob0 = true)
    (hstep : ∀ j, j < N → roundA (evC P cs fn.ntmps nn F fr b) (headA P fr (I 0)) (I j) = some (I (j + 1)))
    {v : AVal} (hend : endO P ps cs sy1 fn nn F fr id b ((pieces c).drop (k + 1)) (I N) ⟨os1, vs1, []⟩ = some (v, ob1)) (ha1 : allT ob1 = true) (hF : N < F) : (run1 P cs nn F f args H fr).map (·.1) = some v := by
  obtain ⟨s1, h1, h2⟩ := endO_ok hps hend ha1
  exact run_loop hf hb hn k hk I N (segO_pre hps hpre ha0) hstep h1 hF h2
theorem flatMap_at {α β : Type} {f : α → List β} {k : Nat} (hf : ∀ x, (f x).length = k) : ∀ {l : List α} {i : Nat} {x : α} {j : Nat}, l[i]? = some x → j < k → (l.flatMap f)[i * k + j]? = (f x)[j]?
  | [], i, x, j, h, _ => by simp at h
  | y :: l, 0, x, j, h, hj => by
    simp only [List.getElem?_cons_zero, Option.some.injEq] at h
    subst h
    rw [List.flatMap_cons, Nat.zero_mul, Nat.zero_add, List.getElem?_append_left (by rw [hf]; exact hj)]
  | y :: l, i + 1, x, j, h, hj => by
    rw [List.getElem?_cons_succ] at h
    have := flatMap_at hf (i := i) h hj
    rw [List.flatMap_cons, List.getElem?_append_right (by rw [hf, Nat.succ_mul]; omega), hf, ← this]
    congr 1
    rw [Nat.succ_mul]; omega
theorem isAt_of {c : List AVal} {off : Nat} {v : AVal} (h : c[off]? = some v) (hv : eqS v v = true) : isAt c off v = true := by
  unfold isAt
  rw [h]; exact hv
end Go.Eng

/- The ladder: its state. -/
namespace Go.Proofs.Ythpknhpbnpaghaa
set_option linter.unusedVariables false
set_option linter.unusedSimpArgs false
open Go Go.Eng Go.Num
set_option maxRecDepth 100000
set_option maxHeartbeats 1000000
set_option linter.unusedSimpArgs false
set_option linter.unusedVariables false
def S14 (k u kk : List UInt8) (cb : List AVal) (x : E5) (p q : P2 E5) (i : Int) : SA := ⟨[(0, .str k), (1, .str u), (4, .str []), (5, .str kk), (7, .slice 72 0 32 1), (8, .ptr 184 0), (10, .ptr 264 0), (11, .int .i64 i)], [(72, .cells false cb), (184, .cells false x.cells), (264, .cells false (ptCells p ++ ptCells q))], 288⟩
noncomputable def cd14 : List Code := pieces (bodyOf Try.f14)
noncomputable def b14 : Code := loopOf (cd14.getD 7 .skip)
def S15 (k u kk : List UInt8) (cb : List AVal) (x : N16) (p q : P2 N16) (i : Int) : SA := ⟨[(0, .str k), (1, .str u), (4, .str []), (5, .str kk), (6, .slice 40 0 32 1), (7, .ptr 136 0), (8, .ptr 160 0), (9, .ptr 184 0), (10, .ptr 208 0), (11, .ptr 232 0), (12, .int .i64 i)], [(40, .cells false cb), (136, .cells false x.cells), (160, .cells false p.x.cells), (184, .cells false p.z.cells), (208, .cells false q.x.cells), (232, .cells false q.z.cells)], 256⟩
noncomputable def cd15 : List Code := pieces (bodyOf Try.f15)
noncomputable def b15 : Code := loopOf (cd15.getD 10 .skip)
end Go.Proofs.Ythpknhpbnpaghaa

/- The ladder, the program's and the document's. -/
namespace Go.Proofs.Ythpknhpbnpaghaa
set_option linter.unusedVariables false
set_option linter.unusedSimpArgs false
open Go Go.Eng Go.Num
set_option maxRecDepth 100000
set_option maxHeartbeats 1000000
set_option linter.unusedSimpArgs false
set_option linter.unusedVariables false
theorem bit_div (m : Nat) (hm : m < 1000000) : IntKind.wrap .i64 (Int.tdiv (m : Int) 8) = ((m / 8 : Nat) : Int) := by
  have e1 : Int.tdiv (m : Int) 8 = ((m / 8 : Nat) : Int) := by rw [Int.tdiv_eq_ediv_of_nonneg (by omega)]; rfl
  rw [e1, wrapI _ (by omega) (by omega)]
theorem bit_rem (m : Nat) (hm : m < 1000000) : UInt64.toNat (UInt64.ofInt (Int.tmod (m : Int) 8)) = m % 8 := by
  have e2 : Int.tmod (m : Int) 8 = ((m % 8 : Nat) : Int) := by rw [Int.tmod_eq_emod_of_nonneg (by omega)]; rfl
  rw [e2, ofInt_nat, UInt64.toNat_ofNat_of_lt']
  show _ < 18446744073709551616; omega
theorem bit_raw (kk : List UInt8) (m : Nat) (hm : m < 1000000) : shr_u8 (List.getD kk (Int.toNat (IntKind.wrap IntKind.i64 (Int.tdiv (m : Int) 8))) 0) (UInt64.toNat (UInt64.ofInt (Int.tmod (m : Int) 8))) &&& 1 = bitB kk m := by
  rw [bit_div m hm, bit_rem m hm]; rfl
theorem bitB_cases (kk : List UInt8) (m : Nat) : bitB kk m = 0 ∨ bitB kk m = 1 := by
  unfold bitB
  generalize shr_u8 (kk.getD (m / 8) 0) (m % 8) = x
  have h : (x &&& 1).toNat = x.toNat % 2 := by rw [UInt8.toNat_and]; exact Nat.and_one_is_mod _
  rcases Nat.mod_two_eq_zero_or_one x.toNat with e | e
  · left; apply UInt8.toNat_inj.1; rw [h, e]; rfl
  · right; apply UInt8.toNat_inj.1; rw [h, e]; rfl
theorem clamp_len {k : List UInt8} (h : isLen k 32 = true) : (clampL k).length = 32 := by
  rw [isLen_eq] at h
  unfold clampL
  rw [List.length_set, List.length_set]; exact h
theorem pre14 (φ : Fl) (k : List UInt8) (u0 u1 u2 u3 u4 u5 u6 u7 u8 u9 u10 u11 u12 u13 u14 u15 u16 u17 u18 u19 u20 u21 u22 u23 u24 u25 u26 u27 u28 u29 u30 u31 : UInt8) : segO (evSO Try.prog (psnl φ) (nl φ) [15] 89 (mask 14) 1000 0 (cd14.take 7) ⟨startT [.str k, .str [u0, u1, u2, u3, u4, u5, u6, u7, u8, u9, u10, u11, u12, u13, u14, u15, u16, u17, u18, u19, u20, u21, u22, u23, u24, u25, u26, u27, u28, u29, u30, u31]] 0, [], 0⟩ ⟨[], [], []⟩) = some (S14 k [u0, u1, u2, u3, u4, u5, u6, u7, u8, u9, u10, u11, u12, u13, u14, u15, u16, u17, u18, u19, u20, u21, u22, u23, u24, u25, u26, u27, u28, u29, u30, u31] (φ.clamp k) [.u8 u0, .u8 u1, .u8 u2, .u8 u3, .u8 u4, .u8 u5, .u8 u6, .u8 u7, .u8 u8, .u8 u9, .u8 u10, .u8 u11, .u8 u12, .u8 u13, .u8 u14, .u8 u15, .u8 u16, .u8 u17, .u8 u18, .u8 u19, .u8 u20, .u8 u21, .u8 u22, .u8 u23, .u8 u24, .u8 u25, .u8 u26, .u8 u27, .u8 u28, .u8 u29, .u8 u30, .u8 (u31 &&& 127)] (φ.of [u0, u1, u2, u3, u4, u5, u6, u7, u8, u9, u10, u11, u12, u13, u14, u15, u16, u17, u18, u19, u20, u21, u22, u23, u24, u25, u26, u27, u28, u29, u30, u31 &&& 127]) ⟨φ.small 1, zeroE⟩ ⟨φ.of [u0, u1, u2, u3, u4, u5, u6, u7, u8, u9, u10, u11, u12, u13, u14, u15, u16, u17, u18, u19, u20, u21, u22, u23, u24, u25, u26, u27, u28, u29, u30, u31 &&& 127], φ.small 1⟩ 254, [φ.l32 k]) := by kernel_rfl
theorem end14 (φ : Fl) (k u kk : List UInt8) (cb : List AVal) (i : Int) (x : E5) (p q : P2 E5) : endO Try.prog (psnl φ) (nl φ) [39] Try.f14 (mask 14) 1000 0 0 b14 (cd14.drop 8) (S14 k u kk cb x p q i) ⟨[false], [], []⟩ = some (.str (φ.bytes (φ.mul p.x (φ.inv p.z))), [!decide ((0 : Int) ≤ i)]) := by kernel_rfl
theorem rnd14a (φ : Fl) (k u kk : List UInt8) (cb : List AVal) (i j : Int) (x : E5) (p p0 q q0 : P2 E5) : roundO2 Try.prog (psnl φ) (nl φ) [39, 45, 200050] [true] [.u8 0] 89 (mask 14) 1000 0 b14 (S14 k u kk cb x p0 q0 j) (S14 k u kk cb x p q i) = some (S14 k u kk cb x (φ.st1 p q x) (φ.st2 p q x) (IntKind.wrap .i64 (i - 1)), [eqS (.u8 (shr_u8 (List.getD kk (Int.toNat (IntKind.wrap IntKind.i64 (Int.tdiv i 8))) 0) (UInt64.toNat (UInt64.ofInt (Int.tmod i 8))) &&& 1)) (.u8 0), (decide ((0 : Int) ≤ IntKind.wrap IntKind.i64 (Int.tdiv i 8)) && decide (IntKind.wrap IntKind.i64 (Int.tdiv i 8) < (kk.length : Int))), decide ((0 : Int) ≤ i)]) := by kernel_rfl
theorem rnd14b (φ : Fl) (k u kk : List UInt8) (cb : List AVal) (i j : Int) (x : E5) (p p0 q q0 : P2 E5) : roundO2 Try.prog (psnl φ) (nl φ) [39, 45, 200050] [true] [.u8 1] 89 (mask 14) 1000 0 b14 (S14 k u kk cb x p0 q0 j) (S14 k u kk cb x p q i) = some (S14 k u kk cb x (φ.st2 q p x) (φ.st1 q p x) (IntKind.wrap .i64 (i - 1)), [eqS (.u8 (shr_u8 (List.getD kk (Int.toNat (IntKind.wrap IntKind.i64 (Int.tdiv i 8))) 0) (UInt64.toNat (UInt64.ofInt (Int.tmod i 8))) &&& 1)) (.u8 1), (decide ((0 : Int) ≤ IntKind.wrap IntKind.i64 (Int.tdiv i 8)) && decide (IntKind.wrap IntKind.i64 (Int.tdiv i 8) < (kk.length : Int))), decide ((0 : Int) ≤ i)]) := by kernel_rfl
theorem gl0 : Try.prog.globals.size = 0 := by kernel_rfl
theorem ok14 (k u kk c : List UInt8) (x : E5) (p q : P2 E5) (i : Int) : okS Try.prog (S14 k u kk (c.map .u8) x p q i) = true := by
  have h : ∀ (m : Nat) (l : List UInt8), ltL m (l.map .u8) = true := fun m l => by
    induction l with
    | nil => rfl
    | cons y l ih => simp [ltL, ltS, ih]
  simp [okS, gl0, S14, ltT, ltH, ltV, ltS, ltL, h, E5.cells, ptCells, nble]
theorem stp14 (k u kk c : List UInt8) (hk : kk.length = 32) (x : E5) (s s0 : P2 E5 × P2 E5) (j : Int) (m : Nat) (hm : m ≤ 254) : roundA (evC Try.prog (nl realFl) 89 (mask 14) 1000 0 b14) (headA Try.prog 0 (S14 k u kk (c.map .u8) x s0.1 s0.2 j)) (S14 k u kk (c.map .u8) x s.1 s.2 m) = some (S14 k u kk (c.map .u8) x (rndO opsE x (bitK kk m) s).1 (rndO opsE x (bitK kk m) s).2 ((m : Int) - 1)) := by
  have hw : IntKind.wrap .i64 ((m : Int) - 1) = (m : Int) - 1 := wrapI _ (by omega) (by omega)
  have hb := bit_raw kk m (by omega)
  have hd := bit_div m (by omega)
  have h1 : decide ((0 : Int) ≤ ((m / 8 : Nat) : Int)) = true := by rw [decide_eq_true_iff]; omega
  have h2 : decide (((m / 8 : Nat) : Int) < (kk.length : Int)) = true := by rw [decide_eq_true_iff]; omega
  have h3 : decide ((0 : Int) ≤ (m : Int)) = true := by rw [decide_eq_true_iff]; omega
  rw [← hw]
  rcases bitB_cases kk m with e | e
  · have hK : bitK kk m = false := by unfold bitK; rw [e]; rfl
    rw [hK]
    exact roundO2_ok (nl_ps _) (rnd14a realFl k u kk (c.map .u8) m j x s.1 s0.1 s.2 s0.2) (by rw [hb, e, hd, h1, h2, h3]; rfl) (ok14 _ _ _ _ _ _ _ _)
  · have hK : bitK kk m = true := by unfold bitK; rw [e]; rfl
    rw [hK]
    exact roundO2_ok (nl_ps _) (rnd14b realFl k u kk (c.map .u8) m j x s.1 s0.1 s.2 s0.2) (by rw [hb, e, hd, h1, h2, h3]; rfl) (ok14 _ _ _ _ _ _ _ _)
theorem run14 (k u : List UInt8) (hk : isLen k 32 = true) (hu : isLen u 32 = true) : (run1 Try.prog (nl realFl) (mask 14) 1000 14 [.str k, .str u] [] 0).map (·.1) = some (.str (ladE k u)) := by
  obtain ⟨u0, u1, u2, u3, u4, u5, u6, u7, u8, u9, u10, u11, u12, u13, u14, u15, u16, u17, u18, u19, u20, u21, u22, u23, u24, u25, u26, u27, u28, u29, u30, u31, rfl⟩ := len32 (isLen_eq.1 hu)
  refine run_loopO (nl_ps _) (fn := Try.f14) (c := bodyOf Try.f14) (by kernel_rfl) (by kernel_rfl) (by kernel_rfl) 7 (id := 0) (b := b14) (by kernel_rfl) (fun j => S14 k [u0, u1, u2, u3, u4, u5, u6, u7, u8, u9, u10, u11, u12, u13, u14, u15, u16, u17, u18, u19, u20, u21, u22, u23, u24, u25, u26, u27, u28, u29, u30, u31] (clampL k) ([u0, u1, u2, u3, u4, u5, u6, u7, u8, u9, u10, u11, u12, u13, u14, u15, u16, u17, u18, u19, u20, u21, u22, u23, u24, u25, u26, u27, u28, u29, u30, u31 &&& 127].map .u8) (ofEl [u0, u1, u2, u3, u4, u5, u6, u7, u8, u9, u10, u11, u12, u13, u14, u15, u16, u17, u18, u19, u20, u21, u22, u23, u24, u25, u26, u27, u28, u29, u30, u31 &&& 127]) (ladO opsE (clampL k) (ofEl [u0, u1, u2, u3, u4, u5, u6, u7, u8, u9, u10, u11, u12, u13, u14, u15, u16, u17, u18, u19, u20, u21, u22, u23, u24, u25, u26, u27, u28, u29, u30, u31 &&& 127]) j).1 (ladO opsE (clampL k) (ofEl [u0, u1, u2, u3, u4, u5, u6, u7, u8, u9, u10, u11, u12, u13, u14, u15, u16, u17, u18, u19, u20, u21, u22, u23, u24, u25, u26, u27, u28, u29, u30, u31 &&& 127]) j).2 (254 - (j : Int))) 255 (pre14 realFl k u0 u1 u2 u3 u4 u5 u6 u7 u8 u9 u10 u11 u12 u13 u14 u15 u16 u17 u18 u19 u20 u21 u22 u23 u24 u25 u26 u27 u28 u29 u30 u31) ?_ (fun j hj => ?_) (end14 realFl k [u0, u1, u2, u3, u4, u5, u6, u7, u8, u9, u10, u11, u12, u13, u14, u15, u16, u17, u18, u19, u20, u21, u22, u23, u24, u25, u26, u27, u28, u29, u30, u31] (clampL k) ([u0, u1, u2, u3, u4, u5, u6, u7, u8, u9, u10, u11, u12, u13, u14, u15, u16, u17, u18, u19, u20, u21, u22, u23, u24, u25, u26, u27, u28, u29, u30, u31 &&& 127].map .u8) _ (ofEl [u0, u1, u2, u3, u4, u5, u6, u7, u8, u9, u10, u11, u12, u13, u14, u15, u16, u17, u18, u19, u20, u21, u22, u23, u24, u25, u26, u27, u28, u29, u30, u31 &&& 127]) _ _) rfl (by omega)
  · simp [allT, realFl, hk]
  · have e1 : (254 : Int) - (j : Int) = ((254 - j : Nat) : Int) := by omega
    have e2 : (254 : Int) - ((j + 1 : Nat) : Int) = ((254 - j : Nat) : Int) - 1 := by omega
    rw [e1, e2]
    exact stp14 k [u0, u1, u2, u3, u4, u5, u6, u7, u8, u9, u10, u11, u12, u13, u14, u15, u16, u17, u18, u19, u20, u21, u22, u23, u24, u25, u26, u27, u28, u29, u30, u31] (clampL k) [u0, u1, u2, u3, u4, u5, u6, u7, u8, u9, u10, u11, u12, u13, u14, u15, u16, u17, u18, u19, u20, u21, u22, u23, u24, u25, u26, u27, u28, u29, u30, u31 &&& 127] (clamp_len hk) (ofEl [u0, u1, u2, u3, u4, u5, u6, u7, u8, u9, u10, u11, u12, u13, u14, u15, u16, u17, u18, u19, u20, u21, u22, u23, u24, u25, u26, u27, u28, u29, u30, u31 &&& 127]) (ladO opsE (clampL k) (ofEl [u0, u1, u2, u3, u4, u5, u6, u7, u8, u9, u10, u11, u12, u13, u14, u15, u16, u17, u18, u19, u20, u21, u22, u23, u24, u25, u26, u27, u28, u29, u30, u31 &&& 127]) j) _ _ (254 - j) (by omega)
end Go.Proofs.Ythpknhpbnpaghaa

/- The ladder, the document's. -/
namespace Go.Proofs.Ythpknhpbnpaghaa
set_option linter.unusedVariables false
set_option linter.unusedSimpArgs false
open Go Go.Eng Go.Num
set_option maxRecDepth 100000
set_option maxHeartbeats 1000000
set_option linter.unusedSimpArgs false
set_option linter.unusedVariables false
theorem pre15 (φ : Fl) (k : List UInt8) (u0 u1 u2 u3 u4 u5 u6 u7 u8 u9 u10 u11 u12 u13 u14 u15 u16 u17 u18 u19 u20 u21 u22 u23 u24 u25 u26 u27 u28 u29 u30 u31 : UInt8) : segO (evSO Try.prog (psnl φ) (nl φ) [24, 35] 118 (mask 15) 1000 0 (cd15.take 10) ⟨startT [.str k, .str [u0, u1, u2, u3, u4, u5, u6, u7, u8, u9, u10, u11, u12, u13, u14, u15, u16, u17, u18, u19, u20, u21, u22, u23, u24, u25, u26, u27, u28, u29, u30, u31]] 0, [], 0⟩ ⟨[], [], []⟩) = some (S15 k [u0, u1, u2, u3, u4, u5, u6, u7, u8, u9, u10, u11, u12, u13, u14, u15, u16, u17, u18, u19, u20, u21, u22, u23, u24, u25, u26, u27, u28, u29, u30, u31] (φ.clamp k) [.u8 u0, .u8 u1, .u8 u2, .u8 u3, .u8 u4, .u8 u5, .u8 u6, .u8 u7, .u8 u8, .u8 u9, .u8 u10, .u8 u11, .u8 u12, .u8 u13, .u8 u14, .u8 u15, .u8 u16, .u8 u17, .u8 u18, .u8 u19, .u8 u20, .u8 u21, .u8 u22, .u8 u23, .u8 u24, .u8 u25, .u8 u26, .u8 u27, .u8 u28, .u8 u29, .u8 u30, .u8 (u31 &&& 127)] (φ.ofN [u0, u1, u2, u3, u4, u5, u6, u7, u8, u9, u10, u11, u12, u13, u14, u15, u16, u17, u18, u19, u20, u21, u22, u23, u24, u25, u26, u27, u28, u29, u30, u31 &&& 127]) ⟨φ.smallN 1, zeroN⟩ ⟨φ.ofN [u0, u1, u2, u3, u4, u5, u6, u7, u8, u9, u10, u11, u12, u13, u14, u15, u16, u17, u18, u19, u20, u21, u22, u23, u24, u25, u26, u27, u28, u29, u30, u31 &&& 127], φ.smallN 1⟩ 254, [φ.l32 [u0, u1, u2, u3, u4, u5, u6, u7, u8, u9, u10, u11, u12, u13, u14, u15, u16, u17, u18, u19, u20, u21, u22, u23, u24, u25, u26, u27, u28, u29, u30, u31 &&& 127], φ.l32 k]) := by kernel_rfl
theorem end15 (φ : Fl) (k u kk : List UInt8) (cb : List AVal) (i : Int) (x : N16) (p q : P2 N16) : endO Try.prog (psnl φ) (nl φ) [41, 115, 116] Try.f15 (mask 15) 1000 0 0 b15 (cd15.drop 11) (S15 k u kk cb x p q i) ⟨[false], [], []⟩ = some (.str (φ.bytesN (φ.mulN p.x (φ.invN p.z))), [φ.ok p.x && φ.ok (φ.invN p.z), φ.ok p.z, !decide ((0 : Int) ≤ i)]) := by kernel_rfl
def opsL (φ : Fl) : Ops N16 := ⟨φ.addN, φ.subN, φ.mulN, φ.smallN, zeroN⟩
theorem rnd15a (φ : Fl) (k u kk : List UInt8) (cb : List AVal) (i j : Int) (x : N16) (p p0 q q0 : P2 N16) : roundO2 Try.prog (psnl φ) (nl φ) [41, 47, 53, 61, 64, 67, 70, 73, 76, 78, 81, 83, 86, 89, 92, 96, 97, 100, 105, 106, 107] [true, false] [] 118 (mask 15) 1000 0 b15 (S15 k u kk cb x p0 q0 j) (S15 k u kk cb x p q i) = some (S15 k u kk cb x ⟨φ.mulN (φ.mulN (φ.addN (p.x) (p.z)) (φ.addN (p.x) (p.z))) (φ.mulN (φ.subN (p.x) (p.z)) (φ.subN (p.x) (p.z))), φ.mulN (φ.subN (φ.mulN (φ.addN (p.x) (p.z)) (φ.addN (p.x) (p.z))) (φ.mulN (φ.subN (p.x) (p.z)) (φ.subN (p.x) (p.z)))) (φ.addN (φ.mulN (φ.addN (p.x) (p.z)) (φ.addN (p.x) (p.z))) (φ.mulN (φ.smallN 121665) (φ.subN (φ.mulN (φ.addN (p.x) (p.z)) (φ.addN (p.x) (p.z))) (φ.mulN (φ.subN (p.x) (p.z)) (φ.subN (p.x) (p.z))))))⟩ ⟨φ.mulN (φ.addN (φ.mulN (φ.subN (q.x) (q.z)) (φ.addN (p.x) (p.z))) (φ.mulN (φ.addN (q.x) (q.z)) (φ.subN (p.x) (p.z)))) (φ.addN (φ.mulN (φ.subN (q.x) (q.z)) (φ.addN (p.x) (p.z))) (φ.mulN (φ.addN (q.x) (q.z)) (φ.subN (p.x) (p.z)))), φ.mulN (x) (φ.mulN (φ.subN (φ.mulN (φ.subN (q.x) (q.z)) (φ.addN (p.x) (p.z))) (φ.mulN (φ.addN (q.x) (q.z)) (φ.subN (p.x) (p.z)))) (φ.subN (φ.mulN (φ.subN (q.x) (q.z)) (φ.addN (p.x) (p.z))) (φ.mulN (φ.addN (q.x) (q.z)) (φ.subN (p.x) (p.z)))))⟩ (IntKind.wrap .i64 (i - 1)), [φ.ok (φ.subN (φ.mulN (φ.addN (p.x) (p.z)) (φ.addN (p.x) (p.z))) (φ.mulN (φ.subN (p.x) (p.z)) (φ.subN (p.x) (p.z)))) && φ.ok (φ.addN (φ.mulN (φ.addN (p.x) (p.z)) (φ.addN (p.x) (p.z))) (φ.mulN (φ.smallN 121665) (φ.subN (φ.mulN (φ.addN (p.x) (p.z)) (φ.addN (p.x) (p.z))) (φ.mulN (φ.subN (p.x) (p.z)) (φ.subN (p.x) (p.z)))))), φ.ok (φ.mulN (φ.addN (p.x) (p.z)) (φ.addN (p.x) (p.z))) && φ.ok (φ.mulN (φ.smallN 121665) (φ.subN (φ.mulN (φ.addN (p.x) (p.z)) (φ.addN (p.x) (p.z))) (φ.mulN (φ.subN (p.x) (p.z)) (φ.subN (p.x) (p.z))))), φ.ok (φ.smallN 121665) && φ.ok (φ.subN (φ.mulN (φ.addN (p.x) (p.z)) (φ.addN (p.x) (p.z))) (φ.mulN (φ.subN (p.x) (p.z)) (φ.subN (p.x) (p.z)))), φ.ok (φ.mulN (φ.addN (p.x) (p.z)) (φ.addN (p.x) (p.z))) && φ.ok (φ.mulN (φ.subN (p.x) (p.z)) (φ.subN (p.x) (p.z))), φ.ok (x) && φ.ok (φ.mulN (φ.subN (φ.mulN (φ.subN (q.x) (q.z)) (φ.addN (p.x) (p.z))) (φ.mulN (φ.addN (q.x) (q.z)) (φ.subN (p.x) (p.z)))) (φ.subN (φ.mulN (φ.subN (q.x) (q.z)) (φ.addN (p.x) (p.z))) (φ.mulN (φ.addN (q.x) (q.z)) (φ.subN (p.x) (p.z))))), φ.ok (φ.subN (φ.mulN (φ.subN (q.x) (q.z)) (φ.addN (p.x) (p.z))) (φ.mulN (φ.addN (q.x) (q.z)) (φ.subN (p.x) (p.z)))) && φ.ok (φ.subN (φ.mulN (φ.subN (q.x) (q.z)) (φ.addN (p.x) (p.z))) (φ.mulN (φ.addN (q.x) (q.z)) (φ.subN (p.x) (p.z)))), φ.ok (φ.mulN (φ.subN (q.x) (q.z)) (φ.addN (p.x) (p.z))) && φ.ok (φ.mulN (φ.addN (q.x) (q.z)) (φ.subN (p.x) (p.z))), φ.ok (φ.addN (φ.mulN (φ.subN (q.x) (q.z)) (φ.addN (p.x) (p.z))) (φ.mulN (φ.addN (q.x) (q.z)) (φ.subN (p.x) (p.z)))) && φ.ok (φ.addN (φ.mulN (φ.subN (q.x) (q.z)) (φ.addN (p.x) (p.z))) (φ.mulN (φ.addN (q.x) (q.z)) (φ.subN (p.x) (p.z)))), φ.ok (φ.mulN (φ.subN (q.x) (q.z)) (φ.addN (p.x) (p.z))) && φ.ok (φ.mulN (φ.addN (q.x) (q.z)) (φ.subN (p.x) (p.z))), φ.ok (φ.addN (q.x) (q.z)) && φ.ok (φ.subN (p.x) (p.z)), φ.ok (q.x) && φ.ok (q.z), φ.ok (φ.subN (q.x) (q.z)) && φ.ok (φ.addN (p.x) (p.z)), φ.ok (q.x) && φ.ok (q.z), φ.ok (φ.mulN (φ.addN (p.x) (p.z)) (φ.addN (p.x) (p.z))) && φ.ok (φ.mulN (φ.subN (p.x) (p.z)) (φ.subN (p.x) (p.z))), φ.ok (φ.subN (p.x) (p.z)) && φ.ok (φ.subN (p.x) (p.z)), φ.ok (p.x) && φ.ok (p.z), φ.ok (φ.addN (p.x) (p.z)) && φ.ok (φ.addN (p.x) (p.z)), φ.ok (p.x) && φ.ok (p.z), !((shr_u8 (List.getD kk (Int.toNat (IntKind.wrap IntKind.i64 (Int.tdiv i 8))) 0) (UInt64.toNat (UInt64.ofInt (Int.tmod i 8))) &&& 1) == 1), (decide ((0 : Int) ≤ IntKind.wrap IntKind.i64 (Int.tdiv i 8)) && decide (IntKind.wrap IntKind.i64 (Int.tdiv i 8) < (kk.length : Int))), decide ((0 : Int) ≤ i)]) := by kernel_rfl
theorem rnd15b (φ : Fl) (k u kk : List UInt8) (cb : List AVal) (i j : Int) (x : N16) (p p0 q q0 : P2 N16) : roundO2 Try.prog (psnl φ) (nl φ) [41, 47, 53, 61, 64, 67, 70, 73, 76, 78, 81, 83, 86, 89, 92, 96, 97, 100, 105, 106, 107] [true, true] [] 118 (mask 15) 1000 0 b15 (S15 k u kk cb x p0 q0 j) (S15 k u kk cb x p q i) = some (S15 k u kk cb x ⟨φ.mulN (φ.addN (φ.mulN (φ.subN (p.x) (p.z)) (φ.addN (q.x) (q.z))) (φ.mulN (φ.addN (p.x) (p.z)) (φ.subN (q.x) (q.z)))) (φ.addN (φ.mulN (φ.subN (p.x) (p.z)) (φ.addN (q.x) (q.z))) (φ.mulN (φ.addN (p.x) (p.z)) (φ.subN (q.x) (q.z)))), φ.mulN (x) (φ.mulN (φ.subN (φ.mulN (φ.subN (p.x) (p.z)) (φ.addN (q.x) (q.z))) (φ.mulN (φ.addN (p.x) (p.z)) (φ.subN (q.x) (q.z)))) (φ.subN (φ.mulN (φ.subN (p.x) (p.z)) (φ.addN (q.x) (q.z))) (φ.mulN (φ.addN (p.x) (p.z)) (φ.subN (q.x) (q.z)))))⟩ ⟨φ.mulN (φ.mulN (φ.addN (q.x) (q.z)) (φ.addN (q.x) (q.z))) (φ.mulN (φ.subN (q.x) (q.z)) (φ.subN (q.x) (q.z))), φ.mulN (φ.subN (φ.mulN (φ.addN (q.x) (q.z)) (φ.addN (q.x) (q.z))) (φ.mulN (φ.subN (q.x) (q.z)) (φ.subN (q.x) (q.z)))) (φ.addN (φ.mulN (φ.addN (q.x) (q.z)) (φ.addN (q.x) (q.z))) (φ.mulN (φ.smallN 121665) (φ.subN (φ.mulN (φ.addN (q.x) (q.z)) (φ.addN (q.x) (q.z))) (φ.mulN (φ.subN (q.x) (q.z)) (φ.subN (q.x) (q.z))))))⟩ (IntKind.wrap .i64 (i - 1)), [φ.ok (φ.subN (φ.mulN (φ.addN (q.x) (q.z)) (φ.addN (q.x) (q.z))) (φ.mulN (φ.subN (q.x) (q.z)) (φ.subN (q.x) (q.z)))) && φ.ok (φ.addN (φ.mulN (φ.addN (q.x) (q.z)) (φ.addN (q.x) (q.z))) (φ.mulN (φ.smallN 121665) (φ.subN (φ.mulN (φ.addN (q.x) (q.z)) (φ.addN (q.x) (q.z))) (φ.mulN (φ.subN (q.x) (q.z)) (φ.subN (q.x) (q.z)))))), φ.ok (φ.mulN (φ.addN (q.x) (q.z)) (φ.addN (q.x) (q.z))) && φ.ok (φ.mulN (φ.smallN 121665) (φ.subN (φ.mulN (φ.addN (q.x) (q.z)) (φ.addN (q.x) (q.z))) (φ.mulN (φ.subN (q.x) (q.z)) (φ.subN (q.x) (q.z))))), φ.ok (φ.smallN 121665) && φ.ok (φ.subN (φ.mulN (φ.addN (q.x) (q.z)) (φ.addN (q.x) (q.z))) (φ.mulN (φ.subN (q.x) (q.z)) (φ.subN (q.x) (q.z)))), φ.ok (φ.mulN (φ.addN (q.x) (q.z)) (φ.addN (q.x) (q.z))) && φ.ok (φ.mulN (φ.subN (q.x) (q.z)) (φ.subN (q.x) (q.z))), φ.ok (x) && φ.ok (φ.mulN (φ.subN (φ.mulN (φ.subN (p.x) (p.z)) (φ.addN (q.x) (q.z))) (φ.mulN (φ.addN (p.x) (p.z)) (φ.subN (q.x) (q.z)))) (φ.subN (φ.mulN (φ.subN (p.x) (p.z)) (φ.addN (q.x) (q.z))) (φ.mulN (φ.addN (p.x) (p.z)) (φ.subN (q.x) (q.z))))), φ.ok (φ.subN (φ.mulN (φ.subN (p.x) (p.z)) (φ.addN (q.x) (q.z))) (φ.mulN (φ.addN (p.x) (p.z)) (φ.subN (q.x) (q.z)))) && φ.ok (φ.subN (φ.mulN (φ.subN (p.x) (p.z)) (φ.addN (q.x) (q.z))) (φ.mulN (φ.addN (p.x) (p.z)) (φ.subN (q.x) (q.z)))), φ.ok (φ.mulN (φ.subN (p.x) (p.z)) (φ.addN (q.x) (q.z))) && φ.ok (φ.mulN (φ.addN (p.x) (p.z)) (φ.subN (q.x) (q.z))), φ.ok (φ.addN (φ.mulN (φ.subN (p.x) (p.z)) (φ.addN (q.x) (q.z))) (φ.mulN (φ.addN (p.x) (p.z)) (φ.subN (q.x) (q.z)))) && φ.ok (φ.addN (φ.mulN (φ.subN (p.x) (p.z)) (φ.addN (q.x) (q.z))) (φ.mulN (φ.addN (p.x) (p.z)) (φ.subN (q.x) (q.z)))), φ.ok (φ.mulN (φ.subN (p.x) (p.z)) (φ.addN (q.x) (q.z))) && φ.ok (φ.mulN (φ.addN (p.x) (p.z)) (φ.subN (q.x) (q.z))), φ.ok (φ.addN (p.x) (p.z)) && φ.ok (φ.subN (q.x) (q.z)), φ.ok (p.x) && φ.ok (p.z), φ.ok (φ.subN (p.x) (p.z)) && φ.ok (φ.addN (q.x) (q.z)), φ.ok (p.x) && φ.ok (p.z), φ.ok (φ.mulN (φ.addN (q.x) (q.z)) (φ.addN (q.x) (q.z))) && φ.ok (φ.mulN (φ.subN (q.x) (q.z)) (φ.subN (q.x) (q.z))), φ.ok (φ.subN (q.x) (q.z)) && φ.ok (φ.subN (q.x) (q.z)), φ.ok (q.x) && φ.ok (q.z), φ.ok (φ.addN (q.x) (q.z)) && φ.ok (φ.addN (q.x) (q.z)), φ.ok (q.x) && φ.ok (q.z), ((shr_u8 (List.getD kk (Int.toNat (IntKind.wrap IntKind.i64 (Int.tdiv i 8))) 0) (UInt64.toNat (UInt64.ofInt (Int.tmod i 8))) &&& 1) == 1), (decide ((0 : Int) ≤ IntKind.wrap IntKind.i64 (Int.tdiv i 8)) && decide (IntKind.wrap IntKind.i64 (Int.tdiv i 8) < (kk.length : Int))), decide ((0 : Int) ≤ i)]) := by kernel_rfl
theorem okB_add {a b : N16} (h : okB a = true) (k : okB b = true) : okB (addP a b) = true := okB_iff.2 (addP_val a b (okB_iff.1 h) (okB_iff.1 k)).1
theorem okB_sub {a b : N16} (h : okB a = true) (k : okB b = true) : okB (subP a b) = true := okB_add h (okB_iff.2 (negP_ok b (okB_iff.1 k)))
theorem okB_mul {a b : N16} (h : okB a = true) (k : okB b = true) : okB (mulP a b) = true := okB_iff.2 (mulP_val a b (okB_iff.1 h) (okB_iff.1 k)).1
theorem okB_small (n : UInt32) : okB (smallN n) = true := okB_iff.2 (smallN_val n).1
theorem okB_inv {a : N16} (h : okB a = true) : okB (invP a) = true := okB_iff.2 (powP_ok a (okB_iff.1 h) _)
theorem ok15 (k u kk c : List UInt8) (x : N16) (p q : P2 N16) (i : Int) : okS Try.prog (S15 k u kk (c.map .u8) x p q i) = true := by
  have h : ∀ (m : Nat) (l : List UInt8), ltL m (l.map .u8) = true := fun m l => by
    induction l with
    | nil => rfl
    | cons y l ih => simp [ltL, ltS, ih]
  simp [okS, gl0, S15, ltT, ltH, ltV, ltS, ltL, h, N16.cells, nble]
def okP2 (s : P2 N16 × P2 N16) : Prop := (okB s.1.x = true ∧ okB s.1.z = true) ∧ (okB s.2.x = true ∧ okB s.2.z = true)
theorem ok_lad (k : List UInt8) {u : List UInt8} (h : isLen u 32 = true) (j : Nat) : okP2 (ladO opsN k (ofP u) j) := by
  have r := lad_keeps keeps_EN k (rel_of h) j
  exact ⟨⟨okB_iff.2 r.1.1.okP, okB_iff.2 r.1.2.okP⟩, ⟨okB_iff.2 r.2.1.okP, okB_iff.2 r.2.2.okP⟩⟩
theorem stp15 (k u kk c : List UInt8) (hk : kk.length = 32) (x : N16) (hx : okB x = true) (s s0 : P2 N16 × P2 N16) (hs : okP2 s) (j : Int) (m : Nat) (hm : m ≤ 254) : roundA (evC Try.prog (nl realFl) 118 (mask 15) 1000 0 b15) (headA Try.prog 0 (S15 k u kk (c.map .u8) x s0.1 s0.2 j)) (S15 k u kk (c.map .u8) x s.1 s.2 m) = some (S15 k u kk (c.map .u8) x (rndO opsN x (bitK kk m) s).1 (rndO opsN x (bitK kk m) s).2 ((m : Int) - 1)) := by
  have hw : IntKind.wrap .i64 ((m : Int) - 1) = (m : Int) - 1 := wrapI _ (by omega) (by omega)
  have hb := bit_raw kk m (by omega)
  have hd := bit_div m (by omega)
  have h1 : decide ((0 : Int) ≤ ((m / 8 : Nat) : Int)) = true := by rw [decide_eq_true_iff]; omega
  have h2 : decide (((m / 8 : Nat) : Int) < (kk.length : Int)) = true := by rw [decide_eq_true_iff]; omega
  have h3 : decide ((0 : Int) ≤ (m : Int)) = true := by rw [decide_eq_true_iff]; omega
  obtain ⟨p, q⟩ := s
  obtain ⟨⟨o1, o2⟩, ⟨o3, o4⟩⟩ := hs
  simp only at o1 o2 o3 o4
  rw [← hw]
  cases hK : bitK kk m
  · have hK2 : (bitB kk m == 1) = false := hK
    exact roundO2_ok (nl_ps _) (rnd15a realFl k u kk (c.map .u8) m j x p s0.1 q s0.2) (by
      rw [hb, hK2, hd, h1, h2, h3]
      simp (maxDischargeDepth := 30) only [allT, realFl, okB_add, okB_sub, okB_mul, okB_small, o1, o2, o3, o4, hx, Bool.and_self, Bool.not_false, cond_true]) (ok15 _ _ _ _ _ _ _ _)
  · have hK2 : (bitB kk m == 1) = true := hK
    exact roundO2_ok (nl_ps _) (rnd15b realFl k u kk (c.map .u8) m j x p s0.1 q s0.2) (by
      rw [hb, hK2, hd, h1, h2, h3]
      simp (maxDischargeDepth := 30) only [allT, realFl, okB_add, okB_sub, okB_mul, okB_small, o1, o2, o3, o4, hx, Bool.and_self, Bool.not_false, cond_true]) (ok15 _ _ _ _ _ _ _ _)
theorem run15 (k u : List UInt8) (hk : isLen k 32 = true) (hu : isLen u 32 = true) : (run1 Try.prog (nl realFl) (mask 15) 1000 15 [.str k, .str u] [] 0).map (·.1) = some (.str (ladP k u)) := by
  obtain ⟨u0, u1, u2, u3, u4, u5, u6, u7, u8, u9, u10, u11, u12, u13, u14, u15, u16, u17, u18, u19, u20, u21, u22, u23, u24, u25, u26, u27, u28, u29, u30, u31, rfl⟩ := len32 (isLen_eq.1 hu)
  have hl : isLen [u0, u1, u2, u3, u4, u5, u6, u7, u8, u9, u10, u11, u12, u13, u14, u15, u16, u17, u18, u19, u20, u21, u22, u23, u24, u25, u26, u27, u28, u29, u30, u31 &&& 127] 32 = true := rfl
  have ol := ok_lad (clampL k) hl
  refine run_loopO (nl_ps _) (fn := Try.f15) (c := bodyOf Try.f15) (by kernel_rfl) (by kernel_rfl) (by kernel_rfl) 10 (id := 0) (b := b15) (by kernel_rfl) (fun j => S15 k [u0, u1, u2, u3, u4, u5, u6, u7, u8, u9, u10, u11, u12, u13, u14, u15, u16, u17, u18, u19, u20, u21, u22, u23, u24, u25, u26, u27, u28, u29, u30, u31] (clampL k) ([u0, u1, u2, u3, u4, u5, u6, u7, u8, u9, u10, u11, u12, u13, u14, u15, u16, u17, u18, u19, u20, u21, u22, u23, u24, u25, u26, u27, u28, u29, u30, u31 &&& 127].map .u8) (ofP [u0, u1, u2, u3, u4, u5, u6, u7, u8, u9, u10, u11, u12, u13, u14, u15, u16, u17, u18, u19, u20, u21, u22, u23, u24, u25, u26, u27, u28, u29, u30, u31 &&& 127]) (ladO opsN (clampL k) (ofP [u0, u1, u2, u3, u4, u5, u6, u7, u8, u9, u10, u11, u12, u13, u14, u15, u16, u17, u18, u19, u20, u21, u22, u23, u24, u25, u26, u27, u28, u29, u30, u31 &&& 127]) j).1 (ladO opsN (clampL k) (ofP [u0, u1, u2, u3, u4, u5, u6, u7, u8, u9, u10, u11, u12, u13, u14, u15, u16, u17, u18, u19, u20, u21, u22, u23, u24, u25, u26, u27, u28, u29, u30, u31 &&& 127]) j).2 (254 - (j : Int))) 255 (pre15 realFl k u0 u1 u2 u3 u4 u5 u6 u7 u8 u9 u10 u11 u12 u13 u14 u15 u16 u17 u18 u19 u20 u21 u22 u23 u24 u25 u26 u27 u28 u29 u30 u31) ?_ (fun j hj => ?_) (end15 realFl k [u0, u1, u2, u3, u4, u5, u6, u7, u8, u9, u10, u11, u12, u13, u14, u15, u16, u17, u18, u19, u20, u21, u22, u23, u24, u25, u26, u27, u28, u29, u30, u31] (clampL k) ([u0, u1, u2, u3, u4, u5, u6, u7, u8, u9, u10, u11, u12, u13, u14, u15, u16, u17, u18, u19, u20, u21, u22, u23, u24, u25, u26, u27, u28, u29, u30, u31 &&& 127].map .u8) _ (ofP [u0, u1, u2, u3, u4, u5, u6, u7, u8, u9, u10, u11, u12, u13, u14, u15, u16, u17, u18, u19, u20, u21, u22, u23, u24, u25, u26, u27, u28, u29, u30, u31 &&& 127]) _ _) ?_ (by omega)
  · simp only [allT, realFl, hk, hl, cond_true]
  · have e1 : (254 : Int) - (j : Int) = ((254 - j : Nat) : Int) := by omega
    have e2 : (254 : Int) - ((j + 1 : Nat) : Int) = ((254 - j : Nat) : Int) - 1 := by omega
    rw [e1, e2]
    exact stp15 k [u0, u1, u2, u3, u4, u5, u6, u7, u8, u9, u10, u11, u12, u13, u14, u15, u16, u17, u18, u19, u20, u21, u22, u23, u24, u25, u26, u27, u28, u29, u30, u31] (clampL k) [u0, u1, u2, u3, u4, u5, u6, u7, u8, u9, u10, u11, u12, u13, u14, u15, u16, u17, u18, u19, u20, u21, u22, u23, u24, u25, u26, u27, u28, u29, u30, u31 &&& 127] (clamp_len hk) (ofP [u0, u1, u2, u3, u4, u5, u6, u7, u8, u9, u10, u11, u12, u13, u14, u15, u16, u17, u18, u19, u20, u21, u22, u23, u24, u25, u26, u27, u28, u29, u30, u31 &&& 127]) (okB_iff.2 (rel_of hl).okP) (ladO opsN (clampL k) (ofP [u0, u1, u2, u3, u4, u5, u6, u7, u8, u9, u10, u11, u12, u13, u14, u15, u16, u17, u18, u19, u20, u21, u22, u23, u24, u25, u26, u27, u28, u29, u30, u31 &&& 127]) j) _ (ol j) _ (254 - j) (by omega)
  · have o := ol 255
    simp only [allT, realFl, okB_inv, o.1.1, o.1.2, Bool.and_self, cond_true]
    rfl
end Go.Proofs.Ythpknhpbnpaghaa

/- Keys: what is known of some; which are the same. -/
namespace Go.Num
set_option linter.unusedVariables false
set_option linter.unusedSimpArgs false
open Go Go.Eng
set_option maxRecDepth 100000
def zero32 : List UInt8 := List.replicate 32 0
def nine32 : List UInt8 := 9 :: List.replicate 31 0
def aliA : List UInt8 := List.replicate 31 0 ++ [97]
def aliB : List UInt8 := List.replicate 31 0 ++ [98]
def p255 : Nat := 57896044618658097711785492504343953926634992332820282019728792003956564819968
theorem all8 {f : UInt8 → Bool} (h : ((List.range 256).all fun n => f (UInt8.ofNat n)) = true) (x : UInt8) : f x = true := by
  have := List.all_eq_true.1 h x.toNat (List.mem_range.2 x.toNat_lt)
  rwa [UInt8.ofNat_toNat] at this
theorem leNat_app2 : ∀ (a b : List UInt8), leNat (a ++ b) = leNat a + 256 ^ a.length * leNat b
  | [], b => by simp [leNat]
  | x :: a, b => by
    have := leNat_app2 a b
    simp only [List.cons_append, leNat, this, List.length_cons, Nat.pow_succ]
    rw [Nat.mul_add]
    have : 256 * (256 ^ a.length * leNat b) = 256 ^ a.length * 256 * leNat b := by rw [← Nat.mul_assoc, Nat.mul_comm 256]
    omega
theorem leNat_bound : ∀ (a : List UInt8), leNat a < 256 ^ a.length
  | [] => by simp [leNat]
  | x :: a => by
    have := leNat_bound a
    have hx := x.toNat_lt
    simp only [leNat, List.length_cons, Nat.pow_succ]
    omega
theorem and127 (x : UInt8) : (x &&& 127).toNat = x.toNat % 128 := by
  rw [UInt8.toNat_and]
  exact Nat.and_two_pow_sub_one_eq_mod x.toNat 7
theorem topL_val {u : List UInt8} (h : isLen u 32 = true) : leNat (topL u) = leNat u % p255 := by
  rw [isLen_eq] at h
  have e : u = u.take 31 ++ [u.getD 31 0] := by
    have h1 : u.drop 31 = [u.getD 31 0] := by
      rw [List.drop_eq_getElem_cons (by omega), List.drop_of_length_le (by omega)]
      rw [List.getD_eq_getElem?_getD, List.getElem?_eq_getElem (by omega)]; rfl
    rw [← h1, List.take_append_drop]
  have hl : (u.take 31).length = 31 := by rw [List.length_take]; omega
  have e2 : topL u = u.take 31 ++ [u.getD 31 0 &&& 127] := by
    unfold topL
    apply List.ext_getElem?
    intro i
    rw [List.getElem?_set]
    by_cases h1 : 31 = i
    · subst h1
      rw [if_pos rfl, if_pos (by omega), List.getElem?_append_right (by omega), hl]; rfl
    · rw [if_neg h1]
      by_cases h2 : i < 31
      · rw [List.getElem?_append_left (by omega), List.getElem?_take_of_lt h2]
      · rw [List.getElem?_eq_none (by omega), List.getElem?_eq_none (by rw [List.length_append, hl]; show 31 + 1 ≤ i; omega)]
  have hb := leNat_bound (u.take 31)
  rw [hl] at hb
  generalize hx : u.getD 31 0 = x at e e2
  rw [e2]
  conv => rhs; rw [e]
  rw [leNat_app2, leNat_app2, hl]
  have hx2 := x.toNat_lt
  have s1 : ∀ y : UInt8, leNat [y] = y.toNat := fun y => by simp [leNat]
  rw [s1, s1, and127]
  unfold p255
  simp only [Nat.reducePow] at hb ⊢
  omega
theorem ladE_nat (k : List UInt8) {u : List UInt8} (h : isLen u 32 = true) : leNat (ladE k u) = quotM (ladM k (leNat u % p255 % Pq)) := by
  rw [ladE_val, ofEl_val (topL_len h), topL_val h]
theorem ladE_is (k : List UInt8) {u : List UInt8} (h : isLen u 32 = true) {n m : Nat} (hn : leNat u = n) (hlt : n < Pq) (hm : quotM (ladM k n) = m) : leNat (ladE k u) = m := by
  rw [ladE_nat k h, hn]
  have hp : Pq < p255 := by decide
  rw [Nat.mod_eq_of_lt (show n < p255 by omega), Nat.mod_eq_of_lt hlt, hm]
theorem isLen_lad (k u : List UInt8) : isLen (ladE k u) 32 = true := isLen_eq.2 (ladE_len k u)
/-! ### known keys -/
theorem qA9 : quotM (ladM aliA 9) = 16572691432107831290236438983220704641597839740724002177525024145463529258009 := by kernel_rfl
theorem qB9 : quotM (ladM aliB 9) = 3873599628253772194686510826457445042224408612751331329672488392857300769615 := by kernel_rfl
theorem qAq : quotM (ladM aliA 3873599628253772194686510826457445042224408612751331329672488392857300769615) = 45863505615179444264250632754092809270636439140959747961807530266934234225689 := by kernel_rfl
theorem qBp : quotM (ladM aliB 16572691432107831290236438983220704641597839740724002177525024145463529258009) = 45863505615179444264250632754092809270636439140959747961807530266934234225689 := by kernel_rfl
theorem qA0 : quotM (ladM aliA 0) = 0 := by kernel_rfl
theorem nine_val : leNat nine32 = 9 := by decide
theorem zero_val32 : leNat zero32 = 0 := by decide
theorem pubA : leNat (ladE aliA nine32) = 16572691432107831290236438983220704641597839740724002177525024145463529258009 := ladE_is aliA (u := nine32) rfl nine_val (by decide) qA9
theorem pubB : leNat (ladE aliB nine32) = 3873599628253772194686510826457445042224408612751331329672488392857300769615 := ladE_is aliB (u := nine32) rfl nine_val (by decide) qB9
theorem shAB : leNat (ladE aliA (ladE aliB nine32)) = 45863505615179444264250632754092809270636439140959747961807530266934234225689 := ladE_is aliA (isLen_lad _ _) pubB (by decide) qAq
theorem shBA : leNat (ladE aliB (ladE aliA nine32)) = 45863505615179444264250632754092809270636439140959747961807530266934234225689 := ladE_is aliB (isLen_lad _ _) pubA (by decide) qBp
theorem shA0 : ladE aliA zero32 = zero32 := leNat_inj (by rw [ladE_len]; rfl) (by rw [ladE_is aliA (u := zero32) rfl zero_val32 (by decide) qA0, zero_val32])
theorem sh_same : ladE aliA (ladE aliB nine32) = ladE aliB (ladE aliA nine32) := leNat_inj (by rw [ladE_len, ladE_len]) (by rw [shAB, shBA])
theorem ne_zero32 {u : List UInt8} {n : Nat} (h : leNat u = n) (hn : n ≠ 0) : (u == zero32) = false := by
  rw [beq_eq_false_iff_ne]
  intro e
  rw [e, zero_val32] at h
  exact hn h.symm
/-! ### the same keys -/
theorem xor128 (x : UInt8) : (x ^^^ 128) &&& 127 = x &&& 127 := by
  have := all8 (f := fun x => (((x ^^^ 128) &&& 127) == (x &&& 127))) (by kernel_rfl) x
  exact eq_of_beq this
theorem and127_twice (x : UInt8) : (x &&& 127) &&& 127 = x &&& 127 := by
  have := all8 (f := fun x => (((x &&& 127) &&& 127) == (x &&& 127))) (by kernel_rfl) x
  exact eq_of_beq this
theorem clamp0 (x b : UInt8) : (x ^^^ (b &&& 7)) &&& 248 = x &&& 248 := by
  have h : ((List.range 8).any fun n => (b &&& 7) == UInt8.ofNat n) = true := all8 (f := fun b => (List.range 8).any fun n => (b &&& 7) == UInt8.ofNat n) (by kernel_rfl) b
  obtain ⟨n, hn, e⟩ := List.any_eq_true.1 h
  rw [eq_of_beq e]
  have k : ((List.range 8).all fun n => (List.range 256).all fun m => (((UInt8.ofNat m ^^^ UInt8.ofNat n) &&& 248) == (UInt8.ofNat m &&& 248))) = true := by kernel_rfl
  have k2 := List.all_eq_true.1 k n hn
  exact eq_of_beq (all8 (f := fun x => (((x ^^^ UInt8.ofNat n) &&& 248) == (x &&& 248))) k2 x)
theorem clamp31 (x b : UInt8) : ((x ^^^ (b &&& 192)) &&& 127) ||| 64 = (x &&& 127) ||| 64 := by
  have h : (b &&& 192 == 0 || (b &&& 192 == 64 || (b &&& 192 == 128 || b &&& 192 == 192))) = true := all8 (f := fun b => (b &&& 192 == 0 || (b &&& 192 == 64 || (b &&& 192 == 128 || b &&& 192 == 192)))) (by kernel_rfl) b
  simp only [Bool.or_eq_true, beq_iff_eq] at h
  have k : ∀ c : UInt8, ((List.range 256).all fun n => (((UInt8.ofNat n ^^^ c) &&& 127 ||| 64) == (UInt8.ofNat n &&& 127 ||| 64))) = true → ((x ^^^ c) &&& 127 ||| 64) = (x &&& 127 ||| 64) := fun c hc => eq_of_beq (all8 (f := fun x => (((x ^^^ c) &&& 127 ||| 64) == (x &&& 127 ||| 64))) hc x)
  rcases h with h | h | h | h <;> rw [h]
  · exact k 0 (by kernel_rfl)
  · exact k 64 (by kernel_rfl)
  · exact k 128 (by kernel_rfl)
  · exact k 192 (by kernel_rfl)
theorem lad_clamp {k l : List UInt8} (h : clampL k = clampL l) (u : List UInt8) : ladE k u = ladE l u := by
  unfold ladE ladF
  rw [h]
theorem lad_top (k : List UInt8) {u v : List UInt8} (h : topL u = topL v) : ladE k u = ladE k v := ladE_congr k (by rw [h])
theorem lad_canon (k : List UInt8) {u : List UInt8} (h : isLen u 32 = true) (ht : topL u = u) : ladE k (bytesN (ofP u)) = ladE k u := by
  refine ladE_congr k ?_
  have r := rel_of h
  have hl : isLen (bytesN (ofP u)) 32 = true := isLen_eq.2 (bytesN_len _)
  have hv := bytesN_val (ofP u) r.okP
  have hlt := r.lt
  rw [ofEl_val (topL_len hl), topL_val hl, hv, ht]
  have hp : Pq < p255 := by decide
  rw [Nat.mod_eq_of_lt (show (ofP u).val < p255 by omega), ← r.val, Nat.mod_eq_of_lt hlt]
end Go.Num

/- Shared and public keys. -/
namespace Go.Proofs.Ythpknhpbnpaghaa
set_option linter.unusedVariables false
set_option linter.unusedSimpArgs false
open Go Go.Eng Go.Num
set_option maxRecDepth 100000
set_option maxHeartbeats 1000000
set_option linter.unusedSimpArgs false
set_option linter.unusedVariables false
def p14 : List AVal → Option (EffA × Bool)
  | [.str k, .str u] => some (.pure (.str (ladE k u)), isLen k 32 && isLen u 32)
  | _ => none
theorem p14_ok : CSOk Try.prog (csP (psOne 14 p14)) := csP_one fun args v he => by
  unfold p14 at he
  split at he
  · simp only [Option.some.injEq, Prod.mk.injEq, Bool.and_eq_true] at he
    obtain ⟨rfl, h⟩ := he
    exact callOk_val nl_ok hmix (run14 _ _ h.1 h.2) rfl rfl
  · cases he
def p15 : List AVal → Option (EffA × Bool)
  | [.str k, .str u] => some (.pure (.str (ladP k u)), isLen k 32 && isLen u 32)
  | _ => none
theorem p15_ok : CSOk Try.prog (csP (psOne 15 p15)) := csP_one fun args v he => by
  unfold p15 at he
  split at he
  · simp only [Option.some.injEq, Prod.mk.injEq, Bool.and_eq_true] at he
    obtain ⟨rfl, h⟩ := he
    exact callOk_val nl_ok hmix (run15 _ _ h.1 h.2) rfl rfl
  · cases he
structure Fh where
  ladE : List UInt8 → List UInt8 → List UInt8
  ladP : List UInt8 → List UInt8 → List UInt8
  l32 : List UInt8 → Bool
def realFh : Fh := ⟨ladE, ladP, fun s => isLen s 32⟩
def q14 (φ : Fh) : List AVal → Option (EffA × Bool)
  | [.str a, .str b] => some (.pure (.str (φ.ladE a b)), (φ.l32 a && φ.l32 b))
  | _ => none
theorem q14_ok : CSOk Try.prog (csP (psOne 14 (q14 realFh))) := csP_one fun args v he => by
  unfold q14 at he
  split at he
  · rename_i a b
    simp only [Option.some.injEq, Prod.mk.injEq] at he
    obtain ⟨rfl, h⟩ := he
    have h2 : (realFh.l32 a && realFh.l32 b) = true := h
    refine p14_ok 14 [(.str a), (.str b)] _ ?_
    show cond ((realFh.l32 a && realFh.l32 b)) _ _ = _
    rw [h2]; rfl
  · cases he
def q15 (φ : Fh) : List AVal → Option (EffA × Bool)
  | [.str a, .str b] => some (.pure (.str (φ.ladP a b)), (φ.l32 a && φ.l32 b))
  | _ => none
theorem q15_ok : CSOk Try.prog (csP (psOne 15 (q15 realFh))) := csP_one fun args v he => by
  unfold q15 at he
  split at he
  · rename_i a b
    simp only [Option.some.injEq, Prod.mk.injEq] at he
    obtain ⟨rfl, h⟩ := he
    have h2 : (realFh.l32 a && realFh.l32 b) = true := h
    refine p15_ok 15 [(.str a), (.str b)] _ ?_
    show cond ((realFh.l32 a && realFh.l32 b)) _ _ = _
    rw [h2]; rfl
  · cases he
def psnh (φ : Fh) : PS := (psAlt (psOne 14 (q14 φ)) (psOne 15 (q15 φ)))
theorem psnh_ok : CSOk Try.prog (csP (psnh realFh)) := (csP_alt q14_ok q15_ok)
def chnh (φ : Fh) : CS := cs0
theorem chnh_ok : CSOk Try.prog (chnh realFh) := cs0_ok
def nh (φ : Fh) : CS := csAlt (csP (psnh φ)) (chnh φ)
theorem nh_ok : CSOk Try.prog (nh realFh) := csAlt_ok psnh_ok chnh_ok
theorem nh_ps (φ : Fh) : PSOk (psnh φ) (nh φ) := csP_ok
def shV (l : List UInt8 → List UInt8 → List UInt8) (k u : List UInt8) : List UInt8 := cond (isLen k 32 && isLen u 32) (cond (l k u == zero32) [] (l k u)) []
def shR (l : List UInt8 → List UInt8 → List UInt8) (k u : List UInt8) : Int := cond (isLen k 32 && isLen u 32) (cond (l k u == zero32) 30 0) 2
def puV (l : List UInt8 → List UInt8 → List UInt8) (k : List UInt8) : List UInt8 := cond (isLen k 32) (l k nine32) []
def puR (k : List UInt8) : Int := cond (isLen k 32) 0 2
theorem v8a (φ : Fh) (k u : List UInt8) : ansO (run1O Try.prog (psnh φ) (nh φ) [9] [true] [] (mask 8) 200 8 [.str k, .str u] [] Try.prog.globals.size) = some (.tup [.str [], .int .i64 2], [((k.length : Int) != 32)]) := by kernel_rfl
theorem v8b (φ : Fh) (k u : List UInt8) : ansO (run1O Try.prog (psnh φ) (nh φ) [9, 13] [false, true] [] (mask 8) 200 8 [.str k, .str u] [] Try.prog.globals.size) = some (.tup [.str [], .int .i64 2], [((u.length : Int) != 32), !(((k.length : Int) != 32))]) := by kernel_rfl
theorem v8c (φ : Fh) (k u : List UInt8) : ansO (run1O Try.prog (psnh φ) (nh φ) [9, 13, 17, 21] [false, false, true] [] (mask 8) 200 8 [.str k, .str u] [] Try.prog.globals.size) = some (.tup [.str [], .int .i64 30], [φ.ladE k u == zero32, (φ.l32 k && φ.l32 u), !(((u.length : Int) != 32)), !(((k.length : Int) != 32))]) := by kernel_rfl
theorem v8d (φ : Fh) (k u : List UInt8) : ansO (run1O Try.prog (psnh φ) (nh φ) [9, 13, 17, 21] [false, false, false] [] (mask 8) 200 8 [.str k, .str u] [] Try.prog.globals.size) = some (.tup [.str (φ.ladE k u), .int .i64 0], [!(φ.ladE k u == zero32), (φ.l32 k && φ.l32 u), !(((u.length : Int) != 32)), !(((k.length : Int) != 32))]) := by kernel_rfl
theorem run8 (k u : List UInt8) : (run1 Try.prog (nh realFh) (mask 8) 200 8 [.str k, .str u] [] Try.prog.globals.size).map (·.1) = some (.tup [.str (shV ladE k u), .int .i64 (shR ladE k u)]) := by
  unfold shV shR
  cases hk : isLen k 32
  · exact ansO_run (nh_ps _) (v8a realFh k u) (by simp [allT, ne32 hk])
  cases hu : isLen u 32
  · exact ansO_run (nh_ps _) (v8b realFh k u) (by simp [allT, to32 hk, ne32 hu])
  cases hz : (ladE k u == zero32)
  · exact ansO_run (nh_ps _) (v8d realFh k u) (by simp only [allT, realFh, hk, hu, hz, to32 hk, to32 hu]; rfl)
  · exact ansO_run (nh_ps _) (v8c realFh k u) (by simp only [allT, realFh, hk, hu, hz, to32 hk, to32 hu]; rfl)
def g8 : List AVal → Option EffA
  | [.str a, .str b] => some (.pure (.tup [.str (shV ladE a b), .int .i64 (shR ladE a b)]))
  | _ => none
theorem g8_ok : CSOk Try.prog (csOne 8 g8) := csOne_ok fun args e he => by
  unfold g8 at he
  split at he
  · rename_i a b
    cases he
    exact callOk_val nh_ok hmix (run8 a b) rfl rfl
  · cases he
theorem v9a (φ : Fh) (k u : List UInt8) : ansO (run1O Try.prog (psnh φ) (nh φ) [9] [true] [] (mask 9) 200 9 [.str k, .str u] [] Try.prog.globals.size) = some (.tup [.str [], .int .i64 2], [((k.length : Int) != 32)]) := by kernel_rfl
theorem v9b (φ : Fh) (k u : List UInt8) : ansO (run1O Try.prog (psnh φ) (nh φ) [9, 13] [false, true] [] (mask 9) 200 9 [.str k, .str u] [] Try.prog.globals.size) = some (.tup [.str [], .int .i64 2], [((u.length : Int) != 32), !(((k.length : Int) != 32))]) := by kernel_rfl
theorem v9c (φ : Fh) (k u : List UInt8) : ansO (run1O Try.prog (psnh φ) (nh φ) [9, 13, 17, 21] [false, false, true] [] (mask 9) 200 9 [.str k, .str u] [] Try.prog.globals.size) = some (.tup [.str [], .int .i64 30], [φ.ladP k u == zero32, (φ.l32 k && φ.l32 u), !(((u.length : Int) != 32)), !(((k.length : Int) != 32))]) := by kernel_rfl
theorem v9d (φ : Fh) (k u : List UInt8) : ansO (run1O Try.prog (psnh φ) (nh φ) [9, 13, 17, 21] [false, false, false] [] (mask 9) 200 9 [.str k, .str u] [] Try.prog.globals.size) = some (.tup [.str (φ.ladP k u), .int .i64 0], [!(φ.ladP k u == zero32), (φ.l32 k && φ.l32 u), !(((u.length : Int) != 32)), !(((k.length : Int) != 32))]) := by kernel_rfl
theorem run9 (k u : List UInt8) : (run1 Try.prog (nh realFh) (mask 9) 200 9 [.str k, .str u] [] Try.prog.globals.size).map (·.1) = some (.tup [.str (shV ladP k u), .int .i64 (shR ladP k u)]) := by
  unfold shV shR
  cases hk : isLen k 32
  · exact ansO_run (nh_ps _) (v9a realFh k u) (by simp [allT, ne32 hk])
  cases hu : isLen u 32
  · exact ansO_run (nh_ps _) (v9b realFh k u) (by simp [allT, to32 hk, ne32 hu])
  cases hz : (ladP k u == zero32)
  · exact ansO_run (nh_ps _) (v9d realFh k u) (by simp only [allT, realFh, hk, hu, hz, to32 hk, to32 hu]; rfl)
  · exact ansO_run (nh_ps _) (v9c realFh k u) (by simp only [allT, realFh, hk, hu, hz, to32 hk, to32 hu]; rfl)
def g9 : List AVal → Option EffA
  | [.str a, .str b] => some (.pure (.tup [.str (shV ladP a b), .int .i64 (shR ladP a b)]))
  | _ => none
theorem g9_ok : CSOk Try.prog (csOne 9 g9) := csOne_ok fun args e he => by
  unfold g9 at he
  split at he
  · rename_i a b
    cases he
    exact callOk_val nh_ok hmix (run9 a b) rfl rfl
  · cases he
theorem v10a (φ : Fh) (k : List UInt8) : ansO (run1O Try.prog (psnh φ) (nh φ) [7] [true] [] (mask 10) 200 10 [.str k] [] Try.prog.globals.size) = some (.tup [.str [], .int .i64 2], [((k.length : Int) != 32)]) := by kernel_rfl
theorem v10b (φ : Fh) (k : List UInt8) : ansO (run1O Try.prog (psnh φ) (nh φ) [7, 12] [false] [] (mask 10) 200 10 [.str k] [] Try.prog.globals.size) = some (.tup [.str (φ.ladE k nine32), .int .i64 0], [(φ.l32 k && φ.l32 nine32), !(((k.length : Int) != 32))]) := by kernel_rfl
theorem run10 (k : List UInt8) : (run1 Try.prog (nh realFh) (mask 10) 200 10 [.str k] [] Try.prog.globals.size).map (·.1) = some (.tup [.str (puV ladE k), .int .i64 (puR k)]) := by
  unfold puV puR
  cases hk : isLen k 32
  · exact ansO_run (nh_ps _) (v10a realFh k) (by simp [allT, ne32 hk])
  · exact ansO_run (nh_ps _) (v10b realFh k) (by simp only [allT, realFh, hk, to32 hk]; rfl)
def g10 : List AVal → Option EffA
  | [.str a] => some (.pure (.tup [.str (puV ladE a), .int .i64 (puR a)]))
  | _ => none
theorem g10_ok : CSOk Try.prog (csOne 10 g10) := csOne_ok fun args e he => by
  unfold g10 at he
  split at he
  · rename_i a
    cases he
    exact callOk_val nh_ok hmix (run10 a) rfl rfl
  · cases he
theorem v11a (φ : Fh) (k : List UInt8) : ansO (run1O Try.prog (psnh φ) (nh φ) [7] [true] [] (mask 11) 200 11 [.str k] [] Try.prog.globals.size) = some (.tup [.str [], .int .i64 2], [((k.length : Int) != 32)]) := by kernel_rfl
theorem v11b (φ : Fh) (k : List UInt8) : ansO (run1O Try.prog (psnh φ) (nh φ) [7, 14] [false] [] (mask 11) 200 11 [.str k] [] Try.prog.globals.size) = some (.tup [.str (φ.ladP k nine32), .int .i64 0], [(φ.l32 k && φ.l32 nine32), !(((k.length : Int) != 32))]) := by kernel_rfl
theorem run11 (k : List UInt8) : (run1 Try.prog (nh realFh) (mask 11) 200 11 [.str k] [] Try.prog.globals.size).map (·.1) = some (.tup [.str (puV ladP k), .int .i64 (puR k)]) := by
  unfold puV puR
  cases hk : isLen k 32
  · exact ansO_run (nh_ps _) (v11a realFh k) (by simp [allT, ne32 hk])
  · exact ansO_run (nh_ps _) (v11b realFh k) (by simp only [allT, realFh, hk, to32 hk]; rfl)
def g11 : List AVal → Option EffA
  | [.str a] => some (.pure (.tup [.str (puV ladP a), .int .i64 (puR a)]))
  | _ => none
theorem g11_ok : CSOk Try.prog (csOne 11 g11) := csOne_ok fun args e he => by
  unfold g11 at he
  split at he
  · rename_i a
    cases he
    exact callOk_val nh_ok hmix (run11 a) rfl rfl
  · cases he
end Go.Proofs.Ythpknhpbnpaghaa

/- Shared and public keys: summaries. -/
namespace Go.Proofs.Ythpknhpbnpaghaa
set_option linter.unusedVariables false
set_option linter.unusedSimpArgs false
open Go Go.Eng Go.Num
set_option maxRecDepth 100000
set_option maxHeartbeats 1000000
set_option linter.unusedSimpArgs false
set_option linter.unusedVariables false
structure Fk where
  shV : List UInt8 → List UInt8 → List UInt8
  shR : List UInt8 → List UInt8 → Int
  shVd : List UInt8 → List UInt8 → List UInt8
  shRd : List UInt8 → List UInt8 → Int
  puV : List UInt8 → List UInt8
  puVd : List UInt8 → List UInt8
  puR : List UInt8 → Int
  l32 : List UInt8 → Bool
  ofN : List UInt8 → N16
  bytesN : N16 → List UInt8
def realFk : Fk := ⟨shV ladE, shR ladE, shV ladP, shR ladP, puV ladE, puV ladP, puR, fun s => isLen s 32, ofP, bytesN⟩
def k8 (φ : Fk) : List AVal → Option EffA
  | [.str a, .str b] => some (.pure (.tup [.str (φ.shV a b), .int .i64 (φ.shR a b)]))
  | _ => none
theorem k8_ok : CSOk Try.prog (csOne 8 (k8 realFk)) := csOne_ok fun args e he => by
  unfold k8 at he
  split at he
  · rename_i a b
    cases he
    exact g8_ok 8 [(.str a), (.str b)] _ rfl
  · cases he
def k9 (φ : Fk) : List AVal → Option EffA
  | [.str a, .str b] => some (.pure (.tup [.str (φ.shVd a b), .int .i64 (φ.shRd a b)]))
  | _ => none
theorem k9_ok : CSOk Try.prog (csOne 9 (k9 realFk)) := csOne_ok fun args e he => by
  unfold k9 at he
  split at he
  · rename_i a b
    cases he
    exact g9_ok 9 [(.str a), (.str b)] _ rfl
  · cases he
def k10 (φ : Fk) : List AVal → Option EffA
  | [.str a] => some (.pure (.tup [.str (φ.puV a), .int .i64 (φ.puR a)]))
  | _ => none
theorem k10_ok : CSOk Try.prog (csOne 10 (k10 realFk)) := csOne_ok fun args e he => by
  unfold k10 at he
  split at he
  · rename_i a
    cases he
    exact g10_ok 10 [(.str a)] _ rfl
  · cases he
def k11 (φ : Fk) : List AVal → Option EffA
  | [.str a] => some (.pure (.tup [.str (φ.puVd a), .int .i64 (φ.puR a)]))
  | _ => none
theorem k11_ok : CSOk Try.prog (csOne 11 (k11 realFk)) := csOne_ok fun args e he => by
  unfold k11 at he
  split at he
  · rename_i a
    cases he
    exact g11_ok 11 [(.str a)] _ rfl
  · cases he
def k12 (φ : Fk) : List AVal → Option (EffA × Bool)
  | [.str a] => some (.pure (N16.av (φ.ofN a)), φ.l32 a)
  | _ => none
theorem k12_ok : CSOk Try.prog (csP (psOne 12 (k12 realFk))) := csP_one fun args v he => by
  unfold k12 at he
  split at he
  · rename_i a
    simp only [Option.some.injEq, Prod.mk.injEq] at he
    obtain ⟨rfl, h⟩ := he
    have h2 : realFk.l32 a = true := h
    refine p12_ok 12 [(.str a)] _ ?_
    show cond (realFk.l32 a) _ _ = _
    rw [h2]; rfl
  · cases he
def k13 (φ : Fk) : List AVal → Option EffA
  | [.agg [.u64 a0, .u64 a1, .u64 a2, .u64 a3, .u64 a4, .u64 a5, .u64 a6, .u64 a7, .u64 a8, .u64 a9, .u64 a10, .u64 a11, .u64 a12, .u64 a13, .u64 a14, .u64 a15]] => some (.pure (.str (φ.bytesN (N16.mk a0 a1 a2 a3 a4 a5 a6 a7 a8 a9 a10 a11 a12 a13 a14 a15))))
  | _ => none
theorem k13_ok : CSOk Try.prog (csOne 13 (k13 realFk)) := csOne_ok fun args e he => by
  unfold k13 at he
  split at he
  · rename_i a0 a1 a2 a3 a4 a5 a6 a7 a8 a9 a10 a11 a12 a13 a14 a15
    cases he
    exact g13_ok 13 [(N16.av (N16.mk a0 a1 a2 a3 a4 a5 a6 a7 a8 a9 a10 a11 a12 a13 a14 a15))] _ rfl
  · cases he
def psnk (φ : Fk) : PS := (psOne 12 (k12 φ))
theorem psnk_ok : CSOk Try.prog (csP (psnk realFk)) := k12_ok
def chnk (φ : Fk) : CS := (csAlt (csOne 8 (k8 φ)) (csAlt (csOne 9 (k9 φ)) (csAlt (csOne 10 (k10 φ)) (csAlt (csOne 11 (k11 φ)) (csOne 13 (k13 φ))))))
theorem chnk_ok : CSOk Try.prog (chnk realFk) := (csAlt_ok k8_ok (csAlt_ok k9_ok (csAlt_ok k10_ok (csAlt_ok k11_ok k13_ok))))
def nk (φ : Fk) : CS := csAlt (csP (psnk φ)) (chnk φ)
theorem nk_ok : CSOk Try.prog (nk realFk) := csAlt_ok psnk_ok chnk_ok
theorem nk_ps (φ : Fk) : PSOk (psnk φ) (nk φ) := csP_ok
end Go.Proofs.Ythpknhpbnpaghaa

/- The laws on keys. -/
namespace Go.Proofs.Ythpknhpbnpaghaa
set_option linter.unusedVariables false
set_option linter.unusedSimpArgs false
open Go Go.Eng Go.Num
set_option maxRecDepth 100000
set_option maxHeartbeats 1000000
set_option linter.unusedSimpArgs false
set_option linter.unusedVariables false
def shortL : List UInt8 := [115, 104, 111, 114, 116]
theorem wal (φ : Fk)  : ansO (run1O Try.prog (psnk φ) (nk φ) [55, 58, 62, 66, 71, 76, 80, 84] [true, true, true, true, true, true, true, true] [] (mask 7) 200 7 [] [] Try.prog.globals.size) = some (.bool true, [φ.puR shortL == 2, φ.shR aliA zero32 == 30, φ.shV aliA (φ.puV aliB) == φ.shV aliB (φ.puV aliA), ((φ.shV aliA (φ.puV aliB)).length : Int) == 32, φ.shR aliB (φ.puV aliA) == 0, φ.shR aliA (φ.puV aliB) == 0, φ.puR aliB == 0, φ.puR aliA == 0]) := by kernel_rfl
theorem shV_lad {k u : List UInt8} (hk : isLen k 32 = true) (hu : isLen u 32 = true) (hz : (ladE k u == zero32) = false) : shV ladE k u = ladE k u ∧ shR ladE k u = 0 := by
  unfold shV shR
  rw [hk, hu, hz]
  exact ⟨rfl, rfl⟩
theorem run7 : (run1 Try.prog (nk realFk) (mask 7) 200 7 [] [] Try.prog.globals.size).map (·.1) = some (.bool true) := by
  have pA : puV ladE aliA = ladE aliA nine32 := rfl
  have pB : puV ladE aliB = ladE aliB nine32 := rfl
  have s1 := shV_lad (k := aliA) (u := ladE aliB nine32) rfl (isLen_lad _ _) (ne_zero32 shAB (by decide))
  have s2 := shV_lad (k := aliB) (u := ladE aliA nine32) rfl (isLen_lad _ _) (ne_zero32 shBA (by decide))
  have s3 : shR ladE aliA zero32 = 30 := by
    unfold shR
    rw [show isLen aliA 32 = true from rfl, show isLen zero32 32 = true from rfl, shA0]
    rfl
  have s4 : puR aliA = 0 := rfl
  have s5 : puR aliB = 0 := rfl
  have s6 : puR shortL = 2 := rfl
  have s7 : ((ladE aliA (ladE aliB nine32)).length : Int) = 32 := by rw [ladE_len]; rfl
  have s8 := sh_same
  have s9 : ((ladE aliB (ladE aliA nine32)).length : Int) = 32 := by rw [ladE_len]; rfl
  refine ansO_run (nk_ps _) (wal realFk ) ?_
  simp only [realFk, pA, pB, s1.1, s1.2, s2.1, s2.2, s3, s4, s5, s6, s7, s8, s9]
  simp [allT]
def g7 : List AVal → Option EffA
  | [] => some (.pure (.bool true))
  | _ => none
theorem g7_ok : CSOk Try.prog (csOne 7 g7) := csOne_ok fun args e he => by
  unfold g7 at he
  split at he
  · skip
    cases he
    exact callOk_val nk_ok hmix (run7 ) rfl rfl
  · cases he
def nka (φ : Fk) : CS := csAlt (csOne 7 g7) (nk φ)
theorem nka_ok : CSOk Try.prog (nka realFk) := csAlt_ok g7_ok nk_ok
def psnka (φ : Fk) : PS := psnk φ
theorem nka_ps (φ : Fk) : PSOk (psnka φ) (nka φ) := fun f args e h => by
  have h1 := nk_ps φ f args e h
  unfold nka csAlt csOne
  cases hb : Nat.beq f 7 with
  | false => exact h1
  | true =>
    rw [Nat.eq_of_beq_eq_true hb] at h
    exact absurd h (by
      intro h2
      have : psnka φ 7 args = none := rfl
      rw [this] at h2
      cases h2)
theorem w3a (φ : Fk) (s u : List UInt8) : ansO (run1O Try.prog (psnka φ) (nka φ) [15] [true] [] (mask 3) 200 3 [.str s, .str u] [] Try.prog.globals.size) = some (.bool true, [decide ((4096 : Int) < (s.length : Int))]) := by kernel_rfl
theorem w3b (φ : Fk) (s u : List UInt8) : ansO (run1O Try.prog (psnka φ) (nka φ) [15, 19] [false, true] [] (mask 3) 200 3 [.str s, .str u] [] Try.prog.globals.size) = some (.bool true, [decide ((4096 : Int) < (u.length : Int)), !(decide ((4096 : Int) < (s.length : Int)))]) := by kernel_rfl
theorem w3c (φ : Fk) (s u : List UInt8) : ansO (run1O Try.prog (psnka φ) (nka φ) [15, 19, 46, 50, 55, 60] [false, false, true, true, true, true] [] (mask 3) 200 3 [.str s, .str u] [] Try.prog.globals.size) = some (.bool true, [φ.puR s == φ.puR s, φ.puV s == φ.puVd s, φ.shR s u == φ.shRd s u, φ.shV s u == φ.shVd s u, !(decide ((4096 : Int) < (u.length : Int))), !(decide ((4096 : Int) < (s.length : Int)))]) := by kernel_rfl
theorem sh_eq (k u : List UInt8) : shV ladE k u = shV ladP k u ∧ shR ladE k u = shR ladP k u := by
  unfold shV shR
  cases hk : isLen k 32
  · simp only [Bool.false_and, cond_false, and_self]
  cases hu : isLen u 32
  · simp only [Bool.and_false, cond_false, and_self]
  rw [lad_same k hu]
  exact ⟨rfl, rfl⟩
theorem pu_eq (k : List UInt8) : puV ladE k = puV ladP k := by
  unfold puV
  cases hk : isLen k 32
  · simp only [cond_false]
  rw [lad_same k (u := nine32) rfl]
theorem run3 (s u : List UInt8) : (run1 Try.prog (nka realFk) (mask 3) 200 3 [.str s, .str u] [] Try.prog.globals.size).map (·.1) = some (.bool true) := by
  by_cases h1 : (4096 : Int) < (s.length : Int)
  · exact ansO_run (nka_ps _) (w3a realFk s u) (by simp [allT, h1])
  by_cases h2 : (4096 : Int) < (u.length : Int)
  · exact ansO_run (nka_ps _) (w3b realFk s u) (by simp [allT, h1, h2])
  have e := sh_eq s u
  have e2 := pu_eq s
  exact ansO_run (nka_ps _) (w3c realFk s u) (by simp [allT, realFk, h1, h2, e.1, e.2, e2])
theorem law3 (s u : List UInt8) : CallOk Try.prog 3 [.str s, .str u] (.pure (.bool true)) := callOk_val nka_ok hmix (run3 s u) rfl rfl
theorem w6a (φ : Fk) (s u : List UInt8) (b : UInt8) : ansO (run1O Try.prog (psnka φ) (nka φ) [20] [true] [] (mask 6) 200 6 [.str s, .str u, .u8 b] [] Try.prog.globals.size) = some (.bool true, [((s.length : Int) != 32)]) := by kernel_rfl
theorem w6b (φ : Fk) (s u : List UInt8) (b : UInt8) : ansO (run1O Try.prog (psnka φ) (nka φ) [20, 24] [false, true] [] (mask 6) 200 6 [.str s, .str u, .u8 b] [] Try.prog.globals.size) = some (.bool true, [((u.length : Int) != 32), !(((s.length : Int) != 32))]) := by kernel_rfl
theorem w6c (φ : Fk) (k0 k1 k2 k3 k4 k5 k6 k7 k8 k9 k10 k11 k12 k13 k14 k15 k16 k17 k18 k19 k20 k21 k22 k23 k24 k25 k26 k27 k28 k29 k30 k31 u0 u1 u2 u3 u4 u5 u6 u7 u8 u9 u10 u11 u12 u13 u14 u15 u16 u17 u18 u19 u20 u21 u22 u23 u24 u25 u26 u27 u28 u29 u30 u31 b : UInt8) : ansO (run1O Try.prog (psnka φ) (nka φ) [56, 91, 95, 100, 105, 110, 115] [true, true, true, true, true, true] [] (mask 6) 200 6 [.str [k0, k1, k2, k3, k4, k5, k6, k7, k8, k9, k10, k11, k12, k13, k14, k15, k16, k17, k18, k19, k20, k21, k22, k23, k24, k25, k26, k27, k28, k29, k30, k31], .str [u0, u1, u2, u3, u4, u5, u6, u7, u8, u9, u10, u11, u12, u13, u14, u15, u16, u17, u18, u19, u20, u21, u22, u23, u24, u25, u26, u27, u28, u29, u30, u31], .u8 b] [] Try.prog.globals.size) = some (.bool true, [φ.shR [k0, k1, k2, k3, k4, k5, k6, k7, k8, k9, k10, k11, k12, k13, k14, k15, k16, k17, k18, k19, k20, k21, k22, k23, k24, k25, k26, k27, k28, k29, k30, k31] [u0, u1, u2, u3, u4, u5, u6, u7, u8, u9, u10, u11, u12, u13, u14, u15, u16, u17, u18, u19, u20, u21, u22, u23, u24, u25, u26, u27, u28, u29, u30, u31] == φ.shR [k0 ^^^ (b &&& 7), k1, k2, k3, k4, k5, k6, k7, k8, k9, k10, k11, k12, k13, k14, k15, k16, k17, k18, k19, k20, k21, k22, k23, k24, k25, k26, k27, k28, k29, k30, k31 ^^^ (b &&& 192)] [u0, u1, u2, u3, u4, u5, u6, u7, u8, u9, u10, u11, u12, u13, u14, u15, u16, u17, u18, u19, u20, u21, u22, u23, u24, u25, u26, u27, u28, u29, u30, u31], φ.shV [k0, k1, k2, k3, k4, k5, k6, k7, k8, k9, k10, k11, k12, k13, k14, k15, k16, k17, k18, k19, k20, k21, k22, k23, k24, k25, k26, k27, k28, k29, k30, k31] [u0, u1, u2, u3, u4, u5, u6, u7, u8, u9, u10, u11, u12, u13, u14, u15, u16, u17, u18, u19, u20, u21, u22, u23, u24, u25, u26, u27, u28, u29, u30, u31] == φ.shV [k0 ^^^ (b &&& 7), k1, k2, k3, k4, k5, k6, k7, k8, k9, k10, k11, k12, k13, k14, k15, k16, k17, k18, k19, k20, k21, k22, k23, k24, k25, k26, k27, k28, k29, k30, k31 ^^^ (b &&& 192)] [u0, u1, u2, u3, u4, u5, u6, u7, u8, u9, u10, u11, u12, u13, u14, u15, u16, u17, u18, u19, u20, u21, u22, u23, u24, u25, u26, u27, u28, u29, u30, u31], φ.shR [k0, k1, k2, k3, k4, k5, k6, k7, k8, k9, k10, k11, k12, k13, k14, k15, k16, k17, k18, k19, k20, k21, k22, k23, k24, k25, k26, k27, k28, k29, k30, k31] [u0, u1, u2, u3, u4, u5, u6, u7, u8, u9, u10, u11, u12, u13, u14, u15, u16, u17, u18, u19, u20, u21, u22, u23, u24, u25, u26, u27, u28, u29, u30, u31] == φ.shR [k0, k1, k2, k3, k4, k5, k6, k7, k8, k9, k10, k11, k12, k13, k14, k15, k16, k17, k18, k19, k20, k21, k22, k23, k24, k25, k26, k27, k28, k29, k30, k31] (φ.bytesN (φ.ofN [u0, u1, u2, u3, u4, u5, u6, u7, u8, u9, u10, u11, u12, u13, u14, u15, u16, u17, u18, u19, u20, u21, u22, u23, u24, u25, u26, u27, u28, u29, u30, (u31 ^^^ 128) &&& 127])), φ.shV [k0, k1, k2, k3, k4, k5, k6, k7, k8, k9, k10, k11, k12, k13, k14, k15, k16, k17, k18, k19, k20, k21, k22, k23, k24, k25, k26, k27, k28, k29, k30, k31] [u0, u1, u2, u3, u4, u5, u6, u7, u8, u9, u10, u11, u12, u13, u14, u15, u16, u17, u18, u19, u20, u21, u22, u23, u24, u25, u26, u27, u28, u29, u30, u31] == φ.shV [k0, k1, k2, k3, k4, k5, k6, k7, k8, k9, k10, k11, k12, k13, k14, k15, k16, k17, k18, k19, k20, k21, k22, k23, k24, k25, k26, k27, k28, k29, k30, k31] (φ.bytesN (φ.ofN [u0, u1, u2, u3, u4, u5, u6, u7, u8, u9, u10, u11, u12, u13, u14, u15, u16, u17, u18, u19, u20, u21, u22, u23, u24, u25, u26, u27, u28, u29, u30, (u31 ^^^ 128) &&& 127])), φ.shR [k0, k1, k2, k3, k4, k5, k6, k7, k8, k9, k10, k11, k12, k13, k14, k15, k16, k17, k18, k19, k20, k21, k22, k23, k24, k25, k26, k27, k28, k29, k30, k31] [u0, u1, u2, u3, u4, u5, u6, u7, u8, u9, u10, u11, u12, u13, u14, u15, u16, u17, u18, u19, u20, u21, u22, u23, u24, u25, u26, u27, u28, u29, u30, u31] == φ.shR [k0, k1, k2, k3, k4, k5, k6, k7, k8, k9, k10, k11, k12, k13, k14, k15, k16, k17, k18, k19, k20, k21, k22, k23, k24, k25, k26, k27, k28, k29, k30, k31] [u0, u1, u2, u3, u4, u5, u6, u7, u8, u9, u10, u11, u12, u13, u14, u15, u16, u17, u18, u19, u20, u21, u22, u23, u24, u25, u26, u27, u28, u29, u30, u31 ^^^ 128], φ.shV [k0, k1, k2, k3, k4, k5, k6, k7, k8, k9, k10, k11, k12, k13, k14, k15, k16, k17, k18, k19, k20, k21, k22, k23, k24, k25, k26, k27, k28, k29, k30, k31] [u0, u1, u2, u3, u4, u5, u6, u7, u8, u9, u10, u11, u12, u13, u14, u15, u16, u17, u18, u19, u20, u21, u22, u23, u24, u25, u26, u27, u28, u29, u30, u31] == φ.shV [k0, k1, k2, k3, k4, k5, k6, k7, k8, k9, k10, k11, k12, k13, k14, k15, k16, k17, k18, k19, k20, k21, k22, k23, k24, k25, k26, k27, k28, k29, k30, k31] [u0, u1, u2, u3, u4, u5, u6, u7, u8, u9, u10, u11, u12, u13, u14, u15, u16, u17, u18, u19, u20, u21, u22, u23, u24, u25, u26, u27, u28, u29, u30, u31 ^^^ 128], φ.l32 [u0, u1, u2, u3, u4, u5, u6, u7, u8, u9, u10, u11, u12, u13, u14, u15, u16, u17, u18, u19, u20, u21, u22, u23, u24, u25, u26, u27, u28, u29, u30, (u31 ^^^ 128) &&& 127]]) := by kernel_rfl
theorem sh_of {k u l v : List UInt8} (hk : isLen k 32 = isLen l 32) (hu : isLen u 32 = isLen v 32) (h : ladE k u = ladE l v) : shV ladE k u = shV ladE l v ∧ shR ladE k u = shR ladE l v := by
  unfold shV shR
  rw [hk, hu, h]
  exact ⟨rfl, rfl⟩
theorem w6d (φ : Fk) (k0 k1 k2 k3 k4 k5 k6 k7 k8 k9 k10 k11 k12 k13 k14 k15 k16 k17 k18 k19 k20 k21 k22 k23 k24 k25 k26 k27 k28 k29 k30 k31 u0 u1 u2 u3 u4 u5 u6 u7 u8 u9 u10 u11 u12 u13 u14 u15 u16 u17 u18 u19 u20 u21 u22 u23 u24 u25 u26 u27 u28 u29 u30 u31 b : UInt8) (u ua ub k kk : List UInt8) (h1 : u = [u0, u1, u2, u3, u4, u5, u6, u7, u8, u9, u10, u11, u12, u13, u14, u15, u16, u17, u18, u19, u20, u21, u22, u23, u24, u25, u26, u27, u28, u29, u30, u31]) (h2 : ua = [u0, u1, u2, u3, u4, u5, u6, u7, u8, u9, u10, u11, u12, u13, u14, u15, u16, u17, u18, u19, u20, u21, u22, u23, u24, u25, u26, u27, u28, u29, u30, u31 ^^^ 128]) (h3 : ub = [u0, u1, u2, u3, u4, u5, u6, u7, u8, u9, u10, u11, u12, u13, u14, u15, u16, u17, u18, u19, u20, u21, u22, u23, u24, u25, u26, u27, u28, u29, u30, (u31 ^^^ 128) &&& 127]) (h4 : k = [k0, k1, k2, k3, k4, k5, k6, k7, k8, k9, k10, k11, k12, k13, k14, k15, k16, k17, k18, k19, k20, k21, k22, k23, k24, k25, k26, k27, k28, k29, k30, k31]) (h5 : kk = [k0 ^^^ (b &&& 7), k1, k2, k3, k4, k5, k6, k7, k8, k9, k10, k11, k12, k13, k14, k15, k16, k17, k18, k19, k20, k21, k22, k23, k24, k25, k26, k27, k28, k29, k30, k31 ^^^ (b &&& 192)])
    (h : φ.l32 ub = true ∧ φ.shV k u = φ.shV k ua ∧ φ.shR k u = φ.shR k ua ∧ φ.shV k u = φ.shV k (φ.bytesN (φ.ofN ub)) ∧ φ.shR k u = φ.shR k (φ.bytesN (φ.ofN ub)) ∧ φ.shV k u = φ.shV kk u ∧ φ.shR k u = φ.shR kk u) : (run1 Try.prog (nka φ) (mask 6) 200 6 [.str k, .str u, .u8 b] [] Try.prog.globals.size).map (·.1) = some (.bool true) := by
  have w := w6c φ k0 k1 k2 k3 k4 k5 k6 k7 k8 k9 k10 k11 k12 k13 k14 k15 k16 k17 k18 k19 k20 k21 k22 k23 k24 k25 k26 k27 k28 k29 k30 k31 u0 u1 u2 u3 u4 u5 u6 u7 u8 u9 u10 u11 u12 u13 u14 u15 u16 u17 u18 u19 u20 u21 u22 u23 u24 u25 u26 u27 u28 u29 u30 u31 b
  rw [← h1, ← h2, ← h3, ← h4, ← h5] at w
  refine ansO_run (nka_ps _) w ?_
  obtain ⟨g0, g1, g2, g3, g4, g5, g6⟩ := h
  rw [g0, ← g1, ← g2, ← g3, ← g4, ← g5, ← g6]
  simp only [beq_self_eq_true, allT, cond_true]
theorem run6 (s u : List UInt8) (b : UInt8) : (run1 Try.prog (nka realFk) (mask 6) 200 6 [.str s, .str u, .u8 b] [] Try.prog.globals.size).map (·.1) = some (.bool true) := by
  cases hk : isLen s 32
  · exact ansO_run (nka_ps _) (w6a realFk s u b) (by simp [allT, ne32 hk])
  cases hu : isLen u 32
  · exact ansO_run (nka_ps _) (w6b realFk s u b) (by simp [allT, to32 hk, ne32 hu])
  obtain ⟨k0, k1, k2, k3, k4, k5, k6, k7, k8, k9, k10, k11, k12, k13, k14, k15, k16, k17, k18, k19, k20, k21, k22, k23, k24, k25, k26, k27, k28, k29, k30, k31, rfl⟩ := len32 (isLen_eq.1 hk)
  obtain ⟨u0, u1, u2, u3, u4, u5, u6, u7, u8, u9, u10, u11, u12, u13, u14, u15, u16, u17, u18, u19, u20, u21, u22, u23, u24, u25, u26, u27, u28, u29, u30, u31, rfl⟩ := len32 (isLen_eq.1 hu)
  have a1 : topL [u0, u1, u2, u3, u4, u5, u6, u7, u8, u9, u10, u11, u12, u13, u14, u15, u16, u17, u18, u19, u20, u21, u22, u23, u24, u25, u26, u27, u28, u29, u30, u31] = [u0, u1, u2, u3, u4, u5, u6, u7, u8, u9, u10, u11, u12, u13, u14, u15, u16, u17, u18, u19, u20, u21, u22, u23, u24, u25, u26, u27, u28, u29, u30, u31 &&& 127] := by kernel_rfl
  have a2 : topL [u0, u1, u2, u3, u4, u5, u6, u7, u8, u9, u10, u11, u12, u13, u14, u15, u16, u17, u18, u19, u20, u21, u22, u23, u24, u25, u26, u27, u28, u29, u30, u31 ^^^ 128] = [u0, u1, u2, u3, u4, u5, u6, u7, u8, u9, u10, u11, u12, u13, u14, u15, u16, u17, u18, u19, u20, u21, u22, u23, u24, u25, u26, u27, u28, u29, u30, (u31 ^^^ 128) &&& 127] := by kernel_rfl
  have a3 : topL [u0, u1, u2, u3, u4, u5, u6, u7, u8, u9, u10, u11, u12, u13, u14, u15, u16, u17, u18, u19, u20, u21, u22, u23, u24, u25, u26, u27, u28, u29, u30, (u31 ^^^ 128) &&& 127] = [u0, u1, u2, u3, u4, u5, u6, u7, u8, u9, u10, u11, u12, u13, u14, u15, u16, u17, u18, u19, u20, u21, u22, u23, u24, u25, u26, u27, u28, u29, u30, ((u31 ^^^ 128) &&& 127) &&& 127] := by kernel_rfl
  have a4 : clampL [k0, k1, k2, k3, k4, k5, k6, k7, k8, k9, k10, k11, k12, k13, k14, k15, k16, k17, k18, k19, k20, k21, k22, k23, k24, k25, k26, k27, k28, k29, k30, k31] = [k0 &&& 248, k1, k2, k3, k4, k5, k6, k7, k8, k9, k10, k11, k12, k13, k14, k15, k16, k17, k18, k19, k20, k21, k22, k23, k24, k25, k26, k27, k28, k29, k30, k31 &&& 127 ||| 64] := by kernel_rfl
  have a5 : clampL [k0 ^^^ (b &&& 7), k1, k2, k3, k4, k5, k6, k7, k8, k9, k10, k11, k12, k13, k14, k15, k16, k17, k18, k19, k20, k21, k22, k23, k24, k25, k26, k27, k28, k29, k30, k31 ^^^ (b &&& 192)] = [(k0 ^^^ (b &&& 7)) &&& 248, k1, k2, k3, k4, k5, k6, k7, k8, k9, k10, k11, k12, k13, k14, k15, k16, k17, k18, k19, k20, k21, k22, k23, k24, k25, k26, k27, k28, k29, k30, (k31 ^^^ (b &&& 192)) &&& 127 ||| 64] := by kernel_rfl
  rw [xor128] at a2
  rw [and127_twice] at a3
  rw [clamp0, clamp31] at a5
  have l1 : isLen [u0, u1, u2, u3, u4, u5, u6, u7, u8, u9, u10, u11, u12, u13, u14, u15, u16, u17, u18, u19, u20, u21, u22, u23, u24, u25, u26, u27, u28, u29, u30, u31] 32 = true := by kernel_rfl
  have l2 : isLen [u0, u1, u2, u3, u4, u5, u6, u7, u8, u9, u10, u11, u12, u13, u14, u15, u16, u17, u18, u19, u20, u21, u22, u23, u24, u25, u26, u27, u28, u29, u30, u31 ^^^ 128] 32 = true := by kernel_rfl
  have l3 : isLen [u0, u1, u2, u3, u4, u5, u6, u7, u8, u9, u10, u11, u12, u13, u14, u15, u16, u17, u18, u19, u20, u21, u22, u23, u24, u25, u26, u27, u28, u29, u30, (u31 ^^^ 128) &&& 127] 32 = true := by kernel_rfl
  have l4 : isLen [k0, k1, k2, k3, k4, k5, k6, k7, k8, k9, k10, k11, k12, k13, k14, k15, k16, k17, k18, k19, k20, k21, k22, k23, k24, k25, k26, k27, k28, k29, k30, k31] 32 = true := by kernel_rfl
  have l5 : isLen [k0 ^^^ (b &&& 7), k1, k2, k3, k4, k5, k6, k7, k8, k9, k10, k11, k12, k13, k14, k15, k16, k17, k18, k19, k20, k21, k22, k23, k24, k25, k26, k27, k28, k29, k30, k31 ^^^ (b &&& 192)] 32 = true := by kernel_rfl
  refine w6d realFk k0 k1 k2 k3 k4 k5 k6 k7 k8 k9 k10 k11 k12 k13 k14 k15 k16 k17 k18 k19 k20 k21 k22 k23 k24 k25 k26 k27 k28 k29 k30 k31 u0 u1 u2 u3 u4 u5 u6 u7 u8 u9 u10 u11 u12 u13 u14 u15 u16 u17 u18 u19 u20 u21 u22 u23 u24 u25 u26 u27 u28 u29 u30 u31 b [u0, u1, u2, u3, u4, u5, u6, u7, u8, u9, u10, u11, u12, u13, u14, u15, u16, u17, u18, u19, u20, u21, u22, u23, u24, u25, u26, u27, u28, u29, u30, u31] [u0, u1, u2, u3, u4, u5, u6, u7, u8, u9, u10, u11, u12, u13, u14, u15, u16, u17, u18, u19, u20, u21, u22, u23, u24, u25, u26, u27, u28, u29, u30, u31 ^^^ 128] [u0, u1, u2, u3, u4, u5, u6, u7, u8, u9, u10, u11, u12, u13, u14, u15, u16, u17, u18, u19, u20, u21, u22, u23, u24, u25, u26, u27, u28, u29, u30, (u31 ^^^ 128) &&& 127] [k0, k1, k2, k3, k4, k5, k6, k7, k8, k9, k10, k11, k12, k13, k14, k15, k16, k17, k18, k19, k20, k21, k22, k23, k24, k25, k26, k27, k28, k29, k30, k31] [k0 ^^^ (b &&& 7), k1, k2, k3, k4, k5, k6, k7, k8, k9, k10, k11, k12, k13, k14, k15, k16, k17, k18, k19, k20, k21, k22, k23, k24, k25, k26, k27, k28, k29, k30, k31 ^^^ (b &&& 192)] rfl rfl rfl rfl rfl ?_
  have a6 : topL [u0, u1, u2, u3, u4, u5, u6, u7, u8, u9, u10, u11, u12, u13, u14, u15, u16, u17, u18, u19, u20, u21, u22, u23, u24, u25, u26, u27, u28, u29, u30, (u31 ^^^ 128) &&& 127] = [u0, u1, u2, u3, u4, u5, u6, u7, u8, u9, u10, u11, u12, u13, u14, u15, u16, u17, u18, u19, u20, u21, u22, u23, u24, u25, u26, u27, u28, u29, u30, u31 &&& 127] := a3.trans (by rw [xor128])
  generalize [u0, u1, u2, u3, u4, u5, u6, u7, u8, u9, u10, u11, u12, u13, u14, u15, u16, u17, u18, u19, u20, u21, u22, u23, u24, u25, u26, u27, u28, u29, u30, u31] = u at a1 l1 ⊢
  generalize [u0, u1, u2, u3, u4, u5, u6, u7, u8, u9, u10, u11, u12, u13, u14, u15, u16, u17, u18, u19, u20, u21, u22, u23, u24, u25, u26, u27, u28, u29, u30, u31 ^^^ 128] = ua at a2 l2 ⊢
  generalize [u0, u1, u2, u3, u4, u5, u6, u7, u8, u9, u10, u11, u12, u13, u14, u15, u16, u17, u18, u19, u20, u21, u22, u23, u24, u25, u26, u27, u28, u29, u30, (u31 ^^^ 128) &&& 127] = ub at a3 a6 l3 ⊢
  generalize [k0, k1, k2, k3, k4, k5, k6, k7, k8, k9, k10, k11, k12, k13, k14, k15, k16, k17, k18, k19, k20, k21, k22, k23, k24, k25, k26, k27, k28, k29, k30, k31] = k at a4 l4 ⊢
  generalize [k0 ^^^ (b &&& 7), k1, k2, k3, k4, k5, k6, k7, k8, k9, k10, k11, k12, k13, k14, k15, k16, k17, k18, k19, k20, k21, k22, k23, k24, k25, k26, k27, k28, k29, k30, k31 ^^^ (b &&& 192)] = kk at a5 l5 ⊢
  rw [← a1] at a2 a6
  rw [← a4] at a5
  have e1 := sh_of (k := k) (l := k) (u := u) (v := ua) rfl (l1.trans l2.symm) (lad_top _ a2.symm)
  have e2 := sh_of (k := k) (l := k) (u := u) (v := bytesN (ofP ub)) rfl (l1.trans (isLen_eq.2 (bytesN_len _)).symm) ((lad_canon _ (u := ub) l3 a3).trans (lad_top _ a6)).symm
  have e3 := sh_of (k := k) (l := kk) (u := u) (v := u) (l4.trans l5.symm) rfl (lad_clamp a5.symm _)
  exact ⟨l3, e1.1, e1.2, e2.1, e2.2, e3.1, e3.2⟩
theorem law6 (s u : List UInt8) (b : UInt8) : CallOk Try.prog 6 [.str s, .str u, .u8 b] (.pure (.bool true)) := callOk_val nka_ok hmix (run6 s u b) rfl rfl
end Go.Proofs.Ythpknhpbnpaghaa

/- The twisted curve over the numbers modulo 2^255 - 19: its points are a group. -/
namespace Go.Num
set_option linter.unusedVariables false
set_option linter.unusedSimpArgs false
set_option maxRecDepth 100000
instance pqNe : NeZero Pq := ⟨by decide⟩
abbrev Fp := Fin Pq
def toF (n : Nat) : Fp := Fin.ofNat Pq n
theorem toF_val (n : Nat) : (toF n).val = n % Pq := rfl
theorem toF_eq {a b : Nat} : toF a = toF b ↔ a % Pq = b % Pq := ⟨fun h => congrArg Fin.val h, fun h => Fin.ext h⟩
theorem toF_self (a : Fp) : toF a.val = a := Fin.ext (Nat.mod_eq_of_lt a.isLt)
theorem toF_add (a b : Nat) : toF (a + b) = toF a + toF b := Fin.ext (by rw [Fin.val_add]; show (a + b) % Pq = (a % Pq + b % Pq) % Pq; rw [← Nat.add_mod])
theorem toF_mul (a b : Nat) : toF (a * b) = toF a * toF b := Fin.ext (by rw [Fin.val_mul]; show a * b % Pq = (a % Pq) * (b % Pq) % Pq; rw [← Nat.mul_mod])
theorem toF_neg (b : Nat) : toF (Pq - b % Pq) = - toF b := Fin.ext (by
  rw [Fin.val_neg']; rfl)
theorem toF_sub (a b : Nat) : toF (a + (Pq - b % Pq)) = toF a - toF b := by
  rw [toF_add, toF_neg]; grind -lia -linarith (splits := 0)
theorem toF_zero {a : Nat} : toF a = 0 ↔ a % Pq = 0 := toF_eq (b := 0)
theorem F_inv {a : Fp} (h : a ≠ 0) : ∃ b, a * b = 1 := by
  have h0 : a.val % Pq ≠ 0 := fun e => h (by rw [← toF_self a]; exact toF_zero.2 e)
  obtain ⟨b, hb⟩ : ∃ b : Nat, a.val * b % Pq = 1 := ⟨_, genP.inv P3 h0⟩
  refine ⟨toF b, ?_⟩
  rw [← toF_self a, ← toF_mul]
  exact toF_eq.2 (by rw [hb]; exact (Nat.mod_eq_of_lt (by decide)).symm)
theorem F_cancel {a b c : Fp} (ha : a ≠ 0) (h : a * b = a * c) : b = c := by
  obtain ⟨u, hu⟩ := F_inv ha
  have e1 : u * (a * b) = b := by grind -lia -linarith (splits := 0)
  have e2 : u * (a * c) = c := by grind -lia -linarith (splits := 0)
  rw [← e1, h, e2]
theorem F_mul_ne {a b : Fp} (ha : a ≠ 0) (hb : b ≠ 0) : a * b ≠ 0 := fun h => hb (F_cancel ha (by rw [h]; grind -lia -linarith (splits := 0)))
theorem F_ne_left {a b : Fp} (h : a * b ≠ 0) : a ≠ 0 := fun e => h (by rw [e]; grind -lia -linarith (splits := 0))
theorem F_ne_right {a b : Fp} (h : a * b ≠ 0) : b ≠ 0 := fun e => h (by rw [e]; grind -lia -linarith (splits := 0))
theorem F_two : (2 : Fp) ≠ 0 := by
  intro h
  have := congrArg Fin.val h
  exact absurd this (by decide)
theorem F_one : (1 : Fp) ≠ 0 := by
  intro h
  have := congrArg Fin.val h
  exact absurd this (by decide)
structure P4 (R : Type) where
  x : R
  y : R
  z : R
  t : R
def addO {R : Type} (o : Ops R) (d : R) (p q : P4 R) : P4 R :=
  ⟨o.mul (o.add (o.mul p.x q.y) (o.mul p.y q.x)) (o.sub (o.mul p.z q.z) (o.mul (o.mul d p.t) q.t)),
   o.mul (o.add (o.mul p.z q.z) (o.mul (o.mul d p.t) q.t)) (o.add (o.mul p.y q.y) (o.mul p.x q.x)),
   o.mul (o.sub (o.mul p.z q.z) (o.mul (o.mul d p.t) q.t)) (o.add (o.mul p.z q.z) (o.mul (o.mul d p.t) q.t)),
   o.mul (o.add (o.mul p.x q.y) (o.mul p.y q.x)) (o.add (o.mul p.y q.y) (o.mul p.x q.x))⟩
def opsF : Ops Fp := ⟨fun a b => a + b, fun a b => a - b, fun a b => a * b, fun n => toF n.toNat, 0⟩
structure Crv (d i : Fp) : Prop where
  ii : i * i = -1
  ns : ∀ w : Fp, w * w ≠ d
structure On (d : Fp) (p : P4 Fp) : Prop where
  z : p.z ≠ 0
  c : p.y * p.y - p.x * p.x = p.z * p.z + d * p.t * p.t
  k : p.x * p.y = p.z * p.t
theorem ns_zero {d i : Fp} (h : Crv d i) {u v : Fp} (e : d * (u * u) = v * v) : u = 0 := by
  by_cases hu : u = 0
  · exact hu
  · exfalso
    obtain ⟨w, hw⟩ := F_inv hu
    refine h.ns (v * w) ?_
    have : (v * w) * (v * w) = d * ((u * w) * (u * w)) := by grind -lia -linarith (splits := 0)
    rw [this, hw]; grind -lia -linarith (splits := 0)
theorem complete_eq (d i e x1 y1 z1 t1 x2 y2 z2 t2 : Fp)
  (h1 : y1*y1 - x1*x1 = z1*z1 + d*t1*t1) (k1 : x1*y1 = z1*t1)
  (h2 : y2*y2 - x2*x2 = z2*z2 + d*t2*t2) (k2 : x2*y2 = z2*t2) (hi : i*i = -1) (he : e*e = 1) (hc : d*t1*t2 = e*(z1*z2)) :
  d*((t1*(y2+i*x2))*(t1*(y2+i*x2))) = (z2*(y1+e*i*x1))*(z2*(y1+e*i*x1)) := by
  grind -lia -linarith (splits := 0)
theorem lit1 (d z : Fp) (hz : z = 0) : (z * z - z * z) - d * z * z = z := by grind -lia -linarith (splits := 0)
theorem lit2 (o d m z : Fp) (hz : z = 0) : o + d * m * (z * o) = o := by grind -lia -linarith (splits := 0)
theorem lit3 (o d m z : Fp) (hz : z = 0) : o - d * m * (z * o) = o := by grind -lia -linarith (splits := 0)
theorem lit4 (a b o z : Fp) (ho : o = 1) (hz : z = 0) : (a * o + b * z) * o = a := by grind -lia -linarith (splits := 0)
theorem complete_ne {d i : Fp} (h : Crv d i) {p q : P4 Fp} (hp : On d p) (hq : On d q) {e : Fp} (he : e * e = 1) : d * p.t * q.t ≠ e * (p.z * q.z) := by
  intro hc
  have e0 : e ≠ 0 := fun h0 => F_one (by rw [← he, h0]; grind -lia -linarith (splits := 0))
  have t1 : p.t ≠ 0 := fun h0 => F_mul_ne e0 (F_mul_ne hp.z hq.z) (by rw [← hc, h0]; grind -lia -linarith (splits := 0))
  have a1 := ns_zero h (complete_eq d i e p.x p.y p.z p.t q.x q.y q.z q.t hp.c hp.k hq.c hq.k h.ii he hc)
  have a2 := ns_zero h (complete_eq d (-i) e p.x p.y p.z p.t q.x q.y q.z q.t hp.c hp.k hq.c hq.k (by have := h.ii; grind -lia -linarith (splits := 0)) he hc)
  have b1 : q.y + i * q.x = 0 := F_cancel t1 (by rw [a1]; grind -lia -linarith (splits := 0))
  have b2 : q.y + -i * q.x = 0 := F_cancel t1 (by rw [a2]; grind -lia -linarith (splits := 0))
  have y0 : q.y = 0 := F_cancel F_two (by grind -lia -linarith (splits := 0))
  have x0 : q.x = 0 := by
    have hi := h.ii
    have hix : i * q.x = 0 := by grind -lia -linarith (splits := 0)
    have : i * (i * q.x) = - q.x := by grind -lia -linarith (splits := 0)
    rw [hix] at this
    grind -lia -linarith (splits := 0)
  have hk := hq.k
  have hcc := hq.c
  rw [y0, x0] at hk hcc
  have t0 : q.t = 0 := F_cancel hq.z (by rw [← hk]; grind -lia -linarith (splits := 0))
  rw [t0] at hcc
  have e9 : q.z * q.z = (0 * 0 - 0 * 0) - d * 0 * 0 := by rw [hcc]; grind -lia -linarith (splits := 0)
  have e8 : ((0 : Fp) * 0 - 0 * 0) - d * 0 * 0 = 0 := lit1 d 0 rfl
  exact F_mul_ne hq.z hq.z (e9.trans e8)
theorem fg_ne {d i : Fp} (h : Crv d i) {p q : P4 Fp} (hp : On d p) (hq : On d q) : p.z * q.z - d * p.t * q.t ≠ 0 ∧ p.z * q.z + d * p.t * q.t ≠ 0 :=
  ⟨fun e => complete_ne h hp hq (e := 1) (by grind -lia -linarith (splits := 0)) (by grind -lia -linarith (splits := 0)), fun e => complete_ne h hp hq (e := -1) (by grind -lia -linarith (splits := 0)) (by grind -lia -linarith (splits := 0))⟩
theorem add_curve (d x1 y1 z1 t1 x2 y2 z2 t2 : Fp)
  (h1 : y1*y1 - x1*x1 = z1*z1 + d*t1*t1) (k1 : x1*y1 = z1*t1)
  (h2 : y2*y2 - x2*x2 = z2*z2 + d*t2*t2) (k2 : x2*y2 = z2*t2) :
  ((z1*z2 + d*t1*t2)*(y1*y2+x1*x2))*((z1*z2 + d*t1*t2)*(y1*y2+x1*x2)) - ((x1*y2+y1*x2)*(z1*z2 - d*t1*t2))*((x1*y2+y1*x2)*(z1*z2 - d*t1*t2)) = ((z1*z2 - d*t1*t2)*(z1*z2 + d*t1*t2))*((z1*z2 - d*t1*t2)*(z1*z2 + d*t1*t2)) + d*((x1*y2+y1*x2)*(y1*y2+x1*x2))*((x1*y2+y1*x2)*(y1*y2+x1*x2)) := by
  grind -lia -linarith (splits := 0)
theorem On.add {d i : Fp} (h : Crv d i) {p q : P4 Fp} (hp : On d p) (hq : On d q) : On d (addO opsF d p q) := by
  have n := fg_ne h hp hq
  refine ⟨F_mul_ne n.1 n.2, add_curve d p.x p.y p.z p.t q.x q.y q.z q.t hp.c hp.k hq.c hq.k, ?_⟩
  show (p.x * q.y + p.y * q.x) * (p.z * q.z - d * p.t * q.t) * ((p.z * q.z + d * p.t * q.t) * (p.y * q.y + p.x * q.x)) = (p.z * q.z - d * p.t * q.t) * (p.z * q.z + d * p.t * q.t) * ((p.x * q.y + p.y * q.x) * (p.y * q.y + p.x * q.x))
  generalize p.x * q.y + p.y * q.x = a
  generalize p.z * q.z - d * p.t * q.t = f
  generalize p.z * q.z + d * p.t * q.t = g
  generalize p.y * q.y + p.x * q.x = b
  grind -lia -linarith (splits := 0)
def negO {R : Type} (neg : R → R) (p : P4 R) : P4 R := ⟨neg p.x, p.y, p.z, neg p.t⟩
theorem On.neg {d : Fp} {p : P4 Fp} (hp : On d p) : On d (negO (fun a => -a) p) := by
  have h1 := hp.c
  have h2 := hp.k
  refine ⟨hp.z, ?_, ?_⟩
  · show p.y * p.y - -p.x * -p.x = p.z * p.z + d * -p.t * -p.t
    grind -lia -linarith (splits := 0)
  · show -p.x * p.y = p.z * -p.t
    grind -lia -linarith (splits := 0)
def zero4 : P4 Fp := ⟨0, 1, 1, 0⟩
theorem On.zero (d : Fp) : On d zero4 := ⟨F_one, by show (1 : Fp) * 1 - 0 * 0 = 1 * 1 + d * 0 * 0; grind -lia -linarith (splits := 0), by show (0 : Fp) * 1 = 1 * 0; grind -lia -linarith (splits := 0)⟩
/-! ### the points as they are: two numbers -/
noncomputable def invF (a : Fp) : Fp := by
  classical
  exact if h : a ≠ 0 then Classical.choose (F_inv h) else 0
theorem invF_mul {a : Fp} (h : a ≠ 0) : a * invF a = 1 := by
  unfold invF
  rw [dif_pos h]
  exact Classical.choose_spec (F_inv h)
theorem F_eq_div {a b c : Fp} (hb : b ≠ 0) (h : c * b = a) : a * invF b = c := by
  have := invF_mul hb
  rw [← h]; grind -lia -linarith (splits := 0)
noncomputable def aff (p : P4 Fp) : Fp × Fp := (p.x * invF p.z, p.y * invF p.z)
def OnA (d : Fp) (a : Fp × Fp) : Prop := a.2 * a.2 - a.1 * a.1 = 1 + d * (a.1 * a.2) * (a.1 * a.2)
noncomputable def addA (d : Fp) (a b : Fp × Fp) : Fp × Fp :=
  ((a.1 * b.2 + a.2 * b.1) * invF (1 + d * (a.1 * a.2) * (b.1 * b.2)), (a.2 * b.2 + a.1 * b.1) * invF (1 - d * (a.1 * a.2) * (b.1 * b.2)))
/-- Of two numbers. -/
def up (a : Fp × Fp) : P4 Fp := ⟨a.1, a.2, 1, a.1 * a.2⟩
theorem aff_up (a : Fp × Fp) : aff (up a) = a := by
  have h := invF_mul F_one
  have e : invF (1 : Fp) = 1 := by grind -lia -linarith (splits := 0)
  unfold aff up
  simp only [e]
  exact Prod.ext (by show a.1 * 1 = a.1; grind -lia -linarith (splits := 0)) (by show a.2 * 1 = a.2; grind -lia -linarith (splits := 0))
theorem on_up {d : Fp} {a : Fp × Fp} (h : OnA d a) : On d (up a) := by
  unfold OnA at h
  refine ⟨F_one, ?_, ?_⟩
  · show a.2 * a.2 - a.1 * a.1 = 1 * 1 + d * (a.1 * a.2) * (a.1 * a.2)
    rw [h]; grind -lia -linarith (splits := 0)
  · show a.1 * a.2 = 1 * (a.1 * a.2)
    grind -lia -linarith (splits := 0)
theorem up_on {d : Fp} {a : Fp × Fp} (h : On d (up a)) : OnA d a := by
  have := h.c
  unfold OnA
  have e : a.2 * a.2 - a.1 * a.1 = 1 * 1 + d * (a.1 * a.2) * (a.1 * a.2) := this
  rw [e]; grind -lia -linarith (splits := 0)
theorem on_aff {d : Fp} {p : P4 Fp} (h : On d p) : OnA d (aff p) := by
  have hz := invF_mul h.z
  have h1 := h.c
  have h2 := h.k
  unfold OnA aff
  show p.y * invF p.z * (p.y * invF p.z) - p.x * invF p.z * (p.x * invF p.z) = 1 + d * (p.x * invF p.z * (p.y * invF p.z)) * (p.x * invF p.z * (p.y * invF p.z))
  generalize invF p.z = w at hz
  have e1 : p.x * w * (p.y * w) = p.t * w := by
    have : p.x * w * (p.y * w) = (p.x * p.y) * w * w := by grind -lia -linarith (splits := 0)
    rw [this, h2]; grind -lia -linarith (splits := 0)
  rw [e1]
  have e2 : p.y * w * (p.y * w) - p.x * w * (p.x * w) = (p.y * p.y - p.x * p.x) * (w * w) := by grind -lia -linarith (splits := 0)
  rw [e2, h1]
  have e3 : p.z * p.z * (w * w) = 1 := by
    have : p.z * p.z * (w * w) = (p.z * w) * (p.z * w) := by grind -lia -linarith (splits := 0)
    rw [this, hz]; grind -lia -linarith (splits := 0)
  have e4 : (p.z * p.z + d * p.t * p.t) * (w * w) = p.z * p.z * (w * w) + d * (p.t * w) * (p.t * w) := by grind -lia -linarith (splits := 0)
  rw [e4, e3]
/-- The same point. -/
def SameP (p q : P4 Fp) : Prop := p.x * q.z = q.x * p.z ∧ p.y * q.z = q.y * p.z
theorem same_aff {d : Fp} {p q : P4 Fp} (hp : On d p) (hq : On d q) : SameP p q ↔ aff p = aff q := by
  have h1 := invF_mul hp.z
  have h2 := invF_mul hq.z
  have key : ∀ a b : Fp, a * q.z = b * p.z ↔ a * invF p.z = b * invF q.z := fun a b => by
    generalize invF p.z = u at h1
    generalize invF q.z = v at h2
    constructor
    · intro h
      have e1 : a * u = (a * q.z) * (v * u) := by grind -lia -linarith (splits := 0)
      have e2 : b * v = (b * p.z) * (u * v) := by grind -lia -linarith (splits := 0)
      rw [e1, e2, h]; grind -lia -linarith (splits := 0)
    · intro h
      have e1 : a * q.z = (a * u) * (p.z * q.z) := by grind -lia -linarith (splits := 0)
      have e2 : b * p.z = (b * v) * (q.z * p.z) := by grind -lia -linarith (splits := 0)
      rw [e1, e2, h]; grind -lia -linarith (splits := 0)
  unfold SameP aff
  rw [Prod.mk.injEq, key, key]
theorem aff_add {d i : Fp} (h : Crv d i) {p q : P4 Fp} (hp : On d p) (hq : On d q) : aff (addO opsF d p q) = addA d (aff p) (aff q) := by
  have n := fg_ne h hp hq
  have u := invF_mul hp.z
  have v := invF_mul hq.z
  have k1 := hp.k
  have k2 := hq.k
  unfold aff addA
  show ((p.x * q.y + p.y * q.x) * (p.z * q.z - d * p.t * q.t) * invF ((p.z * q.z - d * p.t * q.t) * (p.z * q.z + d * p.t * q.t)), (p.z * q.z + d * p.t * q.t) * (p.y * q.y + p.x * q.x) * invF ((p.z * q.z - d * p.t * q.t) * (p.z * q.z + d * p.t * q.t))) = _
  have w := invF_mul (F_mul_ne n.1 n.2)
  generalize invF ((p.z * q.z - d * p.t * q.t) * (p.z * q.z + d * p.t * q.t)) = w0 at w
  generalize invF p.z = u0 at u
  generalize invF q.z = v0 at v
  have e1 : p.x * u0 * (p.y * u0) = p.t * u0 := by
    have : p.x * u0 * (p.y * u0) = (p.x * p.y) * u0 * u0 := by grind -lia -linarith (splits := 0)
    rw [this, k1]; grind -lia -linarith (splits := 0)
  have e2 : q.x * v0 * (q.y * v0) = q.t * v0 := by
    have : q.x * v0 * (q.y * v0) = (q.x * q.y) * v0 * v0 := by grind -lia -linarith (splits := 0)
    rw [this, k2]; grind -lia -linarith (splits := 0)
  simp only [e1, e2]
  have g1 : (1 + d * (p.t * u0) * (q.t * v0)) * (p.z * q.z) = p.z * q.z + d * p.t * q.t := by
    have : (1 + d * (p.t * u0) * (q.t * v0)) * (p.z * q.z) = p.z * q.z + d * p.t * q.t * ((p.z * u0) * (q.z * v0)) := by grind -lia -linarith (splits := 0)
    rw [this, u, v]; grind -lia -linarith (splits := 0)
  have g2 : (1 - d * (p.t * u0) * (q.t * v0)) * (p.z * q.z) = p.z * q.z - d * p.t * q.t := by
    have : (1 - d * (p.t * u0) * (q.t * v0)) * (p.z * q.z) = p.z * q.z - d * p.t * q.t * ((p.z * u0) * (q.z * v0)) := by grind -lia -linarith (splits := 0)
    rw [this, u, v]; grind -lia -linarith (splits := 0)
  generalize hf : p.z * q.z - d * p.t * q.t = f at n w g2
  generalize hg : p.z * q.z + d * p.t * q.t = g at n w g1
  have n1 : (1 + d * (p.t * u0) * (q.t * v0)) ≠ 0 := fun e => n.2 (by rw [← g1, e]; grind -lia -linarith (splits := 0))
  have n2 : (1 - d * (p.t * u0) * (q.t * v0)) ≠ 0 := fun e => n.1 (by rw [← g2, e]; grind -lia -linarith (splits := 0))
  generalize 1 + d * (p.t * u0) * (q.t * v0) = A at g1 n1
  generalize 1 - d * (p.t * u0) * (q.t * v0) = B at g2 n2
  refine Prod.ext ?_ ?_
  · refine (F_eq_div n1 ?_).symm
    show (p.x * q.y + p.y * q.x) * f * w0 * A = p.x * u0 * (q.y * v0) + p.y * u0 * (q.x * v0)
    have : A = g * (u0 * v0) := by
      have : A = A * (p.z * q.z) * (u0 * v0) := by
        have : A * (p.z * q.z) * (u0 * v0) = A * ((p.z * u0) * (q.z * v0)) := by grind -lia -linarith (splits := 0)
        rw [this, u, v]; grind -lia -linarith (splits := 0)
      rw [this, g1]
    rw [this]
    have : (p.x * q.y + p.y * q.x) * f * w0 * (g * (u0 * v0)) = (p.x * q.y + p.y * q.x) * (f * g * w0) * (u0 * v0) := by grind -lia -linarith (splits := 0)
    rw [this, w]; grind -lia -linarith (splits := 0)
  · refine (F_eq_div n2 ?_).symm
    show g * (p.y * q.y + p.x * q.x) * w0 * B = p.y * u0 * (q.y * v0) + p.x * u0 * (q.x * v0)
    have : B = f * (u0 * v0) := by
      have : B = B * (p.z * q.z) * (u0 * v0) := by
        have : B * (p.z * q.z) * (u0 * v0) = B * ((p.z * u0) * (q.z * v0)) := by grind -lia -linarith (splits := 0)
        rw [this, u, v]; grind -lia -linarith (splits := 0)
      rw [this, g2]
    rw [this]
    have : g * (p.y * q.y + p.x * q.x) * w0 * (f * (u0 * v0)) = (p.y * q.y + p.x * q.x) * (f * g * w0) * (u0 * v0) := by grind -lia -linarith (splits := 0)
    rw [this, w]; grind -lia -linarith (splits := 0)
theorem OnA.add {d i : Fp} (h : Crv d i) {a b : Fp × Fp} (ha : OnA d a) (hb : OnA d b) : OnA d (addA d a b) := by
  have := on_aff (On.add h (on_up ha) (on_up hb))
  rwa [aff_add h (on_up ha) (on_up hb), aff_up, aff_up] at this
theorem assoc_x (d x1 y1 x2 y2 x3 y3 : Fp)
  (h1 : y1*y1 - x1*x1 = 1 + d*x1*x1*y1*y1) (h2 : y2*y2 - x2*x2 = 1 + d*x2*x2*y2*y2) (h3 : y3*y3 - x3*x3 = 1 + d*x3*x3*y3*y3)
  (xa ya za ta xb yb zb tb : Fp)
  (a1 : xa = (x1*y2+y1*x2)*(1 - d*(x1*y1)*(x2*y2))) (a2 : ya = (1 + d*(x1*y1)*(x2*y2))*(y1*y2+x1*x2)) (a3 : za = (1 - d*(x1*y1)*(x2*y2))*(1 + d*(x1*y1)*(x2*y2))) (a4 : ta = (x1*y2+y1*x2)*(y1*y2+x1*x2))
  (b1 : xb = (x2*y3+y2*x3)*(1 - d*(x2*y2)*(x3*y3))) (b2 : yb = (1 + d*(x2*y2)*(x3*y3))*(y2*y3+x2*x3)) (b3 : zb = (1 - d*(x2*y2)*(x3*y3))*(1 + d*(x2*y2)*(x3*y3))) (b4 : tb = (x2*y3+y2*x3)*(y2*y3+x2*x3)) :
  (xa*y3+ya*x3)*(zb + d*(x1*y1)*tb) = (x1*yb + y1*xb)*(za + d*ta*(x3*y3)) := by
  subst_vars; grind -lia -linarith (splits := 0)
theorem assoc_y (d x1 y1 x2 y2 x3 y3 : Fp)
  (h1 : y1*y1 - x1*x1 = 1 + d*x1*x1*y1*y1) (h2 : y2*y2 - x2*x2 = 1 + d*x2*x2*y2*y2) (h3 : y3*y3 - x3*x3 = 1 + d*x3*x3*y3*y3)
  (xa ya za ta xb yb zb tb : Fp)
  (a1 : xa = (x1*y2+y1*x2)*(1 - d*(x1*y1)*(x2*y2))) (a2 : ya = (1 + d*(x1*y1)*(x2*y2))*(y1*y2+x1*x2)) (a3 : za = (1 - d*(x1*y1)*(x2*y2))*(1 + d*(x1*y1)*(x2*y2))) (a4 : ta = (x1*y2+y1*x2)*(y1*y2+x1*x2))
  (b1 : xb = (x2*y3+y2*x3)*(1 - d*(x2*y2)*(x3*y3))) (b2 : yb = (1 + d*(x2*y2)*(x3*y3))*(y2*y3+x2*x3)) (b3 : zb = (1 - d*(x2*y2)*(x3*y3))*(1 + d*(x2*y2)*(x3*y3))) (b4 : tb = (x2*y3+y2*x3)*(y2*y3+x2*x3)) :
  (ya*y3+xa*x3)*(zb - d*(x1*y1)*tb) = (y1*yb + x1*xb)*(za - d*ta*(x3*y3)) := by
  subst_vars; grind -lia -linarith (splits := 0)
theorem onA_form {d : Fp} {a : Fp × Fp} (h : OnA d a) : a.2 * a.2 - a.1 * a.1 = 1 + d * a.1 * a.1 * a.2 * a.2 := by
  unfold OnA at h
  rw [h]; grind -lia -linarith (splits := 0)
theorem addA_assoc {d i : Fp} (h : Crv d i) {a b c : Fp × Fp} (ha : OnA d a) (hb : OnA d b) (hc : OnA d c) : addA d (addA d a b) c = addA d a (addA d b c) := by
  have pa := on_up ha
  have pb := on_up hb
  have pc := on_up hc
  have e1 : aff (addO opsF d (addO opsF d (up a) (up b)) (up c)) = addA d (addA d a b) c := by
    rw [aff_add h (On.add h pa pb) pc, aff_add h pa pb, aff_up, aff_up, aff_up]
  have e2 : aff (addO opsF d (up a) (addO opsF d (up b) (up c))) = addA d a (addA d b c) := by
    rw [aff_add h pa (On.add h pb pc), aff_add h pb pc, aff_up, aff_up, aff_up]
  rw [← e1, ← e2]
  refine (same_aff (On.add h (On.add h pa pb) pc) (On.add h pa (On.add h pb pc))).1 ?_
  have f1 := onA_form ha
  have f2 := onA_form hb
  have f3 := onA_form hc
  have one : (1 : Fp) * 1 = 1 := by grind -lia -linarith (splits := 0)
  have k1 := assoc_x d a.1 a.2 b.1 b.2 c.1 c.2 f1 f2 f3 _ _ _ _ _ _ _ _ rfl rfl rfl rfl rfl rfl rfl rfl
  have k2 := assoc_y d a.1 a.2 b.1 b.2 c.1 c.2 f1 f2 f3 _ _ _ _ _ _ _ _ rfl rfl rfl rfl rfl rfl rfl rfl
  unfold SameP addO up opsF
  simp only [one]
  generalize (a.1 * b.2 + a.2 * b.1) * (1 - d * (a.1 * a.2) * (b.1 * b.2)) = xa at k1 k2 ⊢
  generalize (1 + d * (a.1 * a.2) * (b.1 * b.2)) * (a.2 * b.2 + a.1 * b.1) = ya at k1 k2 ⊢
  generalize (1 - d * (a.1 * a.2) * (b.1 * b.2)) * (1 + d * (a.1 * a.2) * (b.1 * b.2)) = za at k1 k2 ⊢
  generalize (a.1 * b.2 + a.2 * b.1) * (a.2 * b.2 + a.1 * b.1) = ta at k1 k2 ⊢
  generalize (b.1 * c.2 + b.2 * c.1) * (1 - d * (b.1 * b.2) * (c.1 * c.2)) = xb at k1 k2 ⊢
  generalize (1 + d * (b.1 * b.2) * (c.1 * c.2)) * (b.2 * c.2 + b.1 * c.1) = yb at k1 k2 ⊢
  generalize (1 - d * (b.1 * b.2) * (c.1 * c.2)) * (1 + d * (b.1 * b.2) * (c.1 * c.2)) = zb at k1 k2 ⊢
  generalize (b.1 * c.2 + b.2 * c.1) * (b.2 * c.2 + b.1 * c.1) = tb at k1 k2 ⊢
  have z1 : za * 1 = za := by grind -lia -linarith (splits := 0)
  have z2 : 1 * zb = zb := by grind -lia -linarith (splits := 0)
  simp only [z1, z2]
  have z3 : d * ta * (c.1 * c.2) = d * ta * (c.1 * c.2) := rfl
  generalize hL : xa * c.2 + ya * c.1 = L at k1 ⊢
  generalize hM : ya * c.2 + xa * c.1 = M at k2 ⊢
  generalize hN : a.1 * yb + a.2 * xb = N at k1 ⊢
  generalize hO : a.2 * yb + a.1 * xb = O at k2 ⊢
  generalize hg1 : za + d * ta * (c.1 * c.2) = g1 at k1 ⊢
  generalize hf1 : za - d * ta * (c.1 * c.2) = f1' at k2 ⊢
  generalize hg2 : zb + d * (a.1 * a.2) * tb = g2 at k1 ⊢
  generalize hf2 : zb - d * (a.1 * a.2) * tb = f2' at k2 ⊢
  constructor
  · have e : L * f1' * (f2' * g2) = (L * g2) * (f1' * f2') := by grind -lia -linarith (splits := 0)
    rw [e, k1]; grind -lia -linarith (splits := 0)
  · have e : g1 * M * (f2' * g2) = (M * f2') * (g1 * g2) := by grind -lia -linarith (splits := 0)
    rw [e, k2]; grind -lia -linarith (splits := 0)
theorem addA_comm (d : Fp) (a b : Fp × Fp) : addA d a b = addA d b a := by
  unfold addA
  have e1 : a.1 * b.2 + a.2 * b.1 = b.1 * a.2 + b.2 * a.1 := by grind -lia -linarith (splits := 0)
  have e2 : a.2 * b.2 + a.1 * b.1 = b.2 * a.2 + b.1 * a.1 := by grind -lia -linarith (splits := 0)
  have e3 : d * (a.1 * a.2) * (b.1 * b.2) = d * (b.1 * b.2) * (a.1 * a.2) := by grind -lia -linarith (splits := 0)
  rw [e1, e2, e3]
def zeroA : Fp × Fp := (0, 1)
theorem OnA.zero (d : Fp) : OnA d zeroA := by
  show (1 : Fp) * 1 - 0 * 0 = 1 + d * (0 * 1) * (0 * 1)
  grind -lia -linarith (splits := 0)
theorem addA_zero (d : Fp) (a : Fp × Fp) : addA d a zeroA = a := by
  unfold addA zeroA
  have e : invF (1 : Fp) = 1 := by have := invF_mul F_one; grind -lia -linarith (splits := 0)
  have e1 : (1 : Fp) + d * (a.1 * a.2) * (0 * 1) = 1 := lit2 1 d _ 0 rfl
  have e2 : (1 : Fp) - d * (a.1 * a.2) * (0 * 1) = 1 := lit3 1 d _ 0 rfl
  simp only [e1, e2, e]
  exact Prod.ext (lit4 a.1 a.2 1 0 rfl rfl) (lit4 a.2 a.1 1 0 rfl rfl)
def negA (a : Fp × Fp) : Fp × Fp := (-a.1, a.2)
theorem OnA.neg {d : Fp} {a : Fp × Fp} (h : OnA d a) : OnA d (negA a) := by
  unfold OnA negA at *
  simp only
  grind -lia -linarith (splits := 0)
theorem addA_neg {d i : Fp} (h : Crv d i) {a : Fp × Fp} (ha : OnA d a) : addA d a (negA a) = zeroA := by
  have n := fg_ne h (on_up ha) (on_up ha.neg)
  have n1 : (1 : Fp) * 1 - d * (a.1 * a.2) * (-a.1 * a.2) ≠ 0 := n.1
  have n2 : 1 - d * (a.1 * a.2) * (-a.1 * a.2) ≠ 0 := fun e => n1 (by rw [← e]; grind -lia -linarith (splits := 0))
  have hi := invF_mul n2
  unfold OnA at ha
  unfold addA negA zeroA
  refine Prod.ext ?_ ?_
  · show (a.1 * a.2 + a.2 * -a.1) * _ = 0
    have : a.1 * a.2 + a.2 * -a.1 = 0 := by grind -lia -linarith (splits := 0)
    rw [this]; grind -lia -linarith (splits := 0)
  · show (a.2 * a.2 + a.1 * -a.1) * invF (1 - d * (a.1 * a.2) * (-a.1 * a.2)) = 1
    refine F_eq_div n2 ?_
    have : a.2 * a.2 + a.1 * -a.1 = a.2 * a.2 - a.1 * a.1 := by grind -lia -linarith (splits := 0)
    rw [this, ha]; grind -lia -linarith (splits := 0)
theorem aff_neg (p : P4 Fp) : aff (negO (fun a => -a) p) = negA (aff p) := by
  unfold aff negO negA
  exact Prod.ext (by show -p.x * invF p.z = -(p.x * invF p.z); grind -lia -linarith (splits := 0)) rfl
theorem aff_zero : aff zero4 = zeroA := by
  have e : invF (1 : Fp) = 1 := by have := invF_mul F_one; grind -lia -linarith (splits := 0)
  unfold aff zero4 zeroA
  simp only [e]
  exact Prod.ext (by show (0 : Fp) * 1 = 0; grind -lia -linarith (splits := 0)) (by show (1 : Fp) * 1 = 1; grind -lia -linarith (splits := 0))
/-! ### multiples -/
noncomputable def mulA (d : Fp) (a : Fp × Fp) : Nat → Fp × Fp
  | 0 => zeroA
  | n + 1 => addA d (mulA d a n) a
theorem OnA.mul {d i : Fp} (h : Crv d i) {a : Fp × Fp} (ha : OnA d a) : ∀ n, OnA d (mulA d a n)
  | 0 => OnA.zero d
  | n + 1 => OnA.add h (OnA.mul h ha n) ha
theorem zero_addA (d : Fp) (a : Fp × Fp) : addA d zeroA a = a := by rw [addA_comm, addA_zero]
theorem mulA_add {d i : Fp} (h : Crv d i) {a : Fp × Fp} (ha : OnA d a) (m : Nat) : ∀ n, mulA d a (m + n) = addA d (mulA d a m) (mulA d a n)
  | 0 => (addA_zero d _).symm
  | n + 1 => by
    show addA d (mulA d a (m + n)) a = addA d (mulA d a m) (addA d (mulA d a n) a)
    rw [mulA_add h ha m n, addA_assoc h (OnA.mul h ha m) (OnA.mul h ha n) ha]
theorem mulA_mul {d i : Fp} (h : Crv d i) {a : Fp × Fp} (ha : OnA d a) (m : Nat) : ∀ n, mulA d a (m * n) = mulA d (mulA d a m) n
  | 0 => rfl
  | n + 1 => by
    rw [Nat.mul_succ, mulA_add h ha, mulA_mul h ha m n]; rfl
theorem mulA_zero (d : Fp) : ∀ n, mulA d zeroA n = zeroA
  | 0 => rfl
  | n + 1 => by show addA d (mulA d zeroA n) zeroA = zeroA; rw [addA_zero, mulA_zero d n]
theorem mulA_mod {d i : Fp} (h : Crv d i) {a : Fp × Fp} (ha : OnA d a) {l : Nat} (hl : mulA d a l = zeroA) (n : Nat) : mulA d a (n % l) = mulA d a n := by
  conv => rhs; rw [← Nat.div_add_mod n l]
  rw [mulA_add h ha, mulA_mul h ha, hl, mulA_zero, zero_addA]
theorem mulA_one (d : Fp) (a : Fp × Fp) : mulA d a 1 = a := zero_addA d a
end Go.Num
