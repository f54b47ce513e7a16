/- Numbers modulo the order: the document's Of. -/
import Derived.Test.YtalflblaefffnaaOrd4
namespace Go.Proofs.Ytalflblaefffnaa
set_option linter.unusedVariables false
set_option linter.unusedSimpArgs false
open Go Go.Eng Go.Num
set_option maxRecDepth 100000
set_option maxHeartbeats 1000000
set_option linter.unusedSimpArgs false
set_option linter.unusedVariables false
def c16 (r : N16) : List AVal := [.u64 r.x0, .u64 r.x1, .u64 r.x2, .u64 r.x3, .u64 r.x4, .u64 r.x5, .u64 r.x6, .u64 r.x7, .u64 r.x8, .u64 r.x9, .u64 r.x10, .u64 r.x11, .u64 r.x12, .u64 r.x13, .u64 r.x14, .u64 r.x15]
def S14 (s : List UInt8) (r : N16) (i : Int) : SA := ⟨[(0, .str s), (2, .ptr 0 0), (3, .ptr 8 0), (4, .int .i64 i)], [(0, .cells false (c16 zeroN)), (8, .cells false (c16 r))], 56⟩
noncomputable def b14 : Code := loopOf ((pieces (bodyOf Try.f14)).getD 3 .skip)
def rawbit (s : List UInt8) (i : Int) : UInt64 := (shr_u8 (s.getD (IntKind.wrap .i64 (Int.tdiv i 8)).toNat 0) (UInt64.ofInt (Int.tmod i 8)).toNat &&& 1).toUInt64
theorem rawbit_eq (s : List UInt8) (k : Nat) (hk : k < 1000000) : rawbit s k = bitAt s k := by
  unfold rawbit bitAt
  have e1 : Int.tdiv (k : Int) 8 = ((k / 8 : Nat) : Int) := by rw [Int.tdiv_eq_ediv_of_nonneg (by omega)]; rfl
  have e2 : Int.tmod (k : Int) 8 = ((k % 8 : Nat) : Int) := by rw [Int.tmod_eq_emod_of_nonneg (by omega)]; rfl
  have e3 : (UInt64.ofNat (k % 8)).toNat = k % 8 := by
    rw [UInt64.toNat_ofNat_of_lt']; show _ < 18446744073709551616; omega
  rw [e1, e2, wrapI _ (by omega) (by omega), ofInt_nat, e3]; rfl
theorem rnd14t (F : Nat) (s : List UInt8) (r0 r : N16) (i0 i : Int) : roundO Try.prog noPS cr1 [10, 17, 28] [true, true] 33 (mask 14) F Try.prog.globals.size b14 (S14 s r0 i0) (S14 s r i) = some (S14 s (minusN (twiceN r (rawbit s i)) orderN) (IntKind.wrap .i64 (i - 1)), [!lessN (twiceN r (rawbit s i)) orderN, decide (0 ≤ IntKind.wrap .i64 (Int.tdiv i 8)) && decide (IntKind.wrap .i64 (Int.tdiv i 8) < (s.length : Int)), decide ((0 : Int) ≤ i)]) := by kernel_rfl
theorem rnd14f (F : Nat) (s : List UInt8) (r0 r : N16) (i0 i : Int) : roundO Try.prog noPS cr1 [10, 17, 28] [true, false] 33 (mask 14) F Try.prog.globals.size b14 (S14 s r0 i0) (S14 s r i) = some (S14 s (twiceN r (rawbit s i)) (IntKind.wrap .i64 (i - 1)), [!!lessN (twiceN r (rawbit s i)) orderN, decide (0 ≤ IntKind.wrap .i64 (Int.tdiv i 8)) && decide (IntKind.wrap .i64 (Int.tdiv i 8) < (s.length : Int)), decide ((0 : Int) ≤ i)]) := by kernel_rfl
theorem rnd14 (F : Nat) (s : List UInt8) (r0 r : N16) (i0 : Int) (k : Nat) (hk : k < 8 * s.length) (hs : s.length ≤ 100000) : roundA (evC Try.prog cr1 33 (mask 14) F Try.prog.globals.size b14) (headA Try.prog Try.prog.globals.size (S14 s r0 i0)) (S14 s r k) = some (S14 s (bitN r (bitAt s k)) ((k : Int) - 1)) := by
  have e1 : Int.tdiv (k : Int) 8 = ((k / 8 : Nat) : Int) := by rw [Int.tdiv_eq_ediv_of_nonneg (by omega)]; rfl
  have hd : IntKind.wrap .i64 (Int.tdiv (k : Int) 8) = ((k / 8 : Nat) : Int) := by rw [e1, wrapI _ (by omega) (by omega)]
  have hw : IntKind.wrap .i64 ((k : Int) - 1) = (k : Int) - 1 := wrapI _ (by omega) (by omega)
  rw [← rawbit_eq s k (by omega)]
  cases h : lessN (twiceN r (rawbit s k)) orderN
  · have e : bitN r (rawbit s k) = minusN (twiceN r (rawbit s k)) orderN := by simp only [bitN, redO, h, cond_false]
    rw [e]
    have := roundO_ok (noPS_ok _) (rnd14t F s r0 r i0 k) (by rw [hd]; simp [allT, h]; omega)
    rw [this, hw]
  · have e : bitN r (rawbit s k) = twiceN r (rawbit s k) := by simp only [bitN, redO, h, cond_true]
    rw [e]
    have := roundO_ok (noPS_ok _) (rnd14f F s r0 r i0 k) (by rw [hd]; simp [allT, h]; omega)
    rw [this, hw]
/-- The number after so many rounds. -/
def acc14 (s : List UInt8) : Nat → N16
  | 0 => zeroN
  | j + 1 => bitN (acc14 s j) (bitAt s (8 * s.length - 1 - j))
theorem acc14_eq (s : List UInt8) : ∀ j, j ≤ 8 * s.length → ofBits s (acc14 s j) (8 * s.length - j) = ofN s
  | 0, _ => rfl
  | j + 1, h => by
    have := acc14_eq s j (by omega)
    rw [← this]
    obtain ⟨m, hm⟩ : ∃ m, 8 * s.length - j = m + 1 := ⟨8 * s.length - j - 1, by omega⟩
    rw [hm, show 8 * s.length - (j + 1) = m by omega]
    simp only [acc14, ofBits]
    rw [show 8 * s.length - 1 - j = m by omega]
theorem pre14 (F : Nat) (s : List UInt8) : evS Try.prog cr1 Try.f14.ntmps (mask 14) F Try.prog.globals.size ((pieces (bodyOf Try.f14)).take 3) ⟨startT [.str s] 0, [], Try.prog.globals.size⟩ = some (.normal, S14 s zeroN (IntKind.wrap .i64 (IntKind.wrap .i64 (8 * (s.length : Int)) - 1))) := by kernel_rfl
theorem end14 (F : Nat) (s : List UInt8) (r : N16) : (match evC Try.prog cr1 Try.f14.ntmps (mask 14) F Try.prog.globals.size b14 (S14 s r (-1)) with | some (.exit 0, s1) => finV Try.prog Try.f14 (evS Try.prog cr1 Try.f14.ntmps (mask 14) F Try.prog.globals.size ((pieces (bodyOf Try.f14)).drop 4) s1) | _ => none) = some r.av := by kernel_rfl
theorem run14 (s : List UInt8) (hs : s.length ≤ 100000) : (run1 Try.prog cr1 (mask 14) 1000000 14 [.str s] [] Try.prog.globals.size).map (·.1) = some (ofN s).av := by
  have he := end14 1000000 s (ofN s)
  split at he
  · rename_i s1 h1
    refine run_loop (fn := Try.f14) (c := bodyOf Try.f14) (by kernel_rfl) (by kernel_rfl) (by kernel_rfl) 3 (id := 0) (b := b14) (by kernel_rfl) (fun j => S14 s (acc14 s j) ((8 * s.length : Nat) - 1 - j : Int)) (8 * s.length) ?_ (fun j hj => ?_) (s1 := s1) ?_ (by omega) he
    · rw [pre14, wrapI (8 * (s.length : Int)) (by omega) (by omega), wrapI _ (by omega) (by omega)]
      have e0 : (((8 * s.length : Nat) : Int) - 1 - ((0 : Nat) : Int)) = 8 * (s.length : Int) - 1 := by omega
      show _ = some (XA.normal, S14 s (acc14 s 0) (((8 * s.length : Nat) : Int) - 1 - ((0 : Nat) : Int)))
      rw [e0]; rfl
    · have e : ((8 * s.length : Nat) - 1 - j : Int) = ((8 * s.length - 1 - j : Nat) : Int) := by omega
      have e2 : ((8 * s.length : Nat) - 1 - (j + 1 : Nat) : Int) = ((8 * s.length - 1 - j : Nat) : Int) - 1 := by omega
      rw [e, e2]
      exact rnd14 1000000 s _ _ _ _ (by omega) hs
    · have e : ((8 * s.length : Nat) - 1 - (8 * s.length : Nat) : Int) = -1 := by omega
      have e2 : acc14 s (8 * s.length) = ofN s := by
        have := acc14_eq s (8 * s.length) (Nat.le_refl _)
        rwa [Nat.sub_self] at this
      rw [e, e2]
      exact h1
  · cases he
def p14 : List AVal → Option (AVal × Bool)
  | [.str s] => some ((ofN s).av, Nat.ble s.length 100000)
  | _ => none
theorem p14_ok : CSOk Try.prog (csP (psOne 14 p14)) := csP_one fun args v he => by
  unfold p14 at he
  split at he
  · simp only [Option.some.injEq, Prod.mk.injEq] at he
    obtain ⟨rfl, h⟩ := he
    exact callOk_val cr1_ok hmix (run14 _ (Nat.le_of_ble_eq_true h)) rfl rfl
  · cases he
end Go.Proofs.Ytalflblaefffnaa
