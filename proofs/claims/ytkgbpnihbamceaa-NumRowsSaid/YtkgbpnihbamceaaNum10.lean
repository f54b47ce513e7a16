/- The program's numbers modulo 2^255 - 19: the number below the prime, bytes. -/
import Derived.Test.YtkgbpnihbamceaaNum9
namespace Go.Num
set_option linter.unusedVariables false
set_option linter.unusedSimpArgs false
open Go Go.Eng
def E5.red (a : E5) : Prop := a.x0.toNat < 2251799813685248 ∧ a.x1.toNat < 2251799813685248 ∧ a.x2.toNat < 2251799813685248 ∧ a.x3.toNat < 2251799813685248 ∧ a.x4.toNat < 2251799813685248
theorem E5.ext_val {a b : E5} (ha : a.red) (hb : b.red) (h : a.val = b.val) : a = b := by
  obtain ⟨a0, a1, a2, a3, a4⟩ := a
  obtain ⟨b0, b1, b2, b3, b4⟩ := b
  unfold E5.red at ha hb
  unfold E5.val at h
  simp only at ha hb h
  have e0 : a0 = b0 := UInt64.toNat_inj.1 (by omega)
  have e1 : a1 = b1 := UInt64.toNat_inj.1 (by omega)
  have e2 : a2 = b2 := UInt64.toNat_inj.1 (by omega)
  have e3 : a3 = b3 := UInt64.toNat_inj.1 (by omega)
  have e4 : a4 = b4 := UInt64.toNat_inj.1 (by omega)
  rw [e0, e1, e2, e3, e4]
theorem tail_val (b : E5) (c : UInt64) (hc : c.toNat ≤ 1) (h0 : b.x0.toNat < 2251799813947392) (h1 : b.x1.toNat < 2251799813947392) (h2 : b.x2.toNat < 2251799813947392) (h3 : b.x3.toNat < 2251799813947392) (h4 : b.x4.toNat < 2251799813947392) :
    (tailE b c).red ∧ (tailE b c).val = (b.val + 19 * c.toNat) % 57896044618658097711785492504343953926634992332820282019728792003956564819968 := by
  have e0 : (b.x0 + 19 * c).toNat = b.x0.toNat + 19 * c.toNat := by
    rw [UInt64.toNat_add, UInt64.toNat_mul, n19]
    simp only [Nat.reducePow]
    omega
  have st : ∀ x y : UInt64, x.toNat < 2251799813947392 → (x + shr_u64 y 51).toNat = x.toNat + y.toNat / 2251799813685248 := fun x y hx => by
    have hy := y.toNat_lt
    simp only [Nat.reducePow] at hy
    rw [add_nat _ _ (by rw [shr51]; omega), shr51]
  have e1 := st b.x1 (b.x0 + 19 * c) h1
  have e2 := st b.x2 (b.x1 + shr_u64 (b.x0 + 19 * c) 51) h2
  have e3 := st b.x3 (b.x2 + shr_u64 (b.x1 + shr_u64 (b.x0 + 19 * c) 51) 51) h3
  have e4 := st b.x4 (b.x3 + shr_u64 (b.x2 + shr_u64 (b.x1 + shr_u64 (b.x0 + 19 * c) 51) 51) 51) h4
  unfold E5.red E5.val tailE
  simp only [and51]
  rw [e4, e3, e2, e1, e0]
  refine ⟨by omega, ?_⟩
  omega
theorem top_val (b : E5) (h0 : b.x0.toNat < 2251799813947392) (h1 : b.x1.toNat < 2251799813947392) (h2 : b.x2.toNat < 2251799813947392) (h3 : b.x3.toNat < 2251799813947392) (h4 : b.x4.toNat < 2251799813947392) :
    (topE b).toNat = (b.val + 19) / 57896044618658097711785492504343953926634992332820282019728792003956564819968 := by
  have e0 : (b.x0 + 19).toNat = b.x0.toNat + 19 := by
    rw [UInt64.toNat_add, n19]
    simp only [Nat.reducePow]
    omega
  have st : ∀ x y : UInt64, x.toNat < 2251799813947392 → (x + shr_u64 y 51).toNat = x.toNat + y.toNat / 2251799813685248 := fun x y hx => by
    have hy := y.toNat_lt
    simp only [Nat.reducePow] at hy
    rw [add_nat _ _ (by rw [shr51]; omega), shr51]
  unfold topE
  rw [shr51, st _ _ h4, st _ _ h3, st _ _ h2, st _ _ h1, e0]
  unfold E5.val
  omega
theorem reduced_val (a : E5) : (reducedE a).red ∧ (reducedE a).val = a.val % Pq := by
  have o1 := carried_ok a
  obtain ⟨o2, v2⟩ := carried_val (carriedE a)
  have m2 := carried_mod (carriedE a)
  have m1 := carried_mod a
  have hb := low_plus19 (carriedE a).x0 (carriedE a).x4
  have hb1 := low_plus (carriedE a).x1 (carriedE a).x0
  have hb2 := low_plus (carriedE a).x2 (carriedE a).x1
  have hb3 := low_plus (carriedE a).x3 (carriedE a).x2
  have hb4 := low_plus (carriedE a).x4 (carriedE a).x3
  have hv : (carriedE (carriedE a)).val < 57896044618658097711785492504343953926634992332820282019728792003956564819968 + 57896044618658097711785492504343953926634992332820282019728792003956564819930 := by
    unfold E5.ok at o1
    have d : carriedE (carriedE a) = ⟨((carriedE a).x0 &&& m51) + 19 * shr_u64 (carriedE a).x4 51, ((carriedE a).x1 &&& m51) + shr_u64 (carriedE a).x0 51, ((carriedE a).x2 &&& m51) + shr_u64 (carriedE a).x1 51, ((carriedE a).x3 &&& m51) + shr_u64 (carriedE a).x2 51, ((carriedE a).x4 &&& m51) + shr_u64 (carriedE a).x3 51⟩ := rfl
    rw [d]
    generalize carriedE a = u at *
    unfold E5.val
    simp only
    rw [hb, hb1, hb2, hb3, hb4]
    omega
  obtain ⟨q0, q1, q2, q3, q4⟩ := o2
  have ht := top_val _ q0 q1 q2 q3 q4
  have htop : (topE (carriedE (carriedE a))).toNat ≤ 1 := by
    rw [ht]
    omega
  obtain ⟨r1, r2⟩ := tail_val _ (topE (carriedE (carriedE a))) htop q0 q1 q2 q3 q4
  refine ⟨r1, ?_⟩
  have hm : (carriedE (carriedE a)).val % Pq = a.val % Pq := m2.trans m1
  rw [← hm]
  unfold reducedE
  simp only
  rw [r2, ht]
  generalize (carriedE (carriedE a)).val = v at *
  unfold Pq
  have h2 : (v + 19) / 57896044618658097711785492504343953926634992332820282019728792003956564819968 = 0 ∨ (v + 19) / 57896044618658097711785492504343953926634992332820282019728792003956564819968 = 1 := by omega
  rcases h2 with h2 | h2 <;> rw [h2] <;> omega
/-! ### bytes -/
theorem leNat_range (f : Nat → UInt8) (V : Nat) : ∀ n, (∀ i, i < n → (f i).toNat = V / 256 ^ i % 256) → leNat ((List.range n).map f) = V % 256 ^ n
  | 0, _ => by simp [leNat, Nat.mod_one]
  | n + 1, h => by
    rw [List.range_succ, List.map_append, leNat_append, leNat_range f V n (fun i hi => h i (by omega))]
    simp only [List.map_cons, List.map_nil, leNat, List.length_map, List.length_range]
    rw [h n (by omega), Nat.mul_zero, Nat.add_zero, Nat.pow_succ, Nat.mod_mul]
theorem shr_byte (x : UInt64) (n : Nat) (h : n < 64) : ((shr_u64 x n).toUInt8).toNat = x.toNat / 2 ^ n % 256 := by
  rw [toU8_nat, shr_u64_nat x n h]
theorem or_byte (x y : UInt64) (s : Nat) (hs : 44 ≤ s) (hs2 : s < 51) (hx : x.toNat < 2251799813685248) (hy : y.toNat < 2251799813685248) : ((shr_u64 x s).toUInt8 ||| (shl_u64 y (51 - s)).toUInt8).toNat = (x.toNat / 2 ^ s + y.toNat * 2 ^ (51 - s)) % 256 := by
  rw [UInt8.toNat_or, toU8_nat, toU8_nat, shr_u64_nat x s (by omega), shl_u64_nat y (51 - s) (by omega)]
  have h1 : x.toNat / 2 ^ s < 2 ^ (51 - s) := by
    apply Nat.div_lt_of_lt_mul
    rw [← Nat.pow_add, show s + (51 - s) = 51 by omega]
    simpa using hx
  have hc : s = 44 ∨ s = 45 ∨ s = 46 ∨ s = 47 ∨ s = 48 ∨ s = 49 ∨ s = 50 := by omega
  have h2 : (x.toNat / 2 ^ s) % 256 = x.toNat / 2 ^ s := Nat.mod_eq_of_lt (by rcases hc with rfl | rfl | rfl | rfl | rfl | rfl | rfl <;> simp only [Nat.reducePow, Nat.reduceSub] at h1 <;> omega)
  rw [h2]
  have h3 : y.toNat * 2 ^ (51 - s) % 18446744073709551616 % 256 = (y.toNat % 2 ^ (8 - (51 - s))) * 2 ^ (51 - s) := by
    rcases hc with rfl | rfl | rfl | rfl | rfl | rfl | rfl <;> simp only [Nat.reducePow, Nat.reduceSub] <;> omega
  rw [h3]
  have := Nat.shiftLeft_add_eq_or_of_lt h1 (y.toNat % 2 ^ (8 - (51 - s)))
  rw [Nat.shiftLeft_eq] at this
  rw [Nat.or_comm, ← this]
  rcases hc with rfl | rfl | rfl | rfl | rfl | rfl | rfl <;> simp only [Nat.reducePow, Nat.reduceSub] at * <;> omega
set_option maxHeartbeats 4000000 in
theorem byteE_val (r : E5) (h : r.red) (i : Nat) (hi : i < 32) : (byteE r i).toNat = r.val / 256 ^ i % 256 := by
  obtain ⟨r0, r1, r2, r3, r4⟩ := r
  unfold E5.red at h
  unfold E5.val
  simp only at h ⊢
  obtain ⟨h0, h1, h2, h3, h4⟩ := h
  have hc : i = 0 ∨ i = 1 ∨ i = 2 ∨ i = 3 ∨ i = 4 ∨ i = 5 ∨ i = 6 ∨ i = 7 ∨ i = 8 ∨ i = 9 ∨ i = 10 ∨ i = 11 ∨ i = 12 ∨ i = 13 ∨ i = 14 ∨ i = 15 ∨ i = 16 ∨ i = 17 ∨ i = 18 ∨ i = 19 ∨ i = 20 ∨ i = 21 ∨ i = 22 ∨ i = 23 ∨ i = 24 ∨ i = 25 ∨ i = 26 ∨ i = 27 ∨ i = 28 ∨ i = 29 ∨ i = 30 ∨ i = 31 := by omega
  have s : ∀ (x : UInt64) (n : Nat), n < 64 → ((shr_u64 x n).toUInt8).toNat = x.toNat / 2 ^ n % 256 := shr_byte
  have o : ∀ (x y : UInt64) (n : Nat), 44 ≤ n → n < 51 → x.toNat < 2251799813685248 → y.toNat < 2251799813685248 → ((shr_u64 x n).toUInt8 ||| (shl_u64 y (51 - n)).toUInt8).toNat = (x.toNat / 2 ^ n + y.toNat * 2 ^ (51 - n)) % 256 := or_byte
  rcases hc with rfl | rfl | rfl | rfl | rfl | rfl | rfl | rfl | rfl | rfl | rfl | rfl | rfl | rfl | rfl | rfl | rfl | rfl | rfl | rfl | rfl | rfl | rfl | rfl | rfl | rfl | rfl | rfl | rfl | rfl | rfl | rfl
  · show ((shr_u64 r0 0).toUInt8).toNat = _; rw [s _ 0 (by omega)]; simp only [Nat.reducePow]; omega
  · show ((shr_u64 r0 8).toUInt8).toNat = _; rw [s _ 8 (by omega)]; simp only [Nat.reducePow]; omega
  · show ((shr_u64 r0 16).toUInt8).toNat = _; rw [s _ 16 (by omega)]; simp only [Nat.reducePow]; omega
  · show ((shr_u64 r0 24).toUInt8).toNat = _; rw [s _ 24 (by omega)]; simp only [Nat.reducePow]; omega
  · show ((shr_u64 r0 32).toUInt8).toNat = _; rw [s _ 32 (by omega)]; simp only [Nat.reducePow]; omega
  · show ((shr_u64 r0 40).toUInt8).toNat = _; rw [s _ 40 (by omega)]; simp only [Nat.reducePow]; omega
  · show ((shr_u64 r0 48).toUInt8 ||| (shl_u64 r1 3).toUInt8).toNat = _; rw [o _ _ 48 (by omega) (by omega) h0 h1]; simp only [Nat.reducePow, Nat.reduceSub]; omega
  · show ((shr_u64 r1 5).toUInt8).toNat = _; rw [s _ 5 (by omega)]; simp only [Nat.reducePow]; omega
  · show ((shr_u64 r1 13).toUInt8).toNat = _; rw [s _ 13 (by omega)]; simp only [Nat.reducePow]; omega
  · show ((shr_u64 r1 21).toUInt8).toNat = _; rw [s _ 21 (by omega)]; simp only [Nat.reducePow]; omega
  · show ((shr_u64 r1 29).toUInt8).toNat = _; rw [s _ 29 (by omega)]; simp only [Nat.reducePow]; omega
  · show ((shr_u64 r1 37).toUInt8).toNat = _; rw [s _ 37 (by omega)]; simp only [Nat.reducePow]; omega
  · show ((shr_u64 r1 45).toUInt8 ||| (shl_u64 r2 6).toUInt8).toNat = _; rw [o _ _ 45 (by omega) (by omega) h1 h2]; simp only [Nat.reducePow, Nat.reduceSub]; omega
  · show ((shr_u64 r2 2).toUInt8).toNat = _; rw [s _ 2 (by omega)]; simp only [Nat.reducePow]; omega
  · show ((shr_u64 r2 10).toUInt8).toNat = _; rw [s _ 10 (by omega)]; simp only [Nat.reducePow]; omega
  · show ((shr_u64 r2 18).toUInt8).toNat = _; rw [s _ 18 (by omega)]; simp only [Nat.reducePow]; omega
  · show ((shr_u64 r2 26).toUInt8).toNat = _; rw [s _ 26 (by omega)]; simp only [Nat.reducePow]; omega
  · show ((shr_u64 r2 34).toUInt8).toNat = _; rw [s _ 34 (by omega)]; simp only [Nat.reducePow]; omega
  · show ((shr_u64 r2 42).toUInt8).toNat = _; rw [s _ 42 (by omega)]; simp only [Nat.reducePow]; omega
  · show ((shr_u64 r2 50).toUInt8 ||| (shl_u64 r3 1).toUInt8).toNat = _; rw [o _ _ 50 (by omega) (by omega) h2 h3]; simp only [Nat.reducePow, Nat.reduceSub]; omega
  · show ((shr_u64 r3 7).toUInt8).toNat = _; rw [s _ 7 (by omega)]; simp only [Nat.reducePow]; omega
  · show ((shr_u64 r3 15).toUInt8).toNat = _; rw [s _ 15 (by omega)]; simp only [Nat.reducePow]; omega
  · show ((shr_u64 r3 23).toUInt8).toNat = _; rw [s _ 23 (by omega)]; simp only [Nat.reducePow]; omega
  · show ((shr_u64 r3 31).toUInt8).toNat = _; rw [s _ 31 (by omega)]; simp only [Nat.reducePow]; omega
  · show ((shr_u64 r3 39).toUInt8).toNat = _; rw [s _ 39 (by omega)]; simp only [Nat.reducePow]; omega
  · show ((shr_u64 r3 47).toUInt8 ||| (shl_u64 r4 4).toUInt8).toNat = _; rw [o _ _ 47 (by omega) (by omega) h3 h4]; simp only [Nat.reducePow, Nat.reduceSub]; omega
  · show ((shr_u64 r4 4).toUInt8).toNat = _; rw [s _ 4 (by omega)]; simp only [Nat.reducePow]; omega
  · show ((shr_u64 r4 12).toUInt8).toNat = _; rw [s _ 12 (by omega)]; simp only [Nat.reducePow]; omega
  · show ((shr_u64 r4 20).toUInt8).toNat = _; rw [s _ 20 (by omega)]; simp only [Nat.reducePow]; omega
  · show ((shr_u64 r4 28).toUInt8).toNat = _; rw [s _ 28 (by omega)]; simp only [Nat.reducePow]; omega
  · show ((shr_u64 r4 36).toUInt8).toNat = _; rw [s _ 36 (by omega)]; simp only [Nat.reducePow]; omega
  · show ((shr_u64 r4 44).toUInt8).toNat = _; rw [s _ 44 (by omega)]; simp only [Nat.reducePow]; omega
theorem red_lt {a : E5} (h : a.red) : a.val < 57896044618658097711785492504343953926634992332820282019728792003956564819968 := by
  unfold E5.red at h
  unfold E5.val
  omega
theorem bytesE_val (a : E5) : leNat (bytesE a) = a.val % Pq := by
  obtain ⟨h1, h2⟩ := reduced_val a
  unfold bytesE
  rw [leNat_range _ (reducedE a).val 32 (fun i hi => byteE_val _ h1 i hi), Nat.mod_eq_of_lt (Nat.lt_of_lt_of_le (red_lt h1) (by decide)), h2]
theorem bytesE_len (a : E5) : (bytesE a).length = 32 := by unfold bytesE; simp
/-! ### numbers that are read -/
theorem leNat_drop (s : List UInt8) (k : Nat) : leNat (s.drop k) = leNat s / 256 ^ k := by
  induction k generalizing s with
  | zero => simp
  | succ k ih =>
    cases s with
    | nil => simp [leNat]
    | cons c l =>
      have hc := c.toNat_lt
      simp only [Nat.reducePow] at hc
      rw [List.drop_succ_cons, ih, leNat, Nat.pow_succ, Nat.mul_comm (256 ^ k), ← Nat.div_div_eq_div_mul]
      congr 1
      omega
theorem byte_at (s : List UInt8) (k : Nat) : (s.getD k 0).toNat = leNat s / 256 ^ k % 256 := by
  rw [← leNat_drop]
  induction k generalizing s with
  | zero =>
    cases s with
    | nil => rfl
    | cons c l =>
      have hc := c.toNat_lt
      simp only [Nat.reducePow] at hc
      simp only [List.getD_cons_zero, List.drop_zero, leNat]
      omega
  | succ k ih =>
    cases s with
    | nil => simp [leNat]
    | cons c l => rw [List.getD_cons_succ, List.drop_succ_cons]; exact ih l
theorem or_step (x : UInt64) (b : UInt8) (n : Nat) (hn : n < 57) (h : x.toNat < 2 ^ n) : (x ||| shl_u64 b.toUInt64 n).toNat = x.toNat + b.toNat * 2 ^ n := by
  have hb := b.toNat_lt
  rw [UInt64.toNat_or, shl_u64_nat _ n (by omega), UInt8.toNat_toUInt64]
  have hlt : b.toNat * 2 ^ n < 18446744073709551616 := by
    have h1 : 2 ^ n ≤ 2 ^ 56 := Nat.pow_le_pow_right (by omega) (by omega)
    have := Nat.mul_le_mul (Nat.le_of_lt_succ hb) h1
    simp only [Nat.reducePow] at *
    omega
  rw [Nat.mod_eq_of_lt hlt]
  have := Nat.shiftLeft_add_eq_or_of_lt h b.toNat
  rw [Nat.shiftLeft_eq] at this
  rw [Nat.or_comm, ← this, Nat.add_comm]
theorem wordE_val (s : List UInt8) : (wordE s).toNat = leNat s % 18446744073709551616 := by
  have b : ∀ k, (s.getD k 0).toNat < 256 := fun k => (s.getD k 0).toNat_lt
  have b0 := b 0; have b1 := b 1; have b2 := b 2; have b3 := b 3; have b4 := b 4; have b5 := b 5; have b6 := b 6; have b7 := b 7
  have hz : (0 : UInt64).toNat = 0 := rfl
  unfold wordE
  have e0 := or_step 0 (s.getD 0 0) 0 (by omega) (by rw [hz]; decide)
  have e1 := or_step _ (s.getD 1 0) 8 (by omega) (by rw [e0, hz]; simp only [Nat.reducePow]; omega)
  have e2 := or_step _ (s.getD 2 0) 16 (by omega) (by rw [e1, e0, hz]; simp only [Nat.reducePow]; omega)
  have e3 := or_step _ (s.getD 3 0) 24 (by omega) (by rw [e2, e1, e0, hz]; simp only [Nat.reducePow]; omega)
  have e4 := or_step _ (s.getD 4 0) 32 (by omega) (by rw [e3, e2, e1, e0, hz]; simp only [Nat.reducePow]; omega)
  have e5 := or_step _ (s.getD 5 0) 40 (by omega) (by rw [e4, e3, e2, e1, e0, hz]; simp only [Nat.reducePow]; omega)
  have e6 := or_step _ (s.getD 6 0) 48 (by omega) (by rw [e5, e4, e3, e2, e1, e0, hz]; simp only [Nat.reducePow]; omega)
  have e7 := or_step _ (s.getD 7 0) 56 (by omega) (by rw [e6, e5, e4, e3, e2, e1, e0, hz]; simp only [Nat.reducePow]; omega)
  rw [e7, e6, e5, e4, e3, e2, e1, e0, hz, byte_at s 0, byte_at s 1, byte_at s 2, byte_at s 3, byte_at s 4, byte_at s 5, byte_at s 6, byte_at s 7]
  simp only [Nat.reducePow]
  omega
theorem five_parts (V : Nat) : V % 2251799813685248 + 19 * (V / 57896044618658097711785492504343953926634992332820282019728792003956564819968) + 2251799813685248 * (V / 2251799813685248 % 2251799813685248) + 5070602400912917605986812821504 * (V / 5070602400912917605986812821504 % 2251799813685248) + 11417981541647679048466287755595961091061972992 * (V / 11417981541647679048466287755595961091061972992 % 2251799813685248) + 25711008708143844408671393477458601640355247900524685364822016 * (V / 25711008708143844408671393477458601640355247900524685364822016 % 2251799813685248) + Pq * (V / 57896044618658097711785492504343953926634992332820282019728792003956564819968) = V := by
  have d2 : V / 5070602400912917605986812821504 = V / 2251799813685248 / 2251799813685248 := by rw [Nat.div_div_eq_div_mul]
  have d3 : V / 11417981541647679048466287755595961091061972992 = V / 2251799813685248 / 2251799813685248 / 2251799813685248 := by rw [Nat.div_div_eq_div_mul, Nat.div_div_eq_div_mul]
  have d4 : V / 25711008708143844408671393477458601640355247900524685364822016 = V / 2251799813685248 / 2251799813685248 / 2251799813685248 / 2251799813685248 := by rw [Nat.div_div_eq_div_mul, Nat.div_div_eq_div_mul, Nat.div_div_eq_div_mul]
  have d5 : V / 57896044618658097711785492504343953926634992332820282019728792003956564819968 = V / 2251799813685248 / 2251799813685248 / 2251799813685248 / 2251799813685248 / 2251799813685248 := by rw [Nat.div_div_eq_div_mul, Nat.div_div_eq_div_mul, Nat.div_div_eq_div_mul, Nat.div_div_eq_div_mul]
  rw [d2, d3, d4, d5]
  unfold Pq
  omega
theorem zeroE_ok : zeroE.ok := ⟨by decide, by decide, by decide, by decide, by decide⟩
theorem ofE0_val (s : List UInt8) (h : s.length = 32) : (ofE0 s).val % Pq = leNat s % Pq := by
  have hv : leNat s < 115792089237316195423570985008687907853269984665640564039457584007913129639936 := by
    have := leNat_lt s
    rw [h] at this
    simpa using this
  have w0 := wordE_val s
  have w6 := wordE_val (s.drop 6)
  have w12 := wordE_val (s.drop 12)
  have w19 := wordE_val (s.drop 19)
  have w24 := wordE_val (s.drop 24)
  rw [leNat_drop] at w6 w12 w19 w24
  have b31 := byte_at s 31
  have d : ∀ m n : Nat, leNat s / m / n = leNat s / (m * n) := fun m n => Nat.div_div_eq_div_mul _ _ _
  have q : ∀ Q : Nat, Q % 18446744073709551616 / 8 % 2251799813685248 = Q / 8 % 2251799813685248 := fun Q => by omega
  have q6 : ∀ Q : Nat, Q % 18446744073709551616 / 64 % 2251799813685248 = Q / 64 % 2251799813685248 := fun Q => by omega
  have q1 : ∀ Q : Nat, Q % 18446744073709551616 / 2 % 2251799813685248 = Q / 2 % 2251799813685248 := fun Q => by omega
  have q12 : ∀ Q : Nat, Q % 18446744073709551616 / 4096 % 2251799813685248 = Q / 4096 % 2251799813685248 := fun Q => by omega
  have q0 : ∀ Q : Nat, Q % 18446744073709551616 % 2251799813685248 = Q % 2251799813685248 := fun Q => by omega
  have h31 : leNat s / 256 ^ 31 < 256 := by
    apply Nat.div_lt_of_lt_mul
    rw [show (256 : Nat) ^ 31 * 256 = 115792089237316195423570985008687907853269984665640564039457584007913129639936 by decide]
    exact hv
  have e0 : ((wordE s &&& m51) + 19 * (shr_u8 (s.getD 31 0) 7).toUInt64).toNat = leNat s % 2251799813685248 + 19 * (leNat s / 57896044618658097711785492504343953926634992332820282019728792003956564819968) := by
    have ed : leNat s / 57896044618658097711785492504343953926634992332820282019728792003956564819968 = leNat s / 256 ^ 31 / 128 := by
      rw [d]
    rw [UInt64.toNat_add, UInt64.toNat_mul, n19, UInt8.toNat_toUInt64, shr_u8_nat _ 7 (by omega), and51, w0, b31, Nat.mod_eq_of_lt h31, ed, q0]
    generalize leNat s / 256 ^ 31 = Q at *
    have := Nat.mod_lt (leNat s) (show 0 < 2251799813685248 by omega)
    generalize leNat s % 2251799813685248 = R at *
    simp only [Nat.reducePow]
    omega
  have e1 : (shr_u64 (wordE (s.drop 6)) 3 &&& m51).toNat = leNat s / 2251799813685248 % 2251799813685248 := by
    rw [and51, shr_u64_nat _ 3 (by omega), w6]
    show leNat s / 256 ^ 6 % 18446744073709551616 / 8 % 2251799813685248 = _
    rw [q, d]
  have e2 : (shr_u64 (wordE (s.drop 12)) 6 &&& m51).toNat = leNat s / 5070602400912917605986812821504 % 2251799813685248 := by
    rw [and51, shr_u64_nat _ 6 (by omega), w12]
    show leNat s / 256 ^ 12 % 18446744073709551616 / 64 % 2251799813685248 = _
    rw [q6, d]
  have e3 : (shr_u64 (wordE (s.drop 19)) 1 &&& m51).toNat = leNat s / 11417981541647679048466287755595961091061972992 % 2251799813685248 := by
    rw [and51, shr_u64_nat _ 1 (by omega), w19]
    show leNat s / 256 ^ 19 % 18446744073709551616 / 2 % 2251799813685248 = _
    rw [q1, d]
  have e4 : (shr_u64 (wordE (s.drop 24)) 12 &&& m51).toNat = leNat s / 25711008708143844408671393477458601640355247900524685364822016 % 2251799813685248 := by
    rw [and51, shr_u64_nat _ 12 (by omega), w24]
    show leNat s / 256 ^ 24 % 18446744073709551616 / 4096 % 2251799813685248 = _
    rw [q12, d]
  have ev : (ofE0 s).val + Pq * (leNat s / 57896044618658097711785492504343953926634992332820282019728792003956564819968) = leNat s := by
    have ed : (ofE0 s).val = leNat s % 2251799813685248 + 19 * (leNat s / 57896044618658097711785492504343953926634992332820282019728792003956564819968) + 2251799813685248 * (leNat s / 2251799813685248 % 2251799813685248) + 5070602400912917605986812821504 * (leNat s / 5070602400912917605986812821504 % 2251799813685248) + 11417981541647679048466287755595961091061972992 * (leNat s / 11417981541647679048466287755595961091061972992 % 2251799813685248) + 25711008708143844408671393477458601640355247900524685364822016 * (leNat s / 25711008708143844408671393477458601640355247900524685364822016 % 2251799813685248) := by
      rw [← e0, ← e1, ← e2, ← e3, ← e4]
      rfl
    rw [ed]
    exact five_parts _
  rw [← ev, Nat.add_mul_mod_self_left]
theorem ofEl_ok (s : List UInt8) : (ofEl s).ok := by
  unfold ofEl
  cases isLen s 32
  · exact zeroE_ok
  · exact carried_ok _
theorem ofEl_val {s : List UInt8} (h : isLen s 32 = true) : (ofEl s).val % Pq = leNat s % Pq := by
  unfold ofEl
  rw [h, cond_true, carried_mod, ofE0_val s (isLen_eq.1 h)]
theorem ofEr_eq (s : List UInt8) : (ofEr s == 0) = isLen s 32 := by
  unfold ofEr
  cases isLen s 32 <;> rfl
theorem zeroE_val : zeroE.val = 0 := by decide
theorem smallE_val (n : UInt32) : (smallE n).ok ∧ (smallE n).val = n.toNat := by
  have h := n.toNat_lt
  simp only [Nat.reducePow] at h
  have hz : (0 : UInt64).toNat = 0 := rfl
  unfold E5.ok E5.val smallE
  simp only [UInt32.toNat_toUInt64, hz]
  omega
theorem eqE_eq (a b : E5) : eqE a b = decide (a = b) := by
  obtain ⟨a0, a1, a2, a3, a4⟩ := a
  obtain ⟨b0, b1, b2, b3, b4⟩ := b
  rw [Bool.eq_iff_iff]
  simp [eqE]
theorem sameE_eq (a b : E5) : sameE a b = decide (a.val % Pq = b.val % Pq) := by
  obtain ⟨h1, h2⟩ := reduced_val a
  obtain ⟨k1, k2⟩ := reduced_val b
  unfold sameE
  rw [eqE_eq, decide_eq_decide, ← h2, ← k2]
  exact ⟨fun h => by rw [h], fun h => E5.ext_val h1 k1 h⟩
theorem oddE_eq (a : E5) : oddE a = decide (a.val % Pq % 2 = 1) := by
  obtain ⟨h1, h2⟩ := reduced_val a
  unfold oddE
  rw [← h2, Bool.eq_iff_iff, beq_iff_eq, decide_eq_true_iff, ← UInt64.toNat_inj, and_nat _ 1 1 rfl]
  unfold E5.val
  have h11 : (1 : UInt64).toNat = 1 := rfl
  rw [h11]
  simp only [Nat.reducePow]
  omega
end Go.Num
