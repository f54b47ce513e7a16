/- The document's reduction modulo 2^255 - 19. -/
import Derived.Test.YtkgbpnihbamceaaNum7
import Derived.Test.YtkgbpnihbamceaaNum5
namespace Go.Num
set_option linter.unusedVariables false
set_option linter.unusedSimpArgs false
open Go Go.Eng
def Pq : Nat := 57896044618658097711785492504343953926634992332820282019728792003956564819949
theorem Pq_pos : 0 < Pq := by decide
theorem primeN_ok : primeN.ok := by
  rw [N16.ok, ok16_iff]
  decide
theorem primeN_val : primeN.val = Pq := by kernel_rfl
theorem bndL_iff {l : List UInt64} : bndL l = true ↔ ∀ x ∈ l, x.toNat < 281474976710656 := by
  unfold bndL
  rw [List.all_eq_true]
  constructor
  · intro h x hx
    have := h x hx
    rw [decide_eq_true_iff, UInt64.lt_iff_toNat_lt] at this
    exact this
  · intro h x hx
    rw [decide_eq_true_iff, UInt64.lt_iff_toNat_lt]
    exact h x hx
theorem okB_iff {a : N16} : okB a = true ↔ a.ok := by
  unfold okB N16.ok
  rw [List.all_eq_true, ok16_iff]
  constructor
  · intro h x hx
    have := h x hx
    rw [decide_eq_true_iff, UInt64.lt_iff_toNat_lt] at this
    exact this
  · intro h x hx
    rw [decide_eq_true_iff, UInt64.lt_iff_toNat_lt]
    exact h x hx
theorem carryL_len : ∀ (l : List UInt64) (c : UInt64), (carryL l c).1.length = l.length
  | [], _ => rfl
  | x :: l, c => by simp only [carryL, List.length_cons, carryL_len l]
theorem carryL_val : ∀ (l : List UInt64) (c : UInt64), (∀ x ∈ l, x.toNat < 281474976710656) → c.toNat < 281474976710656 → ok16 (carryL l c).1 ∧ val16 (carryL l c).1 + 65536 ^ l.length * (carryL l c).2.toNat = val16 l + c.toNat ∧ (carryL l c).2.toNat < 281474976710656
  | [], c, _, hc => ⟨trivial, by simp [carryL, val16], hc⟩
  | x :: l, c, h, hc => by
    have hx := h x List.mem_cons_self
    have e : (x + c).toNat = x.toNat + c.toNat := by
      rw [UInt64.toNat_add]
      simp only [Nat.reducePow]
      omega
    have hlo := low16 (x + c)
    have hhi := high16 (x + c)
    rw [e] at hlo hhi
    obtain ⟨o, hk, hb⟩ := carryL_val l (shr_u64 (x + c) 16) (fun y hy => h y (List.mem_cons_of_mem _ hy)) (by omega)
    refine ⟨⟨by omega, o⟩, ?_, hb⟩
    simp only [carryL, val16, List.length_cons, Nat.pow_succ]
    rw [hhi] at hk
    rw [hlo]
    have : 65536 ^ l.length * 65536 * (carryL l (shr_u64 (x + c) 16)).2.toNat = 65536 * (65536 ^ l.length * (carryL l (shr_u64 (x + c) 16)).2.toNat) := by rw [Nat.mul_right_comm, Nat.mul_comm]
    rw [this]
    generalize 65536 ^ l.length * (carryL l (shr_u64 (x + c) 16)).2.toNat = q at *
    omega
theorem carryL_same : ∀ (l : List UInt64), ok16 l → carryL l 0 = (l, 0)
  | [], _ => rfl
  | x :: l, h => by
    have hx := h.1
    have e0 : x + 0 = x := by simp
    have e1 : x &&& 65535 = x := UInt64.toNat_inj.1 (by rw [low16]; omega)
    have e2 : shr_u64 x 16 = 0 := UInt64.toNat_inj.1 (by rw [high16]; show _ = 0; omega)
    simp only [carryL, e0, e1, e2, carryL_same l h.2]
theorem foldL_val : ∀ (l m : List UInt64), l.length = m.length → ok16 l → ok16 m → val16 (foldL l m) = val16 l + 38 * val16 m ∧ (foldL l m).length = l.length ∧ ∀ x ∈ foldL l m, x.toNat < 2621440
  | [], [], _, _, _ => ⟨rfl, rfl, by simp [foldL]⟩
  | [], _ :: _, h, _, _ => by cases h
  | _ :: _, [], h, _, _ => by cases h
  | x :: l, y :: m, h, h1, h2 => by
    obtain ⟨e, el, b⟩ := foldL_val l m (by simpa using h) h1.2 h2.2
    have hx := h1.1
    have hy := h2.1
    have es : (x + 38 * y).toNat = x.toNat + 38 * y.toNat := by
      rw [UInt64.toNat_add, UInt64.toNat_mul]
      have e38 : (38 : UInt64).toNat = 38 := rfl
      rw [e38]
      simp only [Nat.reducePow]
      omega
    refine ⟨by simp only [foldL, val16, es, e]; omega, by simp only [foldL, List.length_cons, el], fun z hz => ?_⟩
    simp only [foldL, List.mem_cons] at hz
    rcases hz with rfl | hz
    · omega
    · exact b z hz
theorem ok16_take : ∀ {l : List UInt64} (n : Nat), ok16 l → ok16 (l.take n) := fun {l} n h => ok16_iff.2 fun x hx => ok16_iff.1 h x (List.mem_of_mem_take hx)
theorem ok16_drop : ∀ {l : List UInt64} (n : Nat), ok16 l → ok16 (l.drop n) := fun {l} n h => ok16_iff.2 fun x hx => ok16_iff.1 h x (List.mem_of_mem_drop hx)
theorem N32.list_len (t : N32) : t.list.length = 32 := rfl
def N32.val (t : N32) : Nat := val16 t.list
theorem pow32 : (65536 : Nat) ^ 32 = 13407807929942597099574024998205846127479365820592393377723561443721764030073546976801874298166903427690031858186486050853753882811946569946433649006084096 := by decide
/-- One pass: what is above 2^256 comes back 38 times. -/
theorem pass1_val (t : N32) (h : ∀ x ∈ t.list, x.toNat < 281474976710656) :
    (pass1 t).lo.val = t.val % 65536 ^ 16 + 38 * (t.val / 65536 ^ 16 % 65536 ^ 16) + 1444 * (t.val / 65536 ^ 32) ∧ (pass1 t).hi = zeroN ∧ t.val / 65536 ^ 32 < 281474976710656 ∧
    (∀ x ∈ (pass1 t).lo.list, x.toNat < 2621440 + 1444 * (t.val / 65536 ^ 32)) := by
  obtain ⟨o, hv, hc⟩ := carryL_val t.list 0 h (by decide)
  have hz : (0 : UInt64).toNat = 0 := rfl
  rw [hz, Nat.add_zero, t.list_len] at hv
  have hlen : (carryL t.list 0).1.length = 32 := by rw [carryL_len]; rfl
  generalize hr : carryL t.list 0 = r at *
  obtain ⟨r1, c⟩ := r
  simp only at o hv hc hlen
  have hlt := val16_lt o
  rw [hlen] at hlt
  have hsplit : val16 r1 = val16 (r1.take 16) + 65536 ^ 16 * val16 (r1.drop 16) := by
    have e := val16_append (r1.take 16) (r1.drop 16)
    rw [List.take_append_drop] at e
    rw [e, List.length_take, hlen]
    rfl
  have l1 : (r1.take 16).length = 16 := by rw [List.length_take, hlen]; rfl
  have l2 : (r1.drop 16).length = 16 := by rw [List.length_drop, hlen]
  have b1 := val16_lt (ok16_take 16 o)
  have b2 := val16_lt (ok16_drop 16 o)
  rw [l1] at b1
  rw [l2] at b2
  obtain ⟨fv, fl, fb⟩ := foldL_val (r1.take 16) (r1.drop 16) (by rw [l1, l2]) (ok16_take 16 o) (ok16_drop 16 o)
  have hval : t.val = val16 r1 + 65536 ^ 32 * c.toNat := hv.symm
  have d32 : t.val / 65536 ^ 32 = c.toNat := by
    rw [hval, pow32] at *
    omega
  have d16 : t.val % 65536 ^ 16 = val16 (r1.take 16) ∧ t.val / 65536 ^ 16 % 65536 ^ 16 = val16 (r1.drop 16) := by
    rw [hval, hsplit]
    rw [pow16] at *
    rw [pow32] at *
    omega
  rw [d32, d16.1, d16.2]
  have e1444 : (1444 : UInt64).toNat = 1444 := rfl
  have hm : (1444 * c).toNat = 1444 * c.toNat := by
    rw [UInt64.toNat_mul, e1444]
    simp only [Nat.reducePow]
    omega
  have hp : pass1 t = ⟨N16.ofL (headL (foldL (r1.take 16) (r1.drop 16)) fun x => x + 1444 * c), zeroN⟩ := by
    unfold pass1
    rw [hr]
  rw [hp]
  generalize hf : foldL (r1.take 16) (r1.drop 16) = f at *
  rw [l1] at fl
  cases f with
  | nil => cases fl
  | cons x f =>
    have hx := fb x List.mem_cons_self
    have es : (x + 1444 * c).toNat = x.toNat + 1444 * c.toNat := by
      rw [UInt64.toNat_add, hm]
      simp only [Nat.reducePow]
      omega
    have hl : (N16.ofL (headL (x :: f) fun x => x + 1444 * c)).list = (x + 1444 * c) :: f := list_ofL (by simp only [headL, List.length_cons] at fl ⊢; exact fl)
    refine ⟨?_, rfl, hc, fun y hy => ?_⟩
    · unfold N16.val
      simp only
      rw [hl]
      simp only [val16] at fv ⊢
      rw [es]
      omega
    · simp only at hy
      rw [hl] at hy
      rcases List.mem_cons.1 hy with rfl | hy
      · omega
      · have := fb y (List.mem_cons_of_mem _ hy)
        omega
theorem mod38 (a b c : Nat) : (a + 38 * b + 1444 * c) % Pq = (a + 65536 ^ 16 * b + 65536 ^ 32 * c) % Pq := by
  have e1 : (65536 : Nat) ^ 16 = 2 * Pq + 38 := by decide
  have e2 : (65536 : Nat) ^ 32 = (2 * (2 * Pq) + 152) * Pq + 1444 := by decide
  rw [e1, e2]
  have : a + (2 * Pq + 38) * b + ((2 * (2 * Pq) + 152) * Pq + 1444) * c = (a + 38 * b + 1444 * c) + Pq * (2 * b + (2 * (2 * Pq) + 152) * c) := by
    rw [Nat.mul_add, Nat.add_mul, Nat.add_mul]
    have h1 : Pq * (2 * b) = 2 * Pq * b := by rw [Nat.mul_left_comm, Nat.mul_assoc]
    have h2 : Pq * ((2 * (2 * Pq) + 152) * c) = (2 * (2 * Pq) + 152) * Pq * c := by rw [← Nat.mul_assoc, Nat.mul_comm Pq]
    rw [h1, h2]
    omega
  rw [this, Nat.add_mul_mod_self_left]
theorem split3 (V B : Nat) : V % B + B * (V / B % B) + B * B * (V / (B * B)) = V := by
  have h1 := Nat.div_add_mod V B
  have h2 := Nat.div_add_mod (V / B) B
  rw [Nat.div_div_eq_div_mul] at h2
  have h3 : B * (B * (V / (B * B)) + V / B % B) = B * (V / B) := by rw [h2]
  rw [Nat.mul_add, ← Nat.mul_assoc] at h3
  omega
theorem pow32s : (65536 : Nat) ^ 32 = 65536 ^ 16 * 65536 ^ 16 := by decide
theorem pass1_mod (t : N32) (h : ∀ x ∈ t.list, x.toNat < 281474976710656) : (pass1 t).lo.val % Pq = t.val % Pq := by
  rw [(pass1_val t h).1, mod38, pow32s, split3]
theorem N32.val_lo (n : N16) : N32.val ⟨n, zeroN⟩ = n.val := by
  unfold N32.val N32.list
  have e : val16 zeroN.list = 0 := by kernel_rfl
  rw [val16_append, e, Nat.mul_zero, Nat.add_zero]; rfl
theorem N32.mem_lo {n : N16} {B : Nat} (h : ∀ x ∈ n.list, x.toNat < B) (hB : 0 < B) : ∀ x ∈ N32.list ⟨n, zeroN⟩, x.toNat < B := fun x hx => by
  rcases List.mem_append.1 hx with hx | hx
  · exact h x hx
  · have : x = 0 := by
      simp only [zeroN, N16.list, List.mem_cons, List.not_mem_nil, or_false] at hx
      rcases hx with h | h | h | h | h | h | h | h | h | h | h | h | h | h | h | h <;> exact h
    rw [this]; exact hB
theorem pass2_same (n : N16) (h : n.ok) : pass2 n = n := by
  unfold pass2
  rw [carryL_same _ h]
  obtain ⟨a0, a1, a2, a3, a4, a5, a6, a7, a8, a9, a10, a11, a12, a13, a14, a15⟩ := n
  simp [headL, N16.list, N16.ofL]
theorem val16_bound : ∀ (l : List UInt64) (B : Nat), (∀ x ∈ l, x.toNat ≤ B) → 65535 * val16 l + B ≤ B * 65536 ^ l.length
  | [], B, _ => by simp [val16]
  | x :: l, B, h => by
    have ih := val16_bound l B fun y hy => h y (List.mem_cons_of_mem _ hy)
    have hx := h x List.mem_cons_self
    simp only [val16, List.length_cons, Nat.pow_succ]
    have : B * (65536 ^ l.length * 65536) = 65536 * (B * 65536 ^ l.length) := by rw [← Nat.mul_assoc, Nat.mul_comm]
    rw [this]
    generalize B * 65536 ^ l.length = q at *
    omega
theorem headL_len (l : List UInt64) (f : UInt64 → UInt64) : (headL l f).length = l.length := by
  cases l <;> rfl
theorem foldL_zero : ∀ (l m : List UInt64), l.length = m.length → val16 m = 0 → foldL l m = l
  | [], [], _, _ => rfl
  | [], _ :: _, h, _ => by cases h
  | _ :: _, [], h, _ => by cases h
  | x :: l, y :: m, h, hv => by
    simp only [val16] at hv
    have hy : y = 0 := UInt64.toNat_inj.1 (show y.toNat = 0 by omega)
    have hs : x + 38 * 0 = x := by simp
    simp only [foldL, hy, hs, foldL_zero l m (by simpa using h) (by omega)]
theorem third_ok (A B : List UInt64) (l1 : A.length = 16) (l2 : B.length = 16) (ot : ok16 A) (hv : val16 A + 115792089237316195423570985008687907853269984665640564039457584007913129639936 * val16 B < 115792089237316195423570985008687907853269984665640564039457584007913129639936 + 38 * 40) : ok16 (headL (foldL A B) fun x => x + 1444 * 0) := by
  cases A with
  | nil => cases l1
  | cons a0 A =>
    cases B with
    | nil => cases l2
    | cons b0 B =>
      have ha := ot.1
      simp only [val16] at hv
      have hB : val16 B = 0 := by omega
      have hf : foldL (a0 :: A) (b0 :: B) = (a0 + 38 * b0) :: A := by
        simp only [foldL]
        rw [foldL_zero A B (by simp only [List.length_cons] at l1 l2; omega) hB]
      rw [hf]
      refine ⟨?_, ot.2⟩
      have hz : (a0 + 38 * b0 + 1444 * 0) = a0 + 38 * b0 := by simp
      show (a0 + 38 * b0 + 1444 * 0).toNat < 65536
      rw [hz, UInt64.toNat_add, UInt64.toNat_mul]
      have e38 : (38 : UInt64).toNat = 38 := rfl
      rw [e38]
      simp only [Nat.reducePow]
      have hb0 : b0.toNat = 0 ∨ b0.toNat = 1 := by omega
      rcases hb0 with hb | hb
      · rw [hb]; omega
      · rw [hb] at hv ⊢
        omega
theorem pass1_eq (u : N32) : pass1 u = ⟨N16.ofL (headL (foldL ((carryL u.list 0).1.take 16) ((carryL u.list 0).1.drop 16)) fun x => x + 1444 * (carryL u.list 0).2), zeroN⟩ := rfl
set_option maxHeartbeats 4000000 in
/-- All passes: below 2^256, and the same modulo the prime. -/
theorem passes_val (t : N32) (h : ∀ x ∈ t.list, x.toNat < 281474976710656) : (passes t).lo.ok ∧ (passes t).lo.val % Pq = t.val % Pq := by
  obtain ⟨v1, z1, c1, b1⟩ := pass1_val t h
  have m1 := pass1_mod t h
  have hb := val16_bound t.list 281474976710655 (fun x hx => by have := h x hx; omega)
  rw [t.list_len, pow32] at hb
  have hd : t.val / 65536 ^ 32 < 8589934593 := by
    have hv : t.val = val16 t.list := rfl
    rw [pow32, hv]
    omega
  have e1 : pass1 t = ⟨(pass1 t).lo, zeroN⟩ := by rw [← z1]
  have h1 : ∀ x ∈ (pass1 t).list, x.toNat < 281474976710656 := by
    rw [e1]
    refine N32.mem_lo (fun x hx => ?_) (by omega)
    have := b1 x hx
    omega
  have w1 : (pass1 t).val = (pass1 t).lo.val := by
    conv => lhs; rw [e1]
    exact N32.val_lo _
  obtain ⟨v2, z2, c2, b2⟩ := pass1_val (pass1 t) h1
  have m2 := pass1_mod (pass1 t) h1
  have hv1 : (pass1 t).lo.val < 40 * 115792089237316195423570985008687907853269984665640564039457584007913129639936 := by
    have r1 := Nat.mod_lt t.val (show 0 < 65536 ^ 16 by decide)
    have r2 := Nat.mod_lt (t.val / 65536 ^ 16) (show 0 < 65536 ^ 16 by decide)
    rw [v1]
    generalize t.val % 65536 ^ 16 = A at *
    generalize t.val / 65536 ^ 16 % 65536 ^ 16 = B at *
    generalize t.val / 65536 ^ 32 = C at *
    rw [pow16] at r1 r2
    omega
  have q2 : (pass1 t).val / 65536 ^ 32 = 0 := by
    rw [w1]
    exact Nat.div_eq_of_lt (by rw [pow32]; omega)
  rw [q2, Nat.mul_zero, Nat.add_zero] at v2 b2
  have hv2 : (pass1 (pass1 t)).lo.val < 115792089237316195423570985008687907853269984665640564039457584007913129639936 + 38 * 40 := by
    have r1 := Nat.mod_lt (pass1 t).lo.val (show 0 < 65536 ^ 16 by decide)
    have r2 : (pass1 t).lo.val / 65536 ^ 16 < 40 := Nat.div_lt_of_lt_mul (by rw [pow16]; omega)
    rw [v2, w1, Nat.mod_eq_of_lt (Nat.lt_trans r2 (by rw [pow16]; omega))]
    generalize (pass1 t).lo.val % 65536 ^ 16 = A at *
    generalize (pass1 t).lo.val / 65536 ^ 16 = B at *
    rw [pow16] at r1
    omega
  have e2 : pass1 (pass1 t) = ⟨(pass1 (pass1 t)).lo, zeroN⟩ := by rw [← z2]
  have h2 : ∀ x ∈ (pass1 (pass1 t)).list, x.toNat < 281474976710656 := by
    rw [e2]
    refine N32.mem_lo (fun x hx => ?_) (by omega)
    have := b2 x hx
    omega
  have w2 : (pass1 (pass1 t)).val = (pass1 (pass1 t)).lo.val := by
    conv => lhs; rw [e2]
    exact N32.val_lo _
  obtain ⟨v3, z3, c3, b3⟩ := pass1_val (pass1 (pass1 t)) h2
  have m3 := pass1_mod (pass1 (pass1 t)) h2
  have q3 : (pass1 (pass1 t)).val / 65536 ^ 32 = 0 := by
    rw [w2]
    exact Nat.div_eq_of_lt (by rw [pow32]; omega)
  rw [q3, Nat.mul_zero, Nat.add_zero] at v3 b3
  have hv3 : (pass1 (pass1 (pass1 t))).lo.val < 115792089237316195423570985008687907853269984665640564039457584007913129639936 := by
    have r1 := Nat.mod_lt (pass1 (pass1 t)).lo.val (show 0 < 65536 ^ 16 by decide)
    have r2 : (pass1 (pass1 t)).lo.val / 65536 ^ 16 < 2 := Nat.div_lt_of_lt_mul (by rw [pow16]; omega)
    have r3 := Nat.div_add_mod (pass1 (pass1 t)).lo.val (65536 ^ 16)
    rw [v3, w2, Nat.mod_eq_of_lt (Nat.lt_trans r2 (by rw [pow16]; omega))]
    generalize (pass1 (pass1 t)).lo.val % 65536 ^ 16 = A at *
    generalize (pass1 (pass1 t)).lo.val / 65536 ^ 16 = B at *
    rw [pow16] at r1 r3
    have hB : B = 0 ∨ B = 1 := by omega
    rcases hB with rfl | rfl <;> omega
  have mm : (pass1 (pass1 (pass1 t))).lo.val % Pq = t.val % Pq := by rw [m3, w2, m2, w1, m1]
  have o3 : (pass1 (pass1 (pass1 t))).lo.ok := by
    -- the parts by themselves
    obtain ⟨o, hv, hc⟩ := carryL_val (pass1 (pass1 t)).list 0 h2 (by decide)
    have hz : (0 : UInt64).toNat = 0 := rfl
    rw [hz, Nat.add_zero, N32.list_len] at hv
    have hlen : (carryL (pass1 (pass1 t)).list 0).1.length = 32 := by rw [carryL_len]; rfl
    generalize hr : carryL (pass1 (pass1 t)).list 0 = r at *
    obtain ⟨r1, c⟩ := r
    simp only at o hv hc hlen
    have hvv : val16 (pass1 (pass1 t)).list = (pass1 (pass1 t)).lo.val := w2
    have hc0 : c.toNat = 0 := by
      rw [hvv, pow32] at hv
      omega
    rw [hc0, Nat.mul_zero, Nat.add_zero, hvv] at hv
    have hsplit : val16 r1 = val16 (r1.take 16) + 65536 ^ 16 * val16 (r1.drop 16) := by
      have e := val16_append (r1.take 16) (r1.drop 16)
      rw [List.take_append_drop] at e
      rw [e, List.length_take, hlen]
      rfl
    have l1 : (r1.take 16).length = 16 := by rw [List.length_take, hlen]; rfl
    have l2 : (r1.drop 16).length = 16 := by rw [List.length_drop, hlen]
    have ot := ok16_take 16 o
    have od := ok16_drop 16 o
    have bt := val16_lt ot
    rw [l1] at bt
    have hp : pass1 (pass1 (pass1 t)) = ⟨N16.ofL (headL (foldL (r1.take 16) (r1.drop 16)) fun x => x + 1444 * c), zeroN⟩ := by
      rw [pass1_eq, hr]
    have hcz : c = 0 := UInt64.toNat_inj.1 hc0
    rw [hp]
    have ht := third_ok (r1.take 16) (r1.drop 16) l1 l2 ot (by rw [pow16] at hsplit; omega)
    rw [hcz]
    unfold N16.ok
    have hfl := (foldL_val (r1.take 16) (r1.drop 16) (by rw [l1, l2]) ot od).2.1
    have hll : (N16.ofL (headL (foldL (r1.take 16) (r1.drop 16)) fun x => x + 1444 * 0)).list = headL (foldL (r1.take 16) (r1.drop 16)) fun x => x + 1444 * 0 := list_ofL (by rw [headL_len, hfl, l1])
    rw [hll]
    exact ht
  have p3 : ∀ u : N32, u.lo.ok → (pass3 u).lo = u.lo := fun u hu => by
    show pass2 u.lo = u.lo
    exact pass2_same _ hu
  have f1 := p3 _ o3
  have f2 := p3 (pass3 (pass1 (pass1 (pass1 t)))) (by rw [f1]; exact o3)
  have f3 := p3 (pass3 (pass3 (pass1 (pass1 (pass1 t))))) (by rw [f2, f1]; exact o3)
  have ff : (passes t).lo = (pass1 (pass1 (pass1 t))).lo := by
    show (pass3 (pass3 (pass3 (pass1 (pass1 (pass1 t)))))).lo = _
    rw [f3, f2, f1]
  rw [ff]
  exact ⟨o3, mm⟩
theorem downN_val (n : N16) (h : n.ok) : (downN n).ok ∧ (downN n).val % Pq = n.val % Pq ∧ (downN n).val = if n.val < Pq then n.val else n.val - Pq := by
  unfold downN
  rw [lessN_eq _ _ h primeN_ok, primeN_val]
  by_cases hl : n.val < Pq
  · rw [decide_eq_true hl, cond_true, if_pos hl]
    exact ⟨h, rfl, rfl⟩
  · rw [decide_eq_false hl, cond_false, if_neg hl]
    obtain ⟨o, e⟩ := minusN_val n primeN h primeN_ok (by rw [primeN_val]; omega)
    rw [primeN_val] at e
    refine ⟨o, ?_, e⟩
    rw [e]
    exact (Nat.mod_eq_sub_mod (by omega)).symm
theorem redN_val (t : N32) (h : bndL t.list = true) : (redN t).ok ∧ (redN t).val = t.val % Pq := by
  obtain ⟨o, m⟩ := passes_val t (bndL_iff.1 h)
  have hlt := N16.val_lt o
  rw [pow16] at hlt
  obtain ⟨o1, m1, e1⟩ := downN_val _ o
  obtain ⟨o2, m2, e2⟩ := downN_val _ o1
  refine ⟨o2, ?_⟩
  have hl : (redN t).val < Pq := by
    unfold redN
    rw [e2]
    by_cases q2 : (downN (passes t).lo).val < Pq
    · rw [if_pos q2]; exact q2
    · rw [if_neg q2]
      by_cases q1 : (passes t).lo.val < Pq
      · rw [e1, if_pos q1] at q2; exact absurd q1 q2
      · rw [e1, if_neg q1]
        unfold Pq
        omega
  rw [← m, ← m1, ← m2]
  exact (Nat.mod_eq_of_lt hl).symm
theorem redN_lt (t : N32) (h : bndL t.list = true) : (redN t).val < Pq := by rw [(redN_val t h).2]; exact Nat.mod_lt _ Pq_pos
theorem redN_less (t : N32) (h : bndL t.list = true) : lessN (downN (downN (passes t).lo)) primeN = true := by
  have := redN_lt t h
  show lessN (redN t) primeN = true
  rw [lessN_eq _ _ (redN_val t h).1 primeN_ok, primeN_val, decide_eq_true_iff]
  exact this
end Go.Num
namespace Go.Num
set_option linter.unusedVariables false
set_option linter.unusedSimpArgs false
open Go Go.Eng
/-! ### the document's sums, products, powers -/
theorem bnd_of {n : N16} {B : Nat} (h : ∀ x ∈ n.list, x.toNat < B) (hB : B ≤ 281474976710656) (h0 : 0 < B) : bndL (N32.list ⟨n, zeroN⟩) = true :=
  bndL_iff.2 (N32.mem_lo (fun x hx => Nat.lt_of_lt_of_le (h x hx) hB) (by omega))
theorem wide_bnd (a : N16) (h : a.ok) : bndL (wideN a).list = true := bnd_of (B := 65536) (ok16_iff.1 h) (by omega) (by omega)
theorem ofP_bnd {s : List UInt8} (h : s.length = 32) : bndL (wideN (partsN s)).list = true := wide_bnd _ (partsN_val s h).1
theorem ofP_val {s : List UInt8} (h : s.length = 32) : (ofP s).ok ∧ (ofP s).val = leNat s % Pq := by
  obtain ⟨o, e⟩ := redN_val _ (ofP_bnd h)
  refine ⟨o, ?_⟩
  unfold ofP
  rw [e, wideN, N32.val_lo, (partsN_val s h).2]
theorem addP_bnd (a b : N16) (ha : a.ok) (hb : b.ok) : bndL (N32.list ⟨N16.ofL (sumL a.list b.list), zeroN⟩) = true ∧ (N16.ofL (sumL a.list b.list)).val = a.val + b.val := by
  obtain ⟨e, el, bd⟩ := sumL_val a.list b.list rfl ha hb
  have hl : (N16.ofL (sumL a.list b.list)).list = sumL a.list b.list := list_ofL (by rw [el]; rfl)
  refine ⟨bnd_of (B := 281474976710656) (by rw [hl]; exact bd) (by omega) (by omega), ?_⟩
  unfold N16.val
  rw [hl, e]
theorem addP_val (a b : N16) (ha : a.ok) (hb : b.ok) : (addP a b).ok ∧ (addP a b).val = (a.val + b.val) % Pq := by
  obtain ⟨h1, h2⟩ := addP_bnd a b ha hb
  obtain ⟨o, e⟩ := redN_val _ h1
  refine ⟨o, ?_⟩
  unfold addP
  rw [e, N32.val_lo, h2]
theorem mulP_bnd (a b : N16) (ha : a.ok) (hb : b.ok) : bndL (prodT a b).list = true ∧ (prodT a b).val = a.val * b.val := by
  obtain ⟨e, el, bd⟩ := prodL_val a.list b.list (List.replicate 32 0) 0 ha hb (by show 0 < 16; decide) (by show 16 + 16 ≤ 32; decide) (fun y hy => by rw [List.mem_replicate] at hy; rw [hy.2]; decide) (by show 0 + 16 * 4294836225 < 4611686018427387904; decide)
  rw [val16_zeros, Nat.zero_add] at e
  have hlen : (prodL a.list b.list (List.replicate 32 0)).length = 32 := by rw [el]; rfl
  have hp : prodT a b = ⟨N16.ofL ((prodL a.list b.list (List.replicate 32 0)).take 16), N16.ofL ((prodL a.list b.list (List.replicate 32 0)).drop 16)⟩ := rfl
  have hl : (prodT a b).list = prodL a.list b.list (List.replicate 32 0) := by
    rw [hp]
    unfold N32.list
    simp only
    rw [list_ofL (by rw [List.length_take, hlen]; rfl), list_ofL (by rw [List.length_drop, hlen]), List.take_append_drop]
  refine ⟨?_, ?_⟩
  · rw [hl, bndL_iff]
    intro x hx
    have := bd x hx
    have hal : a.list.length = 16 := rfl
    rw [hal] at this
    omega
  · unfold N32.val
    rw [hl, e]; rfl
theorem mulP_val (a b : N16) (ha : a.ok) (hb : b.ok) : (mulP a b).ok ∧ (mulP a b).val = a.val * b.val % Pq := by
  obtain ⟨h1, h2⟩ := mulP_bnd a b ha hb
  obtain ⟨o, e⟩ := redN_val _ h1
  refine ⟨o, ?_⟩
  unfold mulP
  rw [e, h2]
theorem minusN_ok (a b : N16) (ha : a.ok) (hb : b.ok) : (minusN a b).ok := by
  obtain ⟨o, _⟩ := minusL_val a.list b.list 0 rfl ha hb (by decide)
  have e : (minusN a b).list = minusL a.list b.list 0 := list_ofL (by rw [minusL_len a.list b.list 0 rfl]; rfl)
  unfold N16.ok; rw [e]; exact o
theorem negP_ok (a : N16) (h : a.ok) : (negP a).ok := by
  unfold negP
  cases isZ16 a
  · exact minusN_ok _ _ primeN_ok h
  · exact h
theorem negP_val (a : N16) (h : a.ok) (hv : a.val < Pq) : (negP a).ok ∧ (negP a).val = (Pq - a.val) % Pq := by
  refine ⟨negP_ok a h, ?_⟩
  unfold negP
  rw [isZ16_eq]
  by_cases hz : a = zeroN
  · rw [decide_eq_true hz, cond_true, hz, zeroN_val, Nat.sub_zero, Nat.mod_self]
  · rw [decide_eq_false hz, cond_false]
    have hne : a.val ≠ 0 := fun e => hz (N16.ext_val h zeroN_ok (by rw [e, zeroN_val]))
    obtain ⟨_, e⟩ := minusN_val primeN a primeN_ok h (by rw [primeN_val]; omega)
    rw [e, primeN_val, Nat.mod_eq_of_lt (by omega)]
theorem subP_val (a b : N16) (ha : a.ok) (hb : b.ok) (hv : b.val < Pq) : (subP a b).ok ∧ (subP a b).val = (a.val + (Pq - b.val)) % Pq := by
  obtain ⟨o, e⟩ := negP_val b hb hv
  obtain ⟨o2, e2⟩ := addP_val a (negP b) ha o
  refine ⟨o2, ?_⟩
  unfold subP
  rw [e2, e, Nat.add_mod_mod]
theorem smallN_val (n : UInt32) : (smallN n).ok ∧ (smallN n).val = n.toNat := by
  have h := n.toNat_lt
  have e1 : (n &&& 65535).toUInt64.toNat = n.toNat % 65536 := by
    rw [UInt32.toNat_toUInt64, UInt32.toNat_and]
    exact Nat.and_two_pow_sub_one_eq_mod n.toNat 16
  have e2 : (shr_u32 n 16).toUInt64.toNat = n.toNat / 65536 := by
    rw [UInt32.toNat_toUInt64]
    unfold shr_u32
    rw [Nat.ble_eq_true_of_le (by omega), cond_true, UInt32.toNat_shiftRight]
    have e : (UInt32.ofNat 16).toNat % 32 = 16 := rfl
    rw [e, Nat.shiftRight_eq_div_pow]
  have hz : (0 : UInt64).toNat = 0 := rfl
  simp only [Nat.reducePow] at h
  refine ⟨?_, ?_⟩
  · rw [N16.ok]
    refine ⟨?_, ?_, ?_⟩
    · show (n &&& 65535).toUInt64.toNat < 65536
      omega
    · show (shr_u32 n 16).toUInt64.toNat < 65536
      omega
    · show ok16 [0, 0, 0, 0, 0, 0, 0, 0, 0, 0, 0, 0, 0, 0]
      rw [ok16_iff]
      decide
  · have es : (smallN n).val = (n &&& 65535).toUInt64.toNat + 65536 * (shr_u32 n 16).toUInt64.toNat := by
      simp only [N16.val, smallN, N16.list, val16, hz, Nat.mul_zero, Nat.add_zero]
    rw [es, e1, e2]
    omega
theorem powF_ok (a : N16) (ha : a.ok) : ∀ (l : List Bool) (x : N16), x.ok → (powF a x l).ok
  | [], x, hx => hx
  | b :: l, x, hx => by
    have h1 := (mulP_val x x hx hx).1
    refine powF_ok a ha l _ ?_
    cases b
    · exact h1
    · exact (mulP_val _ a h1 ha).1
theorem powP_ok (a : N16) (ha : a.ok) (l : List Bool) : (powP a l).ok := powF_ok a ha l _ (smallN_val 1).1
/-- What bits are, the highest first. -/
def bitsNat (n : Nat) : List Bool → Nat
  | [] => n
  | b :: l => bitsNat (2 * n + bn b) l
theorem powF_val (a : N16) (ha : a.ok) (l : List Bool) : ∀ (x : N16) (n : Nat), x.ok → x.val = a.val ^ n % Pq → (powF a x l).val = a.val ^ (bitsNat n l) % Pq := by
  have key : ∀ x y : N16, x.ok → y.ok → (mulP x y).ok ∧ (mulP x y).val = x.val * y.val % Pq := mulP_val
  generalize Pq = p at *
  induction l with
  | nil => exact fun x n hx hv => hv
  | cons b l ih =>
    intro x n hx hv
    obtain ⟨h1, e1⟩ := key x x hx hx
    have e1' : (mulP x x).val = a.val ^ (2 * n) % p := by
      rw [e1, hv, ← Nat.mul_mod, ← Nat.pow_add, Nat.two_mul]
    have e2 : bitsNat n (b :: l) = bitsNat (2 * n + bn b) l := rfl
    have e3 : powF a x (b :: l) = powF a (cond b (mulP (mulP x x) a) (mulP x x)) l := rfl
    rw [e2, e3]
    cases b
    · exact ih _ _ h1 e1'
    · obtain ⟨h2, f2⟩ := key _ a h1 ha
      refine ih _ _ h2 ?_
      show (mulP (mulP x x) a).val = a.val ^ (2 * n + 1) % p
      rw [f2, e1', Nat.mod_mul_mod, Nat.pow_succ]
theorem powP_val (a : N16) (ha : a.ok) (l : List Bool) : (powP a l).val = a.val ^ (bitsNat 0 l) % Pq := by
  refine powF_val a ha l _ 0 (smallN_val 1).1 ?_
  rw [(smallN_val 1).2, Nat.pow_zero]
  rfl
def boolsA : List AVal → Option (List Bool)
  | [] => some []
  | .bool b :: l => match boolsA l with
    | some bs => some (b :: bs)
    | none => none
  | _ => none
theorem boolsA_eq : ∀ {c : List AVal} {l : List Bool}, boolsA c = some l → c = l.map .bool
  | [], l, h => by cases h; rfl
  | v :: c, l, h => by
    cases v <;> simp only [boolsA] at h <;> try (cases h; done)
    split at h
    · rename_i bs hb
      cases h
      rw [boolsA_eq hb]; rfl
    · cases h
theorem ltL_bool (m : Nat) : ∀ (x : List Bool), ltL m (x.map .bool) = true
  | [] => rfl
  | _ :: l => ltL_bool m l
end Go.Num
