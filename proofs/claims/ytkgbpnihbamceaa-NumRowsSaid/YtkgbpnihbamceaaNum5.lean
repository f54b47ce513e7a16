/- What the document's numbers in sixteen parts are worth. -/
import Derived.Test.YtkgbpnihbamceaaNum2
import Derived.Test.YtkgbpnihbamceaaNum4
namespace Go.Num
set_option linter.unusedVariables false
set_option linter.unusedSimpArgs false
open Go Go.Eng
def val16 : List UInt64 → Nat
  | [] => 0
  | x :: l => x.toNat + 65536 * val16 l
def ok16 : List UInt64 → Prop
  | [] => True
  | x :: l => x.toNat < 65536 ∧ ok16 l
def N16.val (a : N16) : Nat := val16 a.list
def N16.ok (a : N16) : Prop := ok16 a.list
theorem list_ofL {l : List UInt64} (h : l.length = 16) : (N16.ofL l).list = l :=
  match l, h with
  | [_, _, _, _, _, _, _, _, _, _, _, _, _, _, _, _], _ => rfl
theorem ofL_list (a : N16) : N16.ofL a.list = a := rfl
theorem list_len (a : N16) : a.list.length = 16 := rfl
theorem val16_lt : ∀ {l : List UInt64}, ok16 l → val16 l < 65536 ^ l.length
  | [], _ => by simp [val16]
  | x :: l, h => by
    have := val16_lt h.2
    have h1 := h.1
    simp only [val16, List.length_cons, Nat.pow_succ]
    omega
theorem N16.val_lt {a : N16} (h : a.ok) : a.val < 65536 ^ 16 := val16_lt h
theorem val16_inj : ∀ {l m : List UInt64}, ok16 l → ok16 m → l.length = m.length → val16 l = val16 m → l = m
  | [], [], _, _, _, _ => rfl
  | [], _ :: _, _, _, h, _ => by cases h
  | _ :: _, [], _, _, h, _ => by cases h
  | x :: l, y :: m, h1, h2, h, e => by
    have a := h1.1
    have b := h2.1
    simp only [val16] at e
    have e1 : x = y := UInt64.toNat_inj.1 (by omega)
    have e2 : l = m := val16_inj h1.2 h2.2 (by simpa using h) (by omega)
    rw [e1, e2]
theorem N16.ext_val {a b : N16} (ha : a.ok) (hb : b.ok) (h : a.val = b.val) : a = b := by
  have := val16_inj ha hb rfl h
  rw [← ofL_list a, ← ofL_list b, this]
theorem low16 (x : UInt64) : (x &&& 65535).toNat = x.toNat % 65536 := and_nat x 16 _ rfl
theorem high16 (x : UInt64) : (shr_u64 x 16).toNat = x.toNat / 65536 := shr_u64_nat x 16 (by omega)
/-! ### twice -/
theorem twiceL_len : ∀ (l : List UInt64) (c : UInt64), (twiceL l c).length = l.length
  | [], _ => rfl
  | _ :: l, c => by simp only [twiceL, List.length_cons, twiceL_len l]
theorem twiceL_val : ∀ (l : List UInt64) (c : UInt64), ok16 l → c.toNat ≤ 1 → ok16 (twiceL l c) ∧ ∃ k, k ≤ 1 ∧ val16 (twiceL l c) + 65536 ^ l.length * k = 2 * val16 l + c.toNat
  | [], c, _, hc => ⟨trivial, c.toNat, hc, by simp [twiceL, val16]⟩
  | x :: l, c, h, hc => by
    have hx := h.1
    have e : (2 * x + c).toNat = 2 * x.toNat + c.toNat := by
      rw [UInt64.toNat_add, UInt64.toNat_mul]
      have e2 : (2 : UInt64).toNat = 2 := rfl
      rw [e2]
      simp only [Nat.reducePow]
      omega
    have hlo := low16 (2 * x + c)
    have hhi := high16 (2 * x + c)
    rw [e] at hlo hhi
    obtain ⟨o, k, hk, hv⟩ := twiceL_val l (shr_u64 (2 * x + c) 16) h.2 (by omega)
    refine ⟨⟨by omega, o⟩, k, hk, ?_⟩
    simp only [twiceL, val16, List.length_cons, Nat.pow_succ]
    rw [hhi] at hv
    rw [hlo]
    have : 65536 ^ l.length * 65536 * k = 65536 * (65536 ^ l.length * k) := by rw [Nat.mul_right_comm, Nat.mul_comm]
    rw [this]
    generalize 65536 ^ l.length * k = q at *
    omega
theorem twiceN_val (a : N16) (c : UInt64) (h : a.ok) (hc : c.toNat ≤ 1) (hb : 2 * a.val + c.toNat < 65536 ^ 16) : (twiceN a c).ok ∧ (twiceN a c).val = 2 * a.val + c.toNat := by
  obtain ⟨o, k, hk, hv⟩ := twiceL_val a.list c h hc
  have e : (twiceN a c).list = twiceL a.list c := list_ofL (by rw [twiceL_len]; rfl)
  refine ⟨by unfold N16.ok; rw [e]; exact o, ?_⟩
  have hl : a.list.length = 16 := rfl
  rw [hl] at hv
  unfold N16.val at *
  rw [e]
  have : k = 0 := by
    rcases Nat.eq_zero_or_pos k with h0 | h0
    · exact h0
    · have : k = 1 := by omega
      subst this
      omega
  subst this
  omega
/-! ### without -/
theorem minusL_len : ∀ (l m : List UInt64) (c : UInt64), l.length = m.length → (minusL l m c).length = l.length
  | [], [], _, _ => rfl
  | [], _ :: _, _, h => by cases h
  | _ :: _, [], _, h => by cases h
  | _ :: l, _ :: m, c, h => by simp only [minusL, List.length_cons]; rw [minusL_len l m _ (by simpa using h)]
theorem minusL_val : ∀ (l m : List UInt64) (c : UInt64), l.length = m.length → ok16 l → ok16 m → c.toNat ≤ 1 → ok16 (minusL l m c) ∧ ∃ k, k ≤ 1 ∧ val16 (minusL l m c) + val16 m + c.toNat = val16 l + 65536 ^ l.length * k
  | [], [], c, _, _, _, hc => ⟨trivial, c.toNat, hc, by simp [minusL, val16]⟩
  | [], _ :: _, _, h, _, _, _ => by cases h
  | _ :: _, [], _, h, _, _, _ => by cases h
  | x :: l, y :: m, c, hl, h1, h2, hc => by
    have hx := h1.1
    have hy := h2.1
    have e : (65536 + x - y - c).toNat = 65536 + x.toNat - y.toNat - c.toNat := by
      rw [UInt64.toNat_sub, UInt64.toNat_sub, UInt64.toNat_add]
      have e2 : (65536 : UInt64).toNat = 65536 := rfl
      rw [e2]
      simp only [Nat.reducePow]
      omega
    have hlo := low16 (65536 + x - y - c)
    have hhi := high16 (65536 + x - y - c)
    have hb : (1 - shr_u64 (65536 + x - y - c) 16).toNat = 1 - (shr_u64 (65536 + x - y - c) 16).toNat := by
      rw [UInt64.toNat_sub, hhi, e]
      have e2 : (1 : UInt64).toNat = 1 := rfl
      rw [e2]
      simp only [Nat.reducePow]
      omega
    rw [e] at hlo hhi
    rw [hhi] at hb
    obtain ⟨o, k, hk, hv⟩ := minusL_val l m (1 - shr_u64 (65536 + x - y - c) 16) (by simpa using hl) h1.2 h2.2 (by omega)
    refine ⟨⟨by omega, o⟩, k, hk, ?_⟩
    simp only [minusL, val16, List.length_cons, Nat.pow_succ]
    rw [hb] at hv
    rw [hlo]
    have : 65536 ^ l.length * 65536 * k = 65536 * (65536 ^ l.length * k) := by rw [Nat.mul_right_comm, Nat.mul_comm]
    rw [this]
    generalize 65536 ^ l.length * k = q at *
    omega
theorem minusN_val (a b : N16) (ha : a.ok) (hb : b.ok) (hle : b.val ≤ a.val) : (minusN a b).ok ∧ (minusN a b).val = a.val - b.val := by
  obtain ⟨o, k, hk, hv⟩ := minusL_val a.list b.list 0 rfl ha hb (by decide)
  have e : (minusN a b).list = minusL a.list b.list 0 := list_ofL (by rw [minusL_len a.list b.list 0 rfl]; rfl)
  have hlt := val16_lt o
  have hl : (minusL a.list b.list 0).length = 16 := by rw [minusL_len a.list b.list 0 rfl]; rfl
  rw [hl] at hlt
  refine ⟨by unfold N16.ok; rw [e]; exact o, ?_⟩
  have hl2 : a.list.length = 16 := rfl
  rw [hl2] at hv
  have hz : (0 : UInt64).toNat = 0 := rfl
  unfold N16.val at *
  rw [e]
  have : k = 0 := by
    rcases Nat.eq_zero_or_pos k with h0 | h0
    · exact h0
    · have : k = 1 := by omega
      subst this
      omega
  subst this
  omega
/-! ### less -/
def valB : List UInt64 → Nat
  | [] => 0
  | x :: l => x.toNat * 65536 ^ l.length + valB l
theorem valB_snoc : ∀ (l : List UInt64) (x : UInt64), valB (l ++ [x]) = 65536 * valB l + x.toNat
  | [], x => by simp [valB]
  | y :: l, x => by
    have e : y.toNat * (65536 ^ l.length * 65536) = 65536 * (y.toNat * 65536 ^ l.length) := by rw [← Nat.mul_assoc, Nat.mul_comm]
    have e2 : valB (y :: (l ++ [x])) = y.toNat * 65536 ^ (l ++ [x]).length + valB (l ++ [x]) := rfl
    have e3 : (l ++ [x]).length = l.length + 1 := by simp
    rw [List.cons_append, e2, valB_snoc l x, e3, Nat.pow_succ, e]
    show _ = 65536 * (y.toNat * 65536 ^ l.length + valB l) + x.toNat
    omega
theorem valB_rev : ∀ l : List UInt64, valB l.reverse = val16 l
  | [] => rfl
  | x :: l => by
    rw [List.reverse_cons, valB_snoc, valB_rev l, val16]; omega
theorem ok16_iff : ∀ {l : List UInt64}, ok16 l ↔ ∀ x ∈ l, x.toNat < 65536
  | [] => by simp [ok16]
  | x :: l => by simp [ok16, ok16_iff (l := l)]
theorem valB_lt : ∀ {l : List UInt64}, ok16 l → valB l < 65536 ^ l.length
  | [], _ => by simp [valB]
  | x :: l, h => by
    have := valB_lt h.2
    have h1 := h.1
    simp only [valB, List.length_cons, Nat.pow_succ]
    have : x.toNat * 65536 ^ l.length + 65536 ^ l.length ≤ 65536 ^ l.length * 65536 := by
      rw [← Nat.succ_mul, Nat.mul_comm]
      exact Nat.mul_le_mul_left _ (by omega)
    omega
theorem lessL_eq : ∀ (l m : List UInt64), l.length = m.length → ok16 l → ok16 m → lessL l m = decide (valB l < valB m)
  | [], [], _, _, _ => by simp [lessL, valB]
  | [], _ :: _, h, _, _ => by cases h
  | _ :: _, [], h, _, _ => by cases h
  | x :: l, y :: m, h, h1, h2 => by
    have hl : l.length = m.length := by simpa using h
    have ih := lessL_eq l m hl h1.2 h2.2
    have b1 := valB_lt h1.2
    have b2 := valB_lt h2.2
    rw [Bool.eq_iff_iff, decide_eq_true_iff]
    simp only [lessL, valB]
    rw [hl] at b1 ⊢
    by_cases he : x = y
    · subst he
      simp only [bne_self_eq_false, cond_false, ih, decide_eq_true_iff]
      omega
    · have hne : (x != y) = true := by simpa using he
      rw [hne, cond_true, decide_eq_true_iff, UInt64.lt_iff_toNat_lt]
      have hne2 : x.toNat ≠ y.toNat := fun e => he (UInt64.toNat_inj.1 e)
      generalize hq : 65536 ^ m.length = q at *
      constructor
      · intro hlt
        have : (x.toNat + 1) * q ≤ y.toNat * q := Nat.mul_le_mul_right _ hlt
        rw [Nat.succ_mul] at this
        omega
      · intro hlt
        rcases Nat.lt_or_ge x.toNat y.toNat with h3 | h3
        · exact h3
        · have : (y.toNat + 1) * q ≤ x.toNat * q := Nat.mul_le_mul_right _ (by omega)
          rw [Nat.succ_mul] at this
          omega
theorem ok16_rev {l : List UInt64} (h : ok16 l) : ok16 l.reverse := ok16_iff.2 fun x hx => ok16_iff.1 h x (List.mem_reverse.1 hx)
theorem lessN_eq (a b : N16) (ha : a.ok) (hb : b.ok) : lessN a b = decide (a.val < b.val) := by
  unfold lessN
  rw [lessL_eq a.list.reverse b.list.reverse rfl (ok16_rev (l := a.list) ha) (ok16_rev (l := b.list) hb), valB_rev, valB_rev]; rfl
theorem orderN_ok : orderN.ok := by
  rw [N16.ok, ok16_iff]
  decide
theorem orderN_val : orderN.val = Lq := by kernel_rfl
theorem zeroN_ok : zeroN.ok := by
  rw [N16.ok, ok16_iff]
  decide
theorem zeroN_val : zeroN.val = 0 := by kernel_rfl
theorem pow16 : (65536 : Nat) ^ 16 = 115792089237316195423570985008687907853269984665640564039457584007913129639936 := by decide
theorem bitN_val (r : N16) (c : UInt64) (h : r.ok) (hv : r.val < Lq) (hc : c.toNat ≤ 1) : (bitN r c).ok ∧ (bitN r c).val = (2 * r.val + c.toNat) % Lq := by
  obtain ⟨o, e⟩ := twiceN_val r c h hc (by rw [pow16]; unfold Lq at hv; omega)
  unfold bitN redO
  rw [lessN_eq _ _ o orderN_ok, orderN_val]
  by_cases hl : (twiceN r c).val < Lq
  · rw [decide_eq_true hl, cond_true]
    refine ⟨o, ?_⟩
    rw [e] at hl ⊢
    rw [Nat.mod_eq_of_lt hl]
  · rw [decide_eq_false hl, cond_false]
    obtain ⟨o2, e2⟩ := minusN_val _ _ o orderN_ok (by rw [orderN_val]; omega)
    refine ⟨o2, ?_⟩
    rw [e2, orderN_val, e]
    rw [e] at hl
    unfold Lq at *
    omega
/-! ### the bits of a text -/
theorem bitAt_nat : ∀ (s : List UInt8) (i : Nat), (bitAt s i).toNat = leNat s / 2 ^ i % 2
  | [], i => by
    simp only [bitAt, leNat, List.getD_nil, Nat.zero_div, Nat.zero_mod]
    rw [UInt8.toNat_toUInt64, and8_nat _ 1 1 rfl, shr_u8_nat _ _ (Nat.mod_lt _ (by omega))]
    have : (0 : UInt8).toNat = 0 := rfl
    rw [this, Nat.zero_div]
  | c :: l, i => by
    have hc := c.toNat_lt
    simp only [leNat, Nat.reducePow] at *
    rcases Nat.lt_or_ge i 8 with h | h
    · have e1 : i / 8 = 0 := by omega
      have e2 : i % 8 = i := by omega
      unfold bitAt
      rw [e1, e2, List.getD_cons_zero, UInt8.toNat_toUInt64, and8_nat _ 1 1 rfl, shr_u8_nat _ _ h, Nat.pow_one]
      have : i = 0 ∨ i = 1 ∨ i = 2 ∨ i = 3 ∨ i = 4 ∨ i = 5 ∨ i = 6 ∨ i = 7 := by omega
      rcases this with rfl | rfl | rfl | rfl | rfl | rfl | rfl | rfl <;> simp only [Nat.reducePow] <;> omega
    · have e1 : i / 8 = (i - 8) / 8 + 1 := by omega
      have e2 : i % 8 = (i - 8) % 8 := by omega
      have e3 : bitAt (c :: l) i = bitAt l (i - 8) := by
        unfold bitAt
        rw [e1, e2, List.getD_cons_succ]
      rw [e3, bitAt_nat l (i - 8)]
      have e4 : 2 ^ i = 256 * 2 ^ (i - 8) := by
        rw [show (256 : Nat) = 2 ^ 8 by rfl, ← Nat.pow_add]; congr 1; omega
      rw [e4, ← Nat.div_div_eq_div_mul]
      have e5 : (c.toNat + 256 * leNat l) / 256 = leNat l := by omega
      rw [e5]
theorem bitAt_le (s : List UInt8) (i : Nat) : (bitAt s i).toNat ≤ 1 := by rw [bitAt_nat]; omega
theorem mod_mul_add (X Y Z L : Nat) : (X % L * Y + Z) % L = (X * Y + Z) % L := by
  rw [Nat.add_mod, Nat.mul_mod, Nat.mod_mod, ← Nat.mul_mod, ← Nat.add_mod]
theorem ofBits_val (s : List UInt8) (n : Nat) : ∀ r : N16, r.ok → r.val < Lq → (ofBits s r n).ok ∧ (ofBits s r n).val = (r.val * 2 ^ n + leNat s % 2 ^ n) % Lq := by
  have hpos := Lq_pos
  generalize hL : Lq = L at *
  induction n with
  | zero =>
    intro r h hv
    refine ⟨h, ?_⟩
    have e : ofBits s r 0 = r := rfl
    rw [e, Nat.pow_zero, Nat.mul_one, Nat.mod_one, Nat.add_zero, Nat.mod_eq_of_lt hv]
  | succ n ih =>
    intro r h hv
    obtain ⟨o, e⟩ := bitN_val r (bitAt s n) h (by rw [hL]; exact hv) (bitAt_le s n)
    rw [hL] at e
    obtain ⟨o2, e2⟩ := ih (bitN r (bitAt s n)) o (by rw [e]; exact Nat.mod_lt _ hpos)
    have es : ofBits s r (n + 1) = ofBits s (bitN r (bitAt s n)) n := rfl
    rw [es]
    refine ⟨o2, ?_⟩
    rw [e2, e, bitAt_nat]
    have e3 : leNat s % 2 ^ (n + 1) = leNat s / 2 ^ n % 2 * 2 ^ n + leNat s % 2 ^ n := by
      rw [Nat.pow_succ, Nat.mod_mul, Nat.mul_comm (leNat s / 2 ^ n % 2)]; omega
    rw [e3, mod_mul_add]
    have e4 : (2 * r.val + leNat s / 2 ^ n % 2) * 2 ^ n + leNat s % 2 ^ n = r.val * 2 ^ (n + 1) + (leNat s / 2 ^ n % 2 * 2 ^ n + leNat s % 2 ^ n) := by
      rw [Nat.pow_succ, Nat.add_mul]
      have : 2 * r.val * 2 ^ n = r.val * (2 ^ n * 2) := by rw [Nat.mul_comm 2 r.val, Nat.mul_assoc, Nat.mul_comm 2]
      omega
    rw [e4]
theorem leNat_lt : ∀ s : List UInt8, leNat s < 2 ^ (8 * s.length)
  | [] => by simp [leNat]
  | c :: l => by
    have := leNat_lt l
    have hc := c.toNat_lt
    simp only [leNat, List.length_cons]
    rw [show 8 * (l.length + 1) = 8 * l.length + 8 by omega, Nat.pow_add]
    simp only [Nat.reducePow] at *
    omega
theorem ofN_val (s : List UInt8) : (ofN s).ok ∧ (ofN s).val = leNat s % Lq := by
  obtain ⟨o, e⟩ := ofBits_val s (8 * s.length) zeroN zeroN_ok (by rw [zeroN_val]; exact Lq_pos)
  refine ⟨o, ?_⟩
  unfold ofN
  rw [e, zeroN_val, Nat.zero_mul, Nat.zero_add, Nat.mod_eq_of_lt (leNat_lt s)]
theorem ofN_lt (s : List UInt8) : (ofN s).val < Lq := by rw [(ofN_val s).2]; exact Nat.mod_lt _ Lq_pos
/-! ### texts and numbers -/
theorem two_bytes (a b : UInt8) : (0 ||| shl_u64 a.toUInt64 0 ||| shl_u64 b.toUInt64 8).toNat = a.toNat + 256 * b.toNat := by
  have ha := a.toNat_lt
  have hb := b.toNat_lt
  rw [UInt64.toNat_or, UInt64.toNat_or, shl_u64_nat _ 0 (by omega), shl_u64_nat _ 8 (by omega), UInt8.toNat_toUInt64, UInt8.toNat_toUInt64]
  have e0 : (0 : UInt64).toNat = 0 := rfl
  rw [e0, Nat.zero_or]
  simp only [Nat.reducePow, Nat.mul_one] at *
  rw [Nat.mod_eq_of_lt (by omega), Nat.mod_eq_of_lt (by omega)]
  have := Nat.shiftLeft_add_eq_or_of_lt (b := a.toNat) (i := 8) (by simpa using ha) b.toNat
  rw [Nat.shiftLeft_eq] at this
  rw [Nat.or_comm, ← this]
  omega
theorem partsL_val : ∀ s : List UInt8, s.length % 2 = 0 → ok16 (partsL s) ∧ val16 (partsL s) = leNat s ∧ (partsL s).length = s.length / 2
  | [], _ => ⟨trivial, rfl, rfl⟩
  | [_], h => by cases h
  | a :: b :: l, h => by
    obtain ⟨o, e, el⟩ := partsL_val l (by simpa [Nat.add_assoc] using h)
    have ha := a.toNat_lt
    have hb := b.toNat_lt
    simp only [Nat.reducePow] at *
    have ht := two_bytes a b
    refine ⟨⟨by omega, o⟩, ?_, ?_⟩
    · simp only [partsL, val16, leNat, ht, e]; omega
    · simp only [partsL, List.length_cons, el]; omega
theorem partsN_val (s : List UInt8) (h : s.length = 32) : (partsN s).ok ∧ (partsN s).val = leNat s := by
  obtain ⟨o, e, el⟩ := partsL_val s (by omega)
  have hl : (partsN s).list = partsL s := list_ofL (by omega)
  exact ⟨by unfold N16.ok; rw [hl]; exact o, by unfold N16.val; rw [hl]; exact e⟩
theorem canonN_eq (s : List UInt8) : canonN s = (isLen s 32 && decide (leNat s < Lq)) := by
  unfold canonN
  cases h : isLen s 32
  · rfl
  · obtain ⟨o, e⟩ := partsN_val s (isLen_eq.1 h)
    rw [lessN_eq _ _ o orderN_ok, e, orderN_val]
theorem spread : ∀ l : List UInt64, ok16 l → leNat (l.flatMap fun x => [(shr_u64 x 0).toUInt8, (shr_u64 x 8).toUInt8]) = val16 l
  | [], _ => rfl
  | x :: l, h => by
    have ih := spread l h.2
    have hx := h.1
    simp only [List.flatMap_cons, List.cons_append, List.nil_append, leNat, toU8_nat, shr_u64_nat x 0 (by omega), shr_u64_nat x 8 (by omega), ih, val16, Nat.reducePow]
    omega
theorem bytesN_val (a : N16) (h : a.ok) : leNat (bytesN a) = a.val := spread a.list h
theorem bytesN_len (a : N16) : (bytesN a).length = 32 := rfl
/-! ### sums and products -/
theorem spillL_len : ∀ (l : List UInt64) (c : UInt64), (spillL l c).length = 2 * l.length
  | [], _ => rfl
  | x :: l, c => by simp only [spillL, List.length_cons, spillL_len l]; omega
theorem spillL_val : ∀ (l : List UInt64) (c : UInt64), (∀ x ∈ l, x.toNat < 281474976710656) → c.toNat < 281474976710656 → ∃ k, leNat (spillL l c) + 65536 ^ l.length * k = val16 l + c.toNat
  | [], c, _, _ => ⟨c.toNat, by simp [spillL, leNat, val16]⟩
  | x :: l, c, h, hc => by
    have hx := h x List.mem_cons_self
    have e : (x + c).toNat = x.toNat + c.toNat := by
      rw [UInt64.toNat_add]
      simp only [Nat.reducePow]
      omega
    have hhi := high16 (x + c)
    rw [e] at hhi
    obtain ⟨k, hk⟩ := spillL_val l (shr_u64 (x + c) 16) (fun y hy => h y (List.mem_cons_of_mem _ hy)) (by omega)
    refine ⟨k, ?_⟩
    simp only [spillL, leNat, val16, toU8_nat, shr_u64_nat (x + c) 8 (by omega), e, List.length_cons, Nat.pow_succ]
    rw [hhi] at hk
    have : 65536 ^ l.length * 65536 * k = 65536 * (65536 ^ l.length * k) := by rw [Nat.mul_right_comm, Nat.mul_comm]
    rw [this]
    generalize 65536 ^ l.length * k = q at *
    simp only [Nat.reducePow]
    omega
theorem spill_all (l : List UInt64) (h : ∀ x ∈ l, x.toNat < 281474976710656) (hv : val16 l < 65536 ^ l.length) : leNat (spillL l 0) = val16 l := by
  obtain ⟨k, hk⟩ := spillL_val l 0 h (by decide)
  have hz : (0 : UInt64).toNat = 0 := rfl
  rw [hz] at hk
  rcases Nat.eq_zero_or_pos k with h0 | h0
  · subst h0; omega
  · have : 65536 ^ l.length * 1 ≤ 65536 ^ l.length * k := Nat.mul_le_mul_left _ h0
    omega
theorem sumL_val : ∀ (l m : List UInt64), l.length = m.length → ok16 l → ok16 m → val16 (sumL l m) = val16 l + val16 m ∧ (sumL l m).length = l.length ∧ ∀ x ∈ sumL l m, x.toNat < 281474976710656
  | [], [], _, _, _ => ⟨rfl, rfl, by simp [sumL]⟩
  | [], _ :: _, h, _, _ => by cases h
  | _ :: _, [], h, _, _ => by cases h
  | x :: l, y :: m, h, h1, h2 => by
    obtain ⟨e, el, b⟩ := sumL_val l m (by simpa using h) h1.2 h2.2
    have hx := h1.1
    have hy := h2.1
    have es : (x + y).toNat = x.toNat + y.toNat := by
      rw [UInt64.toNat_add]
      simp only [Nat.reducePow]
      omega
    refine ⟨by simp only [sumL, val16, es, e]; omega, by simp only [sumL, List.length_cons, el], fun z hz => ?_⟩
    simp only [sumL, List.mem_cons] at hz
    rcases hz with rfl | hz
    · omega
    · exact b z hz
theorem val16_append : ∀ (l m : List UInt64), val16 (l ++ m) = val16 l + 65536 ^ l.length * val16 m
  | [], m => by simp [val16]
  | x :: l, m => by
    simp only [List.cons_append, val16, val16_append l m, List.length_cons, Nat.pow_succ]
    rw [Nat.mul_add, Nat.mul_comm (65536 ^ l.length) 65536, Nat.mul_assoc]
    omega
theorem val16_zeros : ∀ n, val16 (List.replicate n 0) = 0
  | 0 => rfl
  | n + 1 => by simp only [List.replicate_succ, val16, val16_zeros n]; rfl
theorem addN_val (a b : N16) (ha : a.ok) (hb : b.ok) : (addN a b).ok ∧ (addN a b).val = (a.val + b.val) % Lq := by
  obtain ⟨e, el, bd⟩ := sumL_val a.list b.list rfl ha hb
  have hv : val16 (sumL a.list b.list ++ List.replicate 16 0) = a.val + b.val := by
    rw [val16_append, val16_zeros, e, Nat.mul_zero, Nat.add_zero]; rfl
  have hlen : (sumL a.list b.list ++ List.replicate 16 0).length = 32 := by
    rw [List.length_append, el]; rfl
  have h1 := N16.val_lt ha
  have h2 := N16.val_lt hb
  obtain ⟨o, ev⟩ := ofN_val (spillL (sumL a.list b.list ++ List.replicate 16 0) 0)
  refine ⟨o, ?_⟩
  unfold addN
  rw [ev, spill_all _ (fun x hx => ?_) (by rw [hv, hlen]; rw [show (65536 : Nat) ^ 32 = 65536 ^ 16 * 65536 ^ 16 by decide, pow16] at *; omega), hv]
  rcases List.mem_append.1 hx with hx | hx
  · exact bd x hx
  · rw [List.mem_replicate] at hx; rw [hx.2]; decide
theorem rowL_val : ∀ (x : UInt64) (t b : List UInt64) (M : Nat), x.toNat < 65536 → ok16 b → b.length ≤ t.length → (∀ y ∈ t, y.toNat ≤ M) → M < 4611686018427387904 →
    val16 (rowL x t b) = val16 t + x.toNat * val16 b ∧ (rowL x t b).length = t.length ∧ ∀ y ∈ rowL x t b, y.toNat ≤ M + 4294836225
  | x, t, [], M, hx, hb, hl, ht, hM => by
    refine ⟨by simp [rowL, val16], by simp [rowL], fun y hy => ?_⟩
    have : y ∈ t := by simpa [rowL] using hy
    have := ht y this
    omega
  | x, [], _ :: _, M, hx, hb, hl, ht, hM => by simp at hl
  | x, z :: t, y :: b, M, hx, hb, hl, ht, hM => by
    obtain ⟨e, el, bd⟩ := rowL_val x t b M hx hb.2 (by simpa using hl) (fun w hw => ht w (List.mem_cons_of_mem _ hw)) hM
    have hy := hb.1
    have hz := ht z List.mem_cons_self
    have hp : x.toNat * y.toNat ≤ 65535 * 65535 := Nat.mul_le_mul (by omega) (by omega)
    have es : (z + x * y).toNat = z.toNat + x.toNat * y.toNat := by
      rw [UInt64.toNat_add, UInt64.toNat_mul]
      simp only [Nat.reducePow]
      omega
    refine ⟨?_, by simp only [rowL, List.length_cons, el], fun w hw => ?_⟩
    · simp only [rowL, val16, es, e]
      have : x.toNat * (y.toNat + 65536 * val16 b) = x.toNat * y.toNat + 65536 * (x.toNat * val16 b) := by rw [Nat.mul_add, Nat.mul_left_comm]
      rw [this]
      omega
    · simp only [rowL, List.mem_cons] at hw
      rcases hw with rfl | hw
      · omega
      · exact bd w hw
theorem prodL_val : ∀ (l b t : List UInt64) (M : Nat), ok16 l → ok16 b → 0 < b.length → l.length + b.length ≤ t.length → (∀ y ∈ t, y.toNat ≤ M) → M + l.length * 4294836225 < 4611686018427387904 →
    val16 (prodL l b t) = val16 t + val16 l * val16 b ∧ (prodL l b t).length = t.length ∧ ∀ y ∈ prodL l b t, y.toNat ≤ M + l.length * 4294836225
  | [], b, t, M, hl, hb, hpos, hlen, ht, hM => by
    refine ⟨by simp [prodL, val16], by simp [prodL], fun y hy => ?_⟩
    have := ht y (by simpa [prodL] using hy)
    omega
  | x :: l, b, t, M, hl, hb, hpos, hlen, ht, hM => by
    simp only [List.length_cons] at hlen hM
    obtain ⟨e, el, bd⟩ := rowL_val x t b M hl.1 hb (by omega) ht (by omega)
    have hne : t.length ≠ 0 := by omega
    cases hr : rowL x t b with
    | nil => rw [hr] at el; simp at el; omega
    | cons h r =>
      rw [hr] at e el bd
      simp only [List.length_cons] at el
      obtain ⟨e2, el2, bd2⟩ := prodL_val l b r (M + 4294836225) hl.2 hb hpos (by omega) (fun y hy => bd y (List.mem_cons_of_mem _ hy)) (by omega)
      have e3 : prodL (x :: l) b t = h :: prodL l b r := by simp only [prodL, hr]
      rw [e3]
      simp only [val16] at e ⊢
      refine ⟨?_, by simp only [List.length_cons, el2]; exact el, fun y hy => ?_⟩
      · rw [e2, Nat.mul_add, Nat.add_mul, Nat.mul_assoc]
        omega
      · simp only [List.length_cons]
        rcases List.mem_cons.1 hy with rfl | hy
        · have := bd y List.mem_cons_self
          omega
        · have := bd2 y hy
          omega
theorem mulN_val (a b : N16) (ha : a.ok) (hb : b.ok) : (mulN a b).ok ∧ (mulN a b).val = (a.val * b.val) % Lq := by
  obtain ⟨e, el, bd⟩ := prodL_val a.list b.list (List.replicate 32 0) 0 ha hb (by show 0 < 16; decide) (by show 16 + 16 ≤ 32; decide) (fun y hy => by rw [List.mem_replicate] at hy; rw [hy.2]; decide) (by show 0 + 16 * 4294836225 < 4611686018427387904; decide)
  have hv : val16 (prodL a.list b.list (List.replicate 32 0)) = a.val * b.val := by rw [e, val16_zeros, Nat.zero_add]; rfl
  have hlen : (prodL a.list b.list (List.replicate 32 0)).length = 32 := by rw [el]; rfl
  have h1 := N16.val_lt ha
  have h2 := N16.val_lt hb
  obtain ⟨o, ev⟩ := ofN_val (spillL (prodL a.list b.list (List.replicate 32 0)) 0)
  refine ⟨o, ?_⟩
  unfold mulN
  rw [ev, spill_all _ (fun x hx => by have := bd x hx; have hl : a.list.length = 16 := rfl; rw [hl] at this; omega) ?_, hv]
  rw [hv, hlen, show (65536 : Nat) ^ 32 = 65536 ^ 16 * 65536 ^ 16 by decide]
  exact Nat.mul_lt_mul'' h1 h2
theorem negN_val (a : N16) (h : a.ok) (hv : a.val < Lq) : (negN a).ok ∧ (negN a).val = (Lq - a.val) % Lq := by
  unfold negN
  by_cases hz : a = zeroN
  · rw [decide_eq_true hz, cond_true, hz]
    refine ⟨zeroN_ok, ?_⟩
    rw [zeroN_val, Nat.sub_zero, Nat.mod_self]
  · rw [decide_eq_false hz, cond_false]
    have hne : a.val ≠ 0 := fun e => hz (N16.ext_val h zeroN_ok (by rw [e, zeroN_val]))
    obtain ⟨o, e⟩ := minusN_val orderN a orderN_ok h (by rw [orderN_val]; omega)
    refine ⟨o, ?_⟩
    rw [e, orderN_val, Nat.mod_eq_of_lt (by omega)]
/-- The same number has the same bytes on both sides. -/
theorem same_bytes {a : W4} {b : N16} (hb : b.ok) (h : a.val = b.val) : bytesW a = bytesN b :=
  leNat_inj (by rw [bytesW_len, bytesN_len]) (by rw [bytesW_val, bytesN_val b hb, h])
end Go.Num
