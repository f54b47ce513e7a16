/- Texts Ae5, ACi7, Ae6, Ae7: what they show stands ahead of each. -/
import Derived.Test.YtifohjjmbohhnaaT11
import Derived.Test.YtifohjjmbohhnaaT9
/- Sealing and opening: what they answer. -/
namespace Go.Proofs.Ytifohjjmbohhnaa.Ae
set_option linter.unusedVariables false
set_option linter.unusedSimpArgs false
open Go Go.Eng Go.Proofs.Ytifohjjmbohhnaa
set_option maxRecDepth 100000
set_option maxHeartbeats 1000000
set_option linter.unusedSimpArgs false
set_option linter.unusedVariables false
def tk (s : List UInt8) (z : Int) : List UInt8 := (s.take z.toNat).drop (Int.toNat 0)
def dr (s : List UInt8) (z : Int) : List UInt8 := (s.take (s.length : Int).toNat).drop z.toNat
def i1 (s : List UInt8) (z : Int) : Bool := decide ((0 : Int) ≤ 0) && (decide (0 ≤ z) && decide (z ≤ (s.length : Int)))
def i2 (s : List UInt8) (z : Int) : Bool := decide (0 ≤ z) && (decide (z ≤ (s.length : Int)) && decide ((s.length : Int) ≤ (s.length : Int)))
def zq (s : List UInt8) (z : Int) : Bool := eqS (.int .i64 (IntKind.wrap .i64 ((s.length : Int) - 16))) (.int .i64 z)
section
variable (φ : Fm) (k n a s : List UInt8) (z : Int)
theorem w7a : ansO (run1O Try.prog (psm φ) (nn φ) [19,23,27,31,37,45,50] [true] [] (mask 7) 100 7 [.str k, .str n, .str a, .str s] [] Try.prog.globals.size) = some (.tup [.str [], .int .i64 (φ.tr k n 1 [])], [φ.tr k n 1 [] != 0, φ.sh []]) := by kernel_rfl
theorem w7b : ansO (run1O Try.prog (psm φ) (nn φ) [19,23,27,31,37,45,50] [false, true] [] (mask 7) 100 7 [.str k, .str n, .str a, .str s] [] Try.prog.globals.size) = some (.tup [.str [], .int .i64 4], [decide ((65536 : Int) < (a.length : Int)), !(φ.tr k n 1 [] != 0), φ.sh []]) := by kernel_rfl
theorem w7c : ansO (run1O Try.prog (psm φ) (nn φ) [19,23,27,31,37,45,50] [false, false, true] [] (mask 7) 100 7 [.str k, .str n, .str a, .str s] [] Try.prog.globals.size) = some (.tup [.str [], .int .i64 4], [decide ((65536 : Int) < (s.length : Int)), !(decide ((65536 : Int) < (a.length : Int))), !(φ.tr k n 1 [] != 0), φ.sh []]) := by kernel_rfl
theorem w7d : ansO (run1O Try.prog (psm φ) (nn φ) [19,23,27,31,37,45,50] [false, false, false] [] (mask 7) 100 7 [.str k, .str n, .str a, .str s] [] Try.prog.globals.size) = some (.tup [.str (φ.tv k n 1 s ++ φ.tg k n a (φ.tv k n 1 s)), .int .i64 (φ.br k n)], [Nat.ble ((φ.tv k n 1 s).length + (φ.tg k n a (φ.tv k n 1 s)).length) 9223372036854775807, φ.sh a && φ.sh (φ.tv k n 1 s), φ.sh s, !(decide ((65536 : Int) < (s.length : Int))), !(decide ((65536 : Int) < (a.length : Int))), !(φ.tr k n 1 [] != 0), φ.sh []]) := by kernel_rfl
theorem w8a : ansO (run1O Try.prog (psm φ) (nn φ) [14,18,22,28,36,37] [false] [] (mask 8) 100 8 [.str k, .str n, .str a, .str s] [] Try.prog.globals.size) = some (.tup [.str [], .int .i64 2], [!(φ.may k n)]) := by kernel_rfl
theorem w8b : ansO (run1O Try.prog (psm φ) (nn φ) [14,18,22,28,36,37] [true, true] [] (mask 8) 100 8 [.str k, .str n, .str a, .str s] [] Try.prog.globals.size) = some (.tup [.str [], .int .i64 4], [decide ((65536 : Int) < (a.length : Int)), φ.may k n]) := by kernel_rfl
theorem w8c : ansO (run1O Try.prog (psm φ) (nn φ) [14,18,22,28,36,37] [true, false, true] [] (mask 8) 100 8 [.str k, .str n, .str a, .str s] [] Try.prog.globals.size) = some (.tup [.str [], .int .i64 4], [decide ((65536 : Int) < (s.length : Int)), !(decide ((65536 : Int) < (a.length : Int))), φ.may k n]) := by kernel_rfl
theorem w8d : ansO (run1O Try.prog (psm φ) (nn φ) [14,18,22,28,36,37] [true, false, false] [] (mask 8) 100 8 [.str k, .str n, .str a, .str s] [] Try.prog.globals.size) = some (.tup [.str (φ.tv k n 1 s ++ φ.tg k n a (φ.tv k n 1 s)), .int .i64 0], [Nat.ble ((φ.tv k n 1 s).length + (φ.tg k n a (φ.tv k n 1 s)).length) 9223372036854775807, φ.may k n && (φ.sh a && φ.sh (φ.tv k n 1 s)), φ.sh s, !(decide ((65536 : Int) < (s.length : Int))), !(decide ((65536 : Int) < (a.length : Int))), φ.may k n]) := by kernel_rfl
def sy9 : List Nat := [18,22,30,33,37,44,45,49,54,55,62,63,200012]
theorem w9a : ansO (run1O Try.prog (psm φ) (nn φ) sy9 [true] [.int .i64 z] (mask 9) 100 9 [.str k, .str n, .str a, .str s] [] Try.prog.globals.size) = some (.tup [.str [], .int .i64 (φ.tr k n 1 [])], [φ.tr k n 1 [] != 0, φ.sh []]) := by kernel_rfl
theorem w9b : ansO (run1O Try.prog (psm φ) (nn φ) sy9 [false, true] [.int .i64 z] (mask 9) 100 9 [.str k, .str n, .str a, .str s] [] Try.prog.globals.size) = some (.tup [.str [], .int .i64 4], [decide ((65536 : Int) < (a.length : Int)), zq s z, !(φ.tr k n 1 [] != 0), φ.sh []]) := by kernel_rfl
theorem w9c : ansO (run1O Try.prog (psm φ) (nn φ) sy9 [false, false, true] [.int .i64 z] (mask 9) 100 9 [.str k, .str n, .str a, .str s] [] Try.prog.globals.size) = some (.tup [.str [], .int .i64 4], [decide ((65536 : Int) < z), !(decide ((65536 : Int) < (a.length : Int))), zq s z, !(φ.tr k n 1 [] != 0), φ.sh []]) := by kernel_rfl
theorem w9d : ansO (run1O Try.prog (psm φ) (nn φ) sy9 [false, false, false, true] [.int .i64 z] (mask 9) 100 9 [.str k, .str n, .str a, .str s] [] Try.prog.globals.size) = some (.tup [.str [], .int .i64 100], [decide (z < 0), !(decide ((65536 : Int) < z)), !(decide ((65536 : Int) < (a.length : Int))), zq s z, !(φ.tr k n 1 [] != 0), φ.sh []]) := by kernel_rfl
theorem w9e : ansO (run1O Try.prog (psm φ) (nn φ) sy9 [false, false, false, false, false, true] [.int .i64 z] (mask 9) 100 9 [.str k, .str n, .str a, .str s] [] Try.prog.globals.size) = some (.tup [.str (φ.tv k n 1 (tk s z)), .int .i64 (φ.tr k n 1 (tk s z))], [φ.sh (tk s z), i1 s z, φ.sm (φ.tg k n a (tk s z)) (dr s z), φ.sh (φ.tg k n a (tk s z)), i2 s z, !(φ.br k n != 0), φ.sh a && φ.sh (tk s z), i1 s z, !(decide (z < 0)), !(decide ((65536 : Int) < z)), !(decide ((65536 : Int) < (a.length : Int))), zq s z, !(φ.tr k n 1 [] != 0), φ.sh []]) := by kernel_rfl
theorem w9f : ansO (run1O Try.prog (psm φ) (nn φ) sy9 [false, false, false, false, false, false] [.int .i64 z] (mask 9) 100 9 [.str k, .str n, .str a, .str s] [] Try.prog.globals.size) = some (.tup [.str [], .int .i64 100], [!(φ.sm (φ.tg k n a (tk s z)) (dr s z)), φ.sh (φ.tg k n a (tk s z)), i2 s z, !(φ.br k n != 0), φ.sh a && φ.sh (tk s z), i1 s z, !(decide (z < 0)), !(decide ((65536 : Int) < z)), !(decide ((65536 : Int) < (a.length : Int))), zq s z, !(φ.tr k n 1 [] != 0), φ.sh []]) := by kernel_rfl
end
end Go.Proofs.Ytifohjjmbohhnaa.Ae

/- The law on what is turned back: plain. -/
namespace Go.Proofs.Ytifohjjmbohhnaa.Cha
set_option linter.unusedVariables false
set_option linter.unusedSimpArgs false
open Go Go.Eng Go.Cha
set_option maxRecDepth 100000
set_option maxHeartbeats 1000000
set_option linter.unusedSimpArgs false
set_option linter.unusedVariables false
def trn (k n : List UInt8) (c : UInt32) (s : List UInt8) : List UInt8 := turnTo (tb k n c) s s.length
theorem trn_len (k n : List UInt8) (c : UInt32) (s : List UInt8) : (trn k n c s).length = s.length := turnTo_len _ _ _
theorem trn_get (k n : List UInt8) (c : UInt32) (s : List UInt8) {j : Nat} (h : j < s.length) : (trn k n c s)[j]? = some (s.getD j 0 ^^^ tb k n c j) := by
  unfold trn
  rw [turnTo_get _ _ _ _ h, if_pos h]
theorem xor_back (a b : UInt8) : (a ^^^ b) ^^^ b = a := by
  apply UInt8.toBitVec_inj.1
  simp [BitVec.xor_assoc]
theorem trn_back (k n : List UInt8) (c : UInt32) (s : List UInt8) : trn k n c (trn k n c s) = s := by
  apply List.ext_getElem?
  intro j
  by_cases h : j < s.length
  · rw [trn_get _ _ _ _ (by rw [trn_len]; exact h), List.getD_eq_getElem?_getD, trn_get _ _ _ _ h]
    show some ((s.getD j 0 ^^^ tb k n c j) ^^^ tb k n c j) = s[j]?
    rw [xor_back, List.getD_eq_getElem?_getD, List.getElem?_eq_getElem h]; rfl
  · rw [List.getElem?_eq_none (by rw [trn_len, trn_len]; omega), List.getElem?_eq_none (by omega)]
theorem tb_shift (k n : List UInt8) (c : UInt32) (q i : Nat) : tb k n (c + UInt32.ofNat q) i = tb k n c (64 * q + i) := by
  unfold tb
  rw [show (64 * q + i) / 64 = q + i / 64 by omega, show (64 * q + i) % 64 = i % 64 by omega]
  congr 1
  apply UInt32.toNat_inj.1
  simp
  rw [Nat.add_assoc]
theorem trn_parts (k n : List UInt8) (c : UInt32) (s : List UInt8) {q : Nat} (h : 64 * q ≤ s.length) : trn k n c (s.take (64 * q)) ++ trn k n (c + UInt32.ofNat q) (s.drop (64 * q)) = trn k n c s := by
  apply List.ext_getElem?
  intro j
  have hl : (s.take (64 * q)).length = 64 * q := by rw [List.length_take]; omega
  by_cases h1 : j < 64 * q
  · rw [List.getElem?_append_left (by rw [trn_len, hl]; exact h1), trn_get _ _ _ _ (by rw [hl]; exact h1), trn_get _ _ _ _ (by omega)]
    rw [List.getD_eq_getElem?_getD, List.getElem?_take_of_lt h1, List.getD_eq_getElem?_getD]
  · rw [List.getElem?_append_right (by rw [trn_len, hl]; omega), trn_len, hl]
    by_cases h2 : j < s.length
    · rw [trn_get _ _ _ _ (by rw [List.length_drop]; omega), trn_get _ _ _ _ h2, tb_shift, show 64 * q + (j - 64 * q) = j by omega]
      rw [List.getD_eq_getElem?_getD, List.getElem?_drop, show 64 * q + (j - 64 * q) = j by omega, List.getD_eq_getElem?_getD]
    · rw [List.getElem?_eq_none (by rw [trn_len, List.length_drop]; omega), List.getElem?_eq_none (by rw [trn_len]; omega)]
theorem over_nat (c : UInt32) {m : Nat} (h : m < 1099511627776) : over c m = decide (4294967296 < c.toNat + (m + 63) / 64) := by
  unfold over
  rw [wrapI _ (by omega) (by omega)]
  have e : UInt64.ofInt ((m : Int) + 63) = UInt64.ofNat (m + 63) := by
    rw [show ((m : Int) + 63) = ((m + 63 : Nat) : Int) by omega, ofInt_nat]
  rw [e]
  have hc := c.toNat_lt
  refine decide_eq_decide.2 ?_
  rw [UInt64.lt_iff_toNat_lt, UInt64.toNat_add, UInt64.toNat_div, UInt32.toNat_toUInt64, UInt64.toNat_ofNat', UInt64.toNat_ofNat', UInt64.toNat_ofNat']
  rw [show Int.toNat 64 = 64 from rfl, show Int.toNat 4294967296 = 4294967296 from rfl]
  simp only [Nat.reducePow] at *
  rw [Nat.mod_eq_of_lt (show m + 63 < 18446744073709551616 by omega), Nat.mod_eq_of_lt (show 64 < 18446744073709551616 by omega), Nat.mod_eq_of_lt (show 4294967296 < 18446744073709551616 by omega)]
  rw [Nat.mod_eq_of_lt (by omega)]
end Go.Proofs.Ytifohjjmbohhnaa.Cha

/- Sealing and opening, as functions. -/
namespace Go.Proofs.Ytifohjjmbohhnaa.Ae
set_option linter.unusedVariables false
set_option linter.unusedSimpArgs false
open Go Go.Eng Go.Proofs.Ytifohjjmbohhnaa
set_option maxRecDepth 100000
set_option maxHeartbeats 1000000
set_option linter.unusedSimpArgs false
set_option linter.unusedVariables false
section
variable (φ : Fm) (k n a s : List UInt8) (z : Int)
def sy10 : List Nat := [15,19,23,27,32,37,42,43,48,200031,200041]
theorem w10a : ansO (run1O Try.prog (psm φ) (nn φ) sy10 [false] [.int .i64 z, .int .i64 z] (mask 10) 100 10 [.str k, .str n, .str a, .str s] [] Try.prog.globals.size) = some (.tup [.str [], .int .i64 2], [!(φ.may k n)]) := by kernel_rfl
theorem w10b : ansO (run1O Try.prog (psm φ) (nn φ) sy10 [true, true] [.int .i64 z, .int .i64 z] (mask 10) 100 10 [.str k, .str n, .str a, .str s] [] Try.prog.globals.size) = some (.tup [.str [], .int .i64 4], [decide ((65536 : Int) < (a.length : Int)), φ.may k n]) := by kernel_rfl
theorem w10c : ansO (run1O Try.prog (psm φ) (nn φ) sy10 [true, false, true] [.int .i64 z, .int .i64 z] (mask 10) 100 10 [.str k, .str n, .str a, .str s] [] Try.prog.globals.size) = some (.tup [.str [], .int .i64 4], [decide ((65552 : Int) < (s.length : Int)), !(decide ((65536 : Int) < (a.length : Int))), φ.may k n]) := by kernel_rfl
theorem w10d : ansO (run1O Try.prog (psm φ) (nn φ) sy10 [true, false, false, true] [.int .i64 z, .int .i64 z] (mask 10) 100 10 [.str k, .str n, .str a, .str s] [] Try.prog.globals.size) = some (.tup [.str [], .int .i64 100], [decide ((s.length : Int) < 16), !(decide ((65552 : Int) < (s.length : Int))), !(decide ((65536 : Int) < (a.length : Int))), φ.may k n]) := by kernel_rfl
theorem w10e : ansO (run1O Try.prog (psm φ) (nn φ) sy10 [true, false, false, false, true] [.int .i64 z, .int .i64 z] (mask 10) 100 10 [.str k, .str n, .str a, .str s] [] Try.prog.globals.size) = some (.tup [.str [], .int .i64 100], [!(φ.tg k n a (tk s z) == dr s z), i2 s z, zq s z, φ.may k n && (φ.sh a && φ.sh (tk s z)), i1 s z, zq s z, !(decide ((s.length : Int) < 16)), !(decide ((65552 : Int) < (s.length : Int))), !(decide ((65536 : Int) < (a.length : Int))), φ.may k n]) := by kernel_rfl
theorem w10f : ansO (run1O Try.prog (psm φ) (nn φ) sy10 [true, false, false, false, false] [.int .i64 z, .int .i64 z] (mask 10) 100 10 [.str k, .str n, .str a, .str s] [] Try.prog.globals.size) = some (.tup [.str (φ.tv k n 1 (tk s z)), .int .i64 0], [φ.sh (tk s z), !!(φ.tg k n a (tk s z) == dr s z), i2 s z, zq s z, φ.may k n && (φ.sh a && φ.sh (tk s z)), i1 s z, zq s z, !(decide ((s.length : Int) < 16)), !(decide ((65552 : Int) < (s.length : Int))), !(decide ((65536 : Int) < (a.length : Int))), φ.may k n]) := by kernel_rfl
end
/-! ### as functions -/
def ct (k n s : List UInt8) : List UInt8 := Cha.trn k n 1 s
def seF (k n a s : List UInt8) : List UInt8 × Int := cond (Cha.may k n) (if 65536 < a.length ∨ 65536 < s.length then ([], 4) else (ct k n s ++ tagA k n a (ct k n s), 0)) ([], 2)
def opF (k n a s : List UInt8) : List UInt8 × Int := cond (Cha.may k n) (if 65536 < a.length ∨ 65552 < s.length then ([], 4) else if s.length < 16 then ([], 100) else if tagA k n a (s.take (s.length - 16)) = s.drop (s.length - 16) then (ct k n (s.take (s.length - 16)), 0) else ([], 100)) ([], 2)
theorem over1 {m : Nat} (h : m ≤ 65552) : Cha.over 1 m = false := by
  rw [Cha.over_nat 1 (by omega)]
  refine decide_eq_false ?_
  have : (1 : UInt32).toNat = 1 := rfl
  omega
theorem tv1 {k n s : List UInt8} (hm : Cha.may k n = true) (h : s.length ≤ 65552) : Cha.tvR k n 1 s = ct k n s ∧ Cha.trR k n 1 s = 0 := by
  unfold Cha.tvR Cha.trR
  rw [hm, over1 h]
  exact ⟨rfl, rfl⟩
theorem tag_len {k n a c : List UInt8} (hm : Cha.may k n = true) : (tagA k n a c).length = 16 := by
  unfold tagA Pol.tvR
  rw [k0_len hm]
  exact Pol.tag_len _ _
theorem tg1 {k n : List UInt8} (hm : Cha.may k n = true) (a c : List UInt8) : realFm.tg k n a c = tagA k n a c := by
  show tgR k n a c = _
  unfold tgR
  rw [hm]; rfl
theorem ct_len (k n s : List UInt8) : (ct k n s).length = s.length := Cha.trn_len _ _ _ _
theorem tr_no {k n s : List UInt8} (hm : Cha.may k n = false) : Cha.trR k n 1 s = 2 := by
  unfold Cha.trR
  rw [hm]; rfl
theorem br1 {k n : List UInt8} (hm : Cha.may k n = true) : realFm.br k n = 0 := by
  show brR k n = 0
  unfold brR
  rw [hm]; rfl
theorem sh0 : realFm.sh [] = true := rfl
theorem shle {s : List UInt8} (h : s.length ≤ 200000) : realFm.sh s = true := Nat.ble_eq_true_of_le h
theorem call7 (k n a s : List UInt8) : CallOk Try.prog 7 [.str k, .str n, .str a, .str s] (.pure (.tup [.str (seF k n a s).1, .int .i64 (seF k n a s).2])) := by
  unfold seF
  cases hm : Cha.may k n with
  | false =>
    have e : realFm.tr k n 1 [] = 2 := tr_no hm
    have r := callOk_val nn_ok hmix (ansO_run (nn_ps _) (w7a realFm k n a s) (by rw [e]; rfl)) rfl rfl
    rw [e] at r
    exact r
  | true =>
    have e0 : (realFm.tr k n 1 [] != 0) = false := by
      have : realFm.tr k n 1 [] = 0 := (tv1 hm (by show 0 ≤ 65552; omega)).2
      rw [this]; rfl
    rw [cond_true]
    by_cases ha : 65536 < a.length
    · rw [if_pos (.inl ha)]
      exact callOk_val nn_ok hmix (ansO_run (nn_ps _) (w7b realFm k n a s) (by simp only [allT, e0, sh0, decide_eq_true (show (65536 : Int) < (a.length : Int) by omega), Bool.not_false, cond_true])) rfl rfl
    · have e1 := decide_eq_false (show ¬ ((65536 : Int) < (a.length : Int)) by omega)
      by_cases hs : 65536 < s.length
      · rw [if_pos (.inr hs)]
        exact callOk_val nn_ok hmix (ansO_run (nn_ps _) (w7c realFm k n a s) (by simp only [allT, e0, sh0, e1, decide_eq_true (show (65536 : Int) < (s.length : Int) by omega), Bool.not_false, cond_true])) rfl rfl
      · rw [if_neg (by omega)]
        have e2 := decide_eq_false (show ¬ ((65536 : Int) < (s.length : Int)) by omega)
        have t1 : realFm.tv k n 1 s = ct k n s := (tv1 hm (by omega)).1
        have q := w7d realFm k n a s
        rw [t1, tg1 hm, br1 hm] at q
        exact callOk_val nn_ok hmix (ansO_run (nn_ps _) q (by
          have o1 : Nat.ble ((ct k n s).length + (tagA k n a (ct k n s)).length) 9223372036854775807 = true := Nat.ble_eq_true_of_le (by rw [ct_len, tag_len hm]; omega)
          simp only [allT, e0, sh0, e1, e2, o1, shle (show a.length ≤ 200000 by omega), shle (show s.length ≤ 200000 by omega), shle (show (ct k n s).length ≤ 200000 by rw [ct_len]; omega), Bool.and_self, Bool.not_false, cond_true])) rfl rfl
theorem call8 (k n a s : List UInt8) : CallOk Try.prog 8 [.str k, .str n, .str a, .str s] (.pure (.tup [.str (seF k n a s).1, .int .i64 (seF k n a s).2])) := by
  unfold seF
  cases hm : Cha.may k n with
  | false =>
    have e : realFm.may k n = false := hm
    exact callOk_val nn_ok hmix (ansO_run (nn_ps _) (w8a realFm k n a s) (by rw [e]; rfl)) rfl rfl
  | true =>
    have e0 : realFm.may k n = true := hm
    rw [cond_true]
    by_cases ha : 65536 < a.length
    · rw [if_pos (.inl ha)]
      exact callOk_val nn_ok hmix (ansO_run (nn_ps _) (w8b realFm k n a s) (by simp only [allT, e0, decide_eq_true (show (65536 : Int) < (a.length : Int) by omega), Bool.not_false, cond_true])) rfl rfl
    · have e1 := decide_eq_false (show ¬ ((65536 : Int) < (a.length : Int)) by omega)
      by_cases hs : 65536 < s.length
      · rw [if_pos (.inr hs)]
        exact callOk_val nn_ok hmix (ansO_run (nn_ps _) (w8c realFm k n a s) (by simp only [allT, e0, e1, decide_eq_true (show (65536 : Int) < (s.length : Int) by omega), Bool.not_false, cond_true])) rfl rfl
      · rw [if_neg (by omega)]
        have e2 := decide_eq_false (show ¬ ((65536 : Int) < (s.length : Int)) by omega)
        have t1 : realFm.tv k n 1 s = ct k n s := (tv1 hm (by omega)).1
        have q := w8d realFm k n a s
        rw [t1, tg1 hm] at q
        exact callOk_val nn_ok hmix (ansO_run (nn_ps _) q (by
          have o1 : Nat.ble ((ct k n s).length + (tagA k n a (ct k n s)).length) 9223372036854775807 = true := Nat.ble_eq_true_of_le (by rw [ct_len, tag_len hm]; omega)
          simp only [allT, e0, e1, e2, o1, shle (show a.length ≤ 200000 by omega), shle (show s.length ≤ 200000 by omega), shle (show (ct k n s).length ≤ 200000 by rw [ct_len]; omega), Bool.and_self, Bool.not_false, cond_true])) rfl rfl
theorem tk_eq (s : List UInt8) (m : Nat) : tk s (m : Int) = s.take m := by unfold tk; rw [Int.toNat_natCast]; rfl
theorem dr_eq (s : List UInt8) (m : Nat) : dr s (m : Int) = s.drop m := by unfold dr; rw [Int.toNat_natCast, Int.toNat_natCast, List.take_length]
theorem zq_ok {s : List UInt8} (h : s.length ≤ 1000000000) {z : Int} (hz : (s.length : Int) - 16 = z) : zq s z = true := by
  unfold zq
  rw [wrapI _ (by omega) (by omega), hz]
  simp [eqS]
theorem call9 (k n a s : List UInt8) (hl : s.length ≤ 1000000000) : CallOk Try.prog 9 [.str k, .str n, .str a, .str s] (.pure (.tup [.str (opF k n a s).1, .int .i64 (opF k n a s).2])) := by
  unfold opF
  obtain ⟨z, hz⟩ : ∃ z, (s.length : Int) - 16 = z := ⟨_, rfl⟩
  have hq := zq_ok hl hz
  cases hm : Cha.may k n with
  | false =>
    have e : realFm.tr k n 1 [] = 2 := tr_no hm
    have r := callOk_val nn_ok hmix (ansO_run (nn_ps _) (w9a realFm k n a s z) (by rw [e]; rfl)) rfl rfl
    rw [e] at r
    exact r
  | true =>
    have e0 : (realFm.tr k n 1 [] != 0) = false := by
      have : realFm.tr k n 1 [] = 0 := (tv1 hm (by show 0 ≤ 65552; omega)).2
      rw [this]; rfl
    rw [cond_true]
    by_cases ha : 65536 < a.length
    · rw [if_pos (.inl ha)]
      exact callOk_val nn_ok hmix (ansO_run (nn_ps _) (w9b realFm k n a s z) (by simp only [allT, e0, sh0, hq, decide_eq_true (show (65536 : Int) < (a.length : Int) by omega), Bool.not_false, cond_true])) rfl rfl
    have e1 := decide_eq_false (show ¬ ((65536 : Int) < (a.length : Int)) by omega)
    by_cases hs : 65552 < s.length
    · rw [if_pos (.inr hs)]
      exact callOk_val nn_ok hmix (ansO_run (nn_ps _) (w9c realFm k n a s z) (by simp only [allT, e0, sh0, e1, hq, decide_eq_true (show (65536 : Int) < z by omega), Bool.not_false, cond_true])) rfl rfl
    rw [if_neg (by omega)]
    have e2 := decide_eq_false (show ¬ ((65536 : Int) < z) by omega)
    by_cases h16 : s.length < 16
    · rw [if_pos h16]
      exact callOk_val nn_ok hmix (ansO_run (nn_ps _) (w9d realFm k n a s z) (by simp only [allT, e0, sh0, e1, e2, hq, decide_eq_true (show z < 0 by omega), Bool.not_false, cond_true])) rfl rfl
    rw [if_neg h16]
    have e3 := decide_eq_false (show ¬ (z < 0) by omega)
    have hzm : z = ((s.length - 16 : Nat) : Int) := by omega
    have hi1 : i1 s z = true := by unfold i1; simp only [Bool.and_eq_true, decide_eq_true_eq]; omega
    have hi2 : i2 s z = true := by unfold i2; simp only [Bool.and_eq_true, decide_eq_true_eq]; omega
    have htk : tk s z = s.take (s.length - 16) := by rw [hzm]; exact tk_eq _ _
    have hdr : dr s z = s.drop (s.length - 16) := by rw [hzm]; exact dr_eq _ _
    have hlt : (s.take (s.length - 16)).length ≤ 65552 := by rw [List.length_take]; omega
    have eb : (realFm.br k n != 0) = false := by rw [br1 hm]; rfl
    have ht := tv1 hm hlt
    have ht1 : realFm.tv k n 1 (s.take (s.length - 16)) = ct k n (s.take (s.length - 16)) := ht.1
    have ht2 : realFm.tr k n 1 (s.take (s.length - 16)) = 0 := ht.2
    have st : realFm.sh (tagA k n a (s.take (s.length - 16))) = true := shle (by rw [tag_len hm]; omega)
    by_cases he : tagA k n a (s.take (s.length - 16)) = s.drop (s.length - 16)
    · rw [if_pos he]
      have q := w9e realFm k n a s z
      rw [htk, hdr, tg1 hm, ht1, ht2] at q
      exact callOk_val nn_ok hmix (ansO_run (nn_ps _) q (by
        have hsm : realFm.sm (tagA k n a (s.take (s.length - 16))) (s.drop (s.length - 16)) = true := by show (_ == _) = true; rw [he]; simp
        simp only [allT, e0, sh0, e1, e2, e3, hq, hi1, hi2, eb, hsm, st, shle (show a.length ≤ 200000 by omega), shle (show (s.take (s.length - 16)).length ≤ 200000 by omega), Bool.and_self, Bool.not_false, cond_true])) rfl rfl
    · rw [if_neg he]
      have q := w9f realFm k n a s z
      rw [htk, hdr, tg1 hm] at q
      exact callOk_val nn_ok hmix (ansO_run (nn_ps _) q (by
        have hsm : realFm.sm (tagA k n a (s.take (s.length - 16))) (s.drop (s.length - 16)) = false := by show (_ == _) = false; simp [he]
        simp only [allT, e0, sh0, e1, e2, e3, hq, hi1, hi2, eb, hsm, st, shle (show a.length ≤ 200000 by omega), shle (show (s.take (s.length - 16)).length ≤ 200000 by omega), Bool.and_self, Bool.not_false, cond_true])) rfl rfl
theorem call10 (k n a s : List UInt8) (hl : s.length ≤ 1000000000) : CallOk Try.prog 10 [.str k, .str n, .str a, .str s] (.pure (.tup [.str (opF k n a s).1, .int .i64 (opF k n a s).2])) := by
  unfold opF
  obtain ⟨z, hz⟩ : ∃ z, (s.length : Int) - 16 = z := ⟨_, rfl⟩
  have hq := zq_ok hl hz
  cases hm : Cha.may k n with
  | false =>
    have e : realFm.may k n = false := hm
    exact callOk_val nn_ok hmix (ansO_run (nn_ps _) (w10a realFm k n a s z) (by rw [e]; rfl)) rfl rfl
  | true =>
    have e0 : realFm.may k n = true := hm
    rw [cond_true]
    by_cases ha : 65536 < a.length
    · rw [if_pos (.inl ha)]
      exact callOk_val nn_ok hmix (ansO_run (nn_ps _) (w10b realFm k n a s z) (by simp only [allT, e0, decide_eq_true (show (65536 : Int) < (a.length : Int) by omega), Bool.not_false, cond_true])) rfl rfl
    have e1 := decide_eq_false (show ¬ ((65536 : Int) < (a.length : Int)) by omega)
    by_cases hs : 65552 < s.length
    · rw [if_pos (.inr hs)]
      exact callOk_val nn_ok hmix (ansO_run (nn_ps _) (w10c realFm k n a s z) (by simp only [allT, e0, e1, decide_eq_true (show (65552 : Int) < (s.length : Int) by omega), Bool.not_false, cond_true])) rfl rfl
    rw [if_neg (by omega)]
    have e2 := decide_eq_false (show ¬ ((65552 : Int) < (s.length : Int)) by omega)
    by_cases h16 : s.length < 16
    · rw [if_pos h16]
      exact callOk_val nn_ok hmix (ansO_run (nn_ps _) (w10d realFm k n a s z) (by simp only [allT, e0, e1, e2, decide_eq_true (show (s.length : Int) < 16 by omega), Bool.not_false, cond_true])) rfl rfl
    rw [if_neg h16]
    have e3 := decide_eq_false (show ¬ ((s.length : Int) < 16) by omega)
    have hzm : z = ((s.length - 16 : Nat) : Int) := by omega
    have hi1 : i1 s z = true := by unfold i1; simp only [Bool.and_eq_true, decide_eq_true_eq]; omega
    have hi2 : i2 s z = true := by unfold i2; simp only [Bool.and_eq_true, decide_eq_true_eq]; omega
    have htk : tk s z = s.take (s.length - 16) := by rw [hzm]; exact tk_eq _ _
    have hdr : dr s z = s.drop (s.length - 16) := by rw [hzm]; exact dr_eq _ _
    have hlt : (s.take (s.length - 16)).length ≤ 65552 := by rw [List.length_take]; omega
    have ht := tv1 hm hlt
    have ht1 : realFm.tv k n 1 (s.take (s.length - 16)) = ct k n (s.take (s.length - 16)) := ht.1
    by_cases he : tagA k n a (s.take (s.length - 16)) = s.drop (s.length - 16)
    · rw [if_pos he]
      have q := w10f realFm k n a s z
      rw [htk, hdr, tg1 hm, ht1] at q
      exact callOk_val nn_ok hmix (ansO_run (nn_ps _) q (by
        have hsm : (tagA k n a (s.take (s.length - 16)) == s.drop (s.length - 16)) = true := by rw [he]; simp
        simp only [allT, e0, e1, e2, e3, hq, hi1, hi2, hsm, shle (show a.length ≤ 200000 by omega), shle (show (s.take (s.length - 16)).length ≤ 200000 by omega), Bool.and_self, Bool.not_false, Bool.not_true, cond_true])) rfl rfl
    · rw [if_neg he]
      have q := w10e realFm k n a s z
      rw [htk, hdr, tg1 hm] at q
      exact callOk_val nn_ok hmix (ansO_run (nn_ps _) q (by
        have hsm : (tagA k n a (s.take (s.length - 16)) == s.drop (s.length - 16)) = false := by simp [he]
        simp only [allT, e0, e1, e2, e3, hq, hi1, hi2, hsm, shle (show a.length ≤ 200000 by omega), shle (show (s.take (s.length - 16)).length ≤ 200000 by omega), Bool.and_self, Bool.not_false, cond_true])) rfl rfl
end Go.Proofs.Ytifohjjmbohhnaa.Ae

/- Nonces; what the laws are made of. -/
namespace Go.Proofs.Ytifohjjmbohhnaa.Ae
set_option linter.unusedVariables false
set_option linter.unusedSimpArgs false
open Go Go.Eng Go.Proofs.Ytifohjjmbohhnaa
set_option maxRecDepth 100000
set_option maxHeartbeats 1000000
set_option linter.unusedSimpArgs false
set_option linter.unusedVariables false
def nonL (n : UInt64) : List UInt8 := [0, 0, 0, 0] ++ Bld.eightL n
def cs8 : CS := csAlt (csOne 19 (g8 Bld.eightL)) (csOne 20 (g8 Bld.eightL))
theorem cs8_ok : CSOk Try.prog cs8 := csAlt_ok g19_ok g20_ok
theorem run11 (n : UInt64) : (run1 Try.prog cs8 (mask 11) 100 11 [.u64 n] [] Try.prog.globals.size).map (·.1) = some (.str (nonL n)) := by kernel_rfl
theorem run12 (n : UInt64) : (run1 Try.prog cs8 (mask 12) 100 12 [.u64 n] [] Try.prog.globals.size).map (·.1) = some (.str (nonL n)) := by kernel_rfl
theorem g11_ok : CSOk Try.prog (csOne 11 (g8 nonL)) := csOne_ok fun args e he => by
  unfold g8 at he
  split at he
  · cases he; exact callOk_val cs8_ok hmix (run11 _) rfl rfl
  · cases he
theorem g12_ok : CSOk Try.prog (csOne 12 (g8 nonL)) := csOne_ok fun args e he => by
  unfold g8 at he
  split at he
  · cases he; exact callOk_val cs8_ok hmix (run12 _) rfl rfl
  · cases he
structure Fn where
  sv : List UInt8 → List UInt8 → List UInt8 → List UInt8 → List UInt8
  sr : List UInt8 → List UInt8 → List UInt8 → List UInt8 → Int
  ov : List UInt8 → List UInt8 → List UInt8 → List UInt8 → List UInt8
  wr : List UInt8 → List UInt8 → List UInt8 → List UInt8 → Int
  sl : List UInt8 → Bool
def slR (s : List UInt8) : Bool := Nat.ble s.length 1000000000
def realFn : Fn := ⟨fun k n a s => (seF k n a s).1, fun k n a s => (seF k n a s).2, fun k n a s => (opF k n a s).1, fun k n a s => (opF k n a s).2, slR⟩
def hSeal (φ : Fn) : List AVal → Option EffA
  | [.str k, .str n, .str a, .str s] => some (.pure (.tup [.str (φ.sv k n a s), .int .i64 (φ.sr k n a s)]))
  | _ => none
def qOpen (φ : Fn) : List AVal → Option (EffA × Bool)
  | [.str k, .str n, .str a, .str s] => some (.pure (.tup [.str (φ.ov k n a s), .int .i64 (φ.wr k n a s)]), φ.sl s)
  | _ => none
theorem seal7 : CSOk Try.prog (csOne 7 (hSeal realFn)) := csOne_ok fun args e he => by
  unfold hSeal at he
  split at he
  · cases he; exact call7 _ _ _ _
  · cases he
theorem seal8 : CSOk Try.prog (csOne 8 (hSeal realFn)) := csOne_ok fun args e he => by
  unfold hSeal at he
  split at he
  · cases he; exact call8 _ _ _ _
  · cases he
theorem open9 : CSOk Try.prog (csP (psOne 9 (qOpen realFn))) := csP_one fun args v he => by
  unfold qOpen at he
  split at he
  · rename_i a b c s
    simp only [Option.some.injEq, Prod.mk.injEq] at he
    obtain ⟨rfl, h⟩ := he
    exact call9 a b c s (Nat.le_of_ble_eq_true h)
  · cases he
theorem open10 : CSOk Try.prog (csP (psOne 10 (qOpen realFn))) := csP_one fun args v he => by
  unfold qOpen at he
  split at he
  · rename_i a b c s
    simp only [Option.some.injEq, Prod.mk.injEq] at he
    obtain ⟨rfl, h⟩ := he
    exact call10 a b c s (Nat.le_of_ble_eq_true h)
  · cases he
def psn (φ : Fn) : PS := psAlt (psOne 9 (qOpen φ)) (psOne 10 (qOpen φ))
theorem psn_ok : CSOk Try.prog (csP (psn realFn)) := csP_alt open9 open10
def nb (φ : Fn) : CS := csAlt (csP (psn φ)) (csAlt (csOne 7 (hSeal φ)) (csAlt (csOne 8 (hSeal φ)) (csAlt (csOne 11 (g8 nonL)) (csOne 12 (g8 nonL)))))
theorem nb_ok : CSOk Try.prog (nb realFn) := csAlt_ok psn_ok (csAlt_ok seal7 (csAlt_ok seal8 (csAlt_ok g11_ok g12_ok)))
theorem nb_ps (φ : Fn) : PSOk (psn φ) (nb φ) := csP_ok
end Go.Proofs.Ytifohjjmbohhnaa.Ae
