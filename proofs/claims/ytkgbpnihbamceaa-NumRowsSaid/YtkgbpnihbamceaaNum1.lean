/- Rows of words as structures. -/
import Derived.Test.YtkgbpnihbamceaaEng28
import Derived.Test.YtkgbpnihbamceaaEng24
import Derived.Test.YtkgbpnihbamceaaEng20
namespace Go.Num
set_option linter.unusedVariables false
set_option linter.unusedSimpArgs false
open Go Go.Eng
structure W4 where
  x0 : UInt64
  x1 : UInt64
  x2 : UInt64
  x3 : UInt64
  deriving DecidableEq
def W4.av (a : W4) : AVal := .agg [.u64 a.x0, .u64 a.x1, .u64 a.x2, .u64 a.x3]
structure E5 where
  x0 : UInt64
  x1 : UInt64
  x2 : UInt64
  x3 : UInt64
  x4 : UInt64
  deriving DecidableEq
def E5.av (a : E5) : AVal := .agg [.u64 a.x0, .u64 a.x1, .u64 a.x2, .u64 a.x3, .u64 a.x4]
structure N16 where
  x0 : UInt64
  x1 : UInt64
  x2 : UInt64
  x3 : UInt64
  x4 : UInt64
  x5 : UInt64
  x6 : UInt64
  x7 : UInt64
  x8 : UInt64
  x9 : UInt64
  x10 : UInt64
  x11 : UInt64
  x12 : UInt64
  x13 : UInt64
  x14 : UInt64
  x15 : UInt64
  deriving DecidableEq
def N16.av (a : N16) : AVal := .agg [.u64 a.x0, .u64 a.x1, .u64 a.x2, .u64 a.x3, .u64 a.x4, .u64 a.x5, .u64 a.x6, .u64 a.x7, .u64 a.x8, .u64 a.x9, .u64 a.x10, .u64 a.x11, .u64 a.x12, .u64 a.x13, .u64 a.x14, .u64 a.x15]
def N16.list (a : N16) : List UInt64 := [a.x0, a.x1, a.x2, a.x3, a.x4, a.x5, a.x6, a.x7, a.x8, a.x9, a.x10, a.x11, a.x12, a.x13, a.x14, a.x15]
def N16.ofL (l : List UInt64) : N16 := ⟨l.getD 0 0, l.getD 1 0, l.getD 2 0, l.getD 3 0, l.getD 4 0, l.getD 5 0, l.getD 6 0, l.getD 7 0, l.getD 8 0, l.getD 9 0, l.getD 10 0, l.getD 11 0, l.getD 12 0, l.getD 13 0, l.getD 14 0, l.getD 15 0⟩
def bit64 (b : Bool) : UInt64 := cond b 1 0

/-! ### modulo the order: the program's words -/
def minusB (a b : W4) : Bool × Bool × Bool × Bool :=
  let b0 := boO a.x0 b.x0 false
  let b1 := boO a.x1 b.x1 b0
  let b2 := boO a.x2 b.x2 b1
  (b0, b1, b2, boO a.x3 b.x3 b2)
def minusW (a b : W4) : W4 :=
  let b0 := boO a.x0 b.x0 false
  let b1 := boO a.x1 b.x1 b0
  let b2 := boO a.x2 b.x2 b1
  ⟨a.x0 - b.x0 - bit64 false, a.x1 - b.x1 - bit64 b0, a.x2 - b.x2 - bit64 b1, a.x3 - b.x3 - bit64 b2⟩
def belowW (a b : W4) : Bool :=
  let b0 := boO a.x0 b.x0 false
  let b1 := boO a.x1 b.x1 b0
  let b2 := boO a.x2 b.x2 b1
  bit64 (boO a.x3 b.x3 b2) == 1
def orderW : W4 := ⟨6346243789798364141, 1503914060200516822, 0, 1152921504606846976⟩
def lessW (a : W4) : W4 := cond (belowW a orderW) a (minusW a orderW)
def shl1W (a : W4) (c : UInt64) : W4 :=
  ⟨shl_u64 a.x0 1 ||| c, shl_u64 a.x1 1 ||| shr_u64 a.x0 63, shl_u64 a.x2 1 ||| shr_u64 a.x1 63, shl_u64 a.x3 1 ||| shr_u64 a.x2 63⟩
def bitW (a : W4) (c : UInt8) (i : Nat) : W4 := lessW (shl1W a ((shr_u8 c i &&& 1).toUInt64))
def byteW (a : W4) (c : UInt8) : W4 := bitW (bitW (bitW (bitW (bitW (bitW (bitW (bitW a c 7) c 6) c 5) c 4) c 3) c 2) c 1) c 0
def addW (a b : W4) : W4 :=
  let c0 := cyO a.x0 b.x0 false
  let c1 := cyO a.x1 b.x1 c0
  let c2 := cyO a.x2 b.x2 c1
  lessW ⟨a.x0 + b.x0 + bit64 false, a.x1 + b.x1 + bit64 c0, a.x2 + b.x2 + bit64 c1, a.x3 + b.x3 + bit64 c2⟩
end Go.Num
namespace Go.Num
set_option linter.unusedVariables false
set_option linter.unusedSimpArgs false
open Go Go.Eng
def zeroW : W4 := ⟨0, 0, 0, 0⟩
def ofW (s : List UInt8) : W4 := s.foldr (fun c a => byteW a c) zeroW
def okL (s : List UInt8) : Bool := Nat.beq s.length 32 || Nat.beq s.length 64
def oV (s : List UInt8) : W4 := cond (okL s) (ofW s) zeroW
def oE (s : List UInt8) : Int := cond (okL s) 0 2
def wordAt (a : W4) (k : Nat) : UInt64 := match k with | 0 => a.x0 | 1 => a.x1 | 2 => a.x2 | _ => a.x3
def bytesW (a : W4) : List UInt8 := (List.range 32).map fun i => (shr_u64 (wordAt a (i / 8)) (i % 8 * 8)).toUInt8
def clampL (s : List UInt8) : List UInt8 := (s.set 0 (s.getD 0 0 &&& 248)).set 31 (s.getD 31 0 &&& 127 ||| 64)
def isLen (s : List UInt8) (n : Nat) : Bool := Nat.beq s.length n
def clampV (s : List UInt8) : List UInt8 := cond (isLen s 32) (clampL s) []
def clampE (s : List UInt8) : Int := cond (isLen s 32) 0 2
def mulHi (x y : UInt64) : UInt64 := UInt64.ofNat (x.toNat * y.toNat / 18446744073709551616)
def negW (a : W4) : W4 := cond (decide (a = zeroW)) a (minusW orderW a)
def canonW (s : List UInt8) : Bool := (oE s == 0) && (bytesW (oV s) == s)
theorem len32 {α : Type} {l : List α} (h : l.length = 32) : ∃ a0 a1 a2 a3 a4 a5 a6 a7 a8 a9 a10 a11 a12 a13 a14 a15 a16 a17 a18 a19 a20 a21 a22 a23 a24 a25 a26 a27 a28 a29 a30 a31, l = [a0, a1, a2, a3, a4, a5, a6, a7, a8, a9, a10, a11, a12, a13, a14, a15, a16, a17, a18, a19, a20, a21, a22, a23, a24, a25, a26, a27, a28, a29, a30, a31] :=
  match l, h with
  | [_, _, _, _, _, _, _, _, _, _, _, _, _, _, _, _, _, _, _, _, _, _, _, _, _, _, _, _, _, _, _, _], _ => ⟨_, _, _, _, _, _, _, _, _, _, _, _, _, _, _, _, _, _, _, _, _, _, _, _, _, _, _, _, _, _, _, _, rfl⟩
/-- A list of 64, in two halves. -/
theorem len64 {α : Type} {l : List α} (h : l.length = 64) : ∃ a b : List α, l = a ++ b ∧ a.length = 32 ∧ b.length = 32 :=
  ⟨l.take 32, l.drop 32, (List.take_append_drop 32 l).symm, by simp [h], by simp [h]⟩
end Go.Num
namespace Go.Num
set_option linter.unusedVariables false
set_option linter.unusedSimpArgs false
open Go Go.Eng
theorem isLen_eq {s : List UInt8} {n : Nat} : isLen s n = true ↔ s.length = n := by
  unfold isLen
  exact ⟨Nat.eq_of_beq_eq_true, fun h => by rw [h]; exact Nat.beq_refl n⟩
theorem isLen_i (s : List UInt8) (n : Nat) : ((s.length : Int) == (n : Int)) = isLen s n := by
  rw [Bool.eq_iff_iff, isLen_eq]
  simp only [beq_iff_eq]
  omega
theorem isLen_32 (s : List UInt8) : ((s.length : Int) == 32) = isLen s 32 := isLen_i s 32
theorem isLen_64 (s : List UInt8) : ((s.length : Int) == 64) = isLen s 64 := isLen_i s 64
theorem notLen_32 (s : List UInt8) : ((s.length : Int) != 32) = !isLen s 32 := by rw [bne, isLen_32]
theorem notLen_64 (s : List UInt8) : ((s.length : Int) != 64) = !isLen s 64 := by rw [bne, isLen_64]
/-- All parts are 0, as the model's text asks it. -/
def isZ4 (a : W4) : Bool := a.x0 == 0 && (a.x1 == 0 && (a.x2 == 0 && (a.x3 == 0 && true)))
theorem isZ4_eq (a : W4) : isZ4 a = decide (a = zeroW) := by
  obtain ⟨a, b, c, d⟩ := a
  rw [Bool.eq_iff_iff]
  simp [isZ4, zeroW]
end Go.Num
namespace Go.Num
set_option linter.unusedVariables false
set_option linter.unusedSimpArgs false
open Go Go.Eng
theorem isLen_ne {s : List UInt8} {n : Nat} (h : isLen s n = false) : ¬ (s.length : Int) = (n : Int) := fun e => by
  have := isLen_eq.2 (Int.ofNat.inj e)
  rw [h] at this; cases this
theorem isLen_to {s : List UInt8} {n : Nat} (h : isLen s n = true) : (s.length : Int) = (n : Int) := by rw [isLen_eq.1 h]
theorem ne32 {s : List UInt8} (h : isLen s 32 = false) : ¬ (s.length : Int) = 32 := isLen_ne h
theorem ne64 {s : List UInt8} (h : isLen s 64 = false) : ¬ (s.length : Int) = 64 := isLen_ne h
theorem to32 {s : List UInt8} (h : isLen s 32 = true) : (s.length : Int) = 32 := isLen_to h
theorem to64 {s : List UInt8} (h : isLen s 64 = true) : (s.length : Int) = 64 := isLen_to h
end Go.Num
namespace Go.Eng
set_option linter.unusedVariables false
set_option linter.unusedSimpArgs false
open Go
theorem inlW_has {P : Program} {nn : FuncId → Nat} {F : Nat} {cs : CS} {f : FuncId} {args : List AVal} {e : EffA} (h : cs f args = some e) {n : Nat} : inlW P nn F cs n f args = some e := by
  cases n with
  | zero => exact h
  | succ n => simp only [inlW, h]
end Go.Eng
