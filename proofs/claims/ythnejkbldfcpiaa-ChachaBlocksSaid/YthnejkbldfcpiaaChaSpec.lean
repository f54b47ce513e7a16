/- ChaCha20 on plain lists: the words, the rounds, the block. -/
import Derived.Test.YthnejkbldfcpiaaEng
namespace Go.Cha
open Go Go.Eng
def rotl32 (x : UInt32) (k : Nat) : UInt32 := shl_u32 x k ||| shr_u32 x (32 - k)
def quarter (x : List UInt32) (a b c d : Nat) : List UInt32 :=
  let x := x.set a (x.getD a 0 + x.getD b 0)
  let x := x.set d (rotl32 (x.getD d 0 ^^^ x.getD a 0) 16)
  let x := x.set c (x.getD c 0 + x.getD d 0)
  let x := x.set b (rotl32 (x.getD b 0 ^^^ x.getD c 0) 12)
  let x := x.set a (x.getD a 0 + x.getD b 0)
  let x := x.set d (rotl32 (x.getD d 0 ^^^ x.getD a 0) 8)
  let x := x.set c (x.getD c 0 + x.getD d 0)
  x.set b (rotl32 (x.getD b 0 ^^^ x.getD c 0) 7)
theorem quarter_length (x : List UInt32) (a b c d : Nat) : (quarter x a b c d).length = x.length := by simp [quarter]
def dround (x : List UInt32) : List UInt32 :=
  let x := quarter x 0 4 8 12
  let x := quarter x 1 5 9 13
  let x := quarter x 2 6 10 14
  let x := quarter x 3 7 11 15
  let x := quarter x 0 5 10 15
  let x := quarter x 1 6 11 12
  let x := quarter x 2 7 8 13
  quarter x 3 4 9 14
theorem dround_length (x : List UInt32) : (dround x).length = x.length := by simp [dround, quarter_length]
def rounds (x : List UInt32) : Nat → List UInt32
  | 0 => x
  | n + 1 => dround (rounds x n)
theorem rounds_length (x : List UInt32) : ∀ n, (rounds x n).length = x.length
  | 0 => rfl
  | n + 1 => by rw [rounds, dround_length, rounds_length x n]
def word (a b c d : UInt8) : UInt32 := a.toUInt32 ||| shl_u32 b.toUInt32 8 ||| shl_u32 c.toUInt32 16 ||| shl_u32 d.toUInt32 24
def wordP (a b c d : UInt8) : UInt32 := 0 ||| shl_u32 a.toUInt32 0 ||| shl_u32 b.toUInt32 8 ||| shl_u32 c.toUInt32 16 ||| shl_u32 d.toUInt32 24
theorem wordP_eq (a b c d : UInt8) : wordP a b c d = word a b c d := by
  have h : shl_u32 a.toUInt32 0 = a.toUInt32 := by
    apply UInt32.toNat_inj.1
    simp [shl_u32, Nat.ble]
  simp only [wordP, word, h, UInt32.zero_or]
/-- Bytes as an array. -/
def bytesV (l : List UInt8) : AVal := .agg (l.map .u8)
def wordsOf : List UInt8 → List UInt32
  | a :: b :: c :: d :: l => word a b c d :: wordsOf l
  | _ => []
def le32 (n : UInt32) : List UInt8 := [n.toUInt8, (shr_u32 n 8).toUInt8, (shr_u32 n 16).toUInt8, (shr_u32 n 24).toUInt8]
def sigma : List UInt8 := [101, 120, 112, 97, 110, 100, 32, 51, 50, 45, 98, 121, 116, 101, 32, 107]
def seed (key nonce : List UInt8) (n : UInt32) : List UInt8 := sigma ++ key ++ le32 n ++ nonce
def outB (x y : List UInt32) : List UInt8 := (List.range 64).map fun i => (shr_u32 (x.getD (i / 4) 0 + y.getD (i / 4) 0) (8 * (i % 4))).toUInt8
def block (key nonce : List UInt8) (n : UInt32) : List UInt8 :=
  let x := wordsOf (seed key nonce n)
  outB x (rounds x 10)
/-- A list of sixteen, written out. -/
theorem sixteen {α : Type} {x : List α} (h : x.length = 16) : ∃ x0 x1 x2 x3 x4 x5 x6 x7 x8 x9 x10 x11 x12 x13 x14 x15, x = [x0, x1, x2, x3, x4, x5, x6, x7, x8, x9, x10, x11, x12, x13, x14, x15] := by
  match x, h with
  | [x0, x1, x2, x3, x4, x5, x6, x7, x8, x9, x10, x11, x12, x13, x14, x15], _ => exact ⟨_, _, _, _, _, _, _, _, _, _, _, _, _, _, _, _, rfl⟩
theorem twelve {α : Type} {x : List α} (h : x.length = 12) : ∃ x0 x1 x2 x3 x4 x5 x6 x7 x8 x9 x10 x11, x = [x0, x1, x2, x3, x4, x5, x6, x7, x8, x9, x10, x11] := by
  match x, h with
  | [x0, x1, x2, x3, x4, x5, x6, x7, x8, x9, x10, x11], _ => exact ⟨_, _, _, _, _, _, _, _, _, _, _, _, rfl⟩
theorem thirtytwo {α : Type} {x : List α} (h : x.length = 32) : ∃ x0 x1 x2 x3 x4 x5 x6 x7 x8 x9 x10 x11 x12 x13 x14 x15 x16 x17 x18 x19 x20 x21 x22 x23 x24 x25 x26 x27 x28 x29 x30 x31, x = [x0, x1, x2, x3, x4, x5, x6, x7, x8, x9, x10, x11, x12, x13, x14, x15, x16, x17, x18, x19, x20, x21, x22, x23, x24, x25, x26, x27, x28, x29, x30, x31] := by
  match x, h with
  | [x0, x1, x2, x3, x4, x5, x6, x7, x8, x9, x10, x11, x12, x13, x14, x15, x16, x17, x18, x19, x20, x21, x22, x23, x24, x25, x26, x27, x28, x29, x30, x31], _ => exact ⟨_, _, _, _, _, _, _, _, _, _, _, _, _, _, _, _, _, _, _, _, _, _, _, _, _, _, _, _, _, _, _, _, rfl⟩

end Go.Cha
