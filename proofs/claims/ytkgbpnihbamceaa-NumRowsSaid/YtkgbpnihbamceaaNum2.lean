/- Numbers in sixteen parts: the document's words. -/
import Derived.Test.YtkgbpnihbamceaaNum1
namespace Go.Num
set_option linter.unusedVariables false
set_option linter.unusedSimpArgs false
open Go Go.Eng
def twiceL : List UInt64 → UInt64 → List UInt64
  | [], _ => []
  | a :: l, c => ((2 * a + c) &&& 65535) :: twiceL l (shr_u64 (2 * a + c) 16)
def twiceN (a : N16) (c : UInt64) : N16 := N16.ofL (twiceL a.list c)
def minusL : List UInt64 → List UInt64 → UInt64 → List UInt64
  | a :: l, b :: m, c => ((65536 + a - b - c) &&& 65535) :: minusL l m (1 - shr_u64 (65536 + a - b - c) 16)
  | _, _, _ => []
def minusN (a b : N16) : N16 := N16.ofL (minusL a.list b.list 0)
def lessL : List UInt64 → List UInt64 → Bool
  | a :: l, b :: m => cond (a != b) (decide (a < b)) (lessL l m)
  | _, _ => false
def lessN (a b : N16) : Bool := lessL a.list.reverse b.list.reverse
def orderN : N16 := ⟨0xd3ed, 0x5cf5, 0x631a, 0x5812, 0x9cd6, 0xa2f7, 0xf9de, 0x14de, 0, 0, 0, 0, 0, 0, 0, 0x1000⟩
def zeroN : N16 := ⟨0, 0, 0, 0, 0, 0, 0, 0, 0, 0, 0, 0, 0, 0, 0, 0⟩
def redO (t : N16) : N16 := cond (lessN t orderN) t (minusN t orderN)
def bitN (r : N16) (c : UInt64) : N16 := redO (twiceN r c)
/-- The bit of a text at a place. -/
def bitAt (s : List UInt8) (i : Nat) : UInt64 := (shr_u8 (s.getD (i / 8) 0) (i % 8) &&& 1).toUInt64
/-- So many bits of a text, from the place n - 1 down. -/
def ofBits (s : List UInt8) (r : N16) : Nat → N16
  | 0 => r
  | n + 1 => ofBits s (bitN r (bitAt s n)) n
def ofN (s : List UInt8) : N16 := ofBits s zeroN (8 * s.length)
def partsL : List UInt8 → List UInt64
  | a :: b :: l => (0 ||| shl_u64 a.toUInt64 0 ||| shl_u64 b.toUInt64 8) :: partsL l
  | _ => []
def partsN (s : List UInt8) : N16 := N16.ofL (partsL s)
def canonN (s : List UInt8) : Bool := isLen s 32 && lessN (partsN s) orderN
def bytesN (a : N16) : List UInt8 := a.list.flatMap fun x => [(shr_u64 x 0).toUInt8, (shr_u64 x 8).toUInt8]
/-- Parts of any size as bytes. -/
def spillL : List UInt64 → UInt64 → List UInt8
  | [], _ => []
  | a :: l, c => (a + c).toUInt8 :: (shr_u64 (a + c) 8).toUInt8 :: spillL l (shr_u64 (a + c) 16)
def sumL : List UInt64 → List UInt64 → List UInt64
  | a :: l, b :: m => (a + b) :: sumL l m
  | _, _ => []
def addN (a b : N16) : N16 := ofN (spillL (sumL a.list b.list ++ List.replicate 16 0) 0)
/-- What both make, part by part. -/
def rowL (x : UInt64) : List UInt64 → List UInt64 → List UInt64
  | t :: l, b :: m => (t + x * b) :: rowL x l m
  | l, _ => l
def prodL : List UInt64 → List UInt64 → List UInt64 → List UInt64
  | [], _, t => t
  | x :: l, b, t => match rowL x t b with
    | [] => []
    | h :: r => h :: prodL l b r
def mulN (a b : N16) : N16 := ofN (spillL (prodL a.list b.list (List.replicate 32 0)) 0)
def negN (a : N16) : N16 := cond (decide (a = zeroN)) a (minusN orderN a)
end Go.Num
namespace Go.Num
set_option linter.unusedVariables false
set_option linter.unusedSimpArgs false
open Go Go.Eng
def isZ16 (a : N16) : Bool := a.list.all (fun x => x == 0)
theorem isZ16_eq (a : N16) : isZ16 a = decide (a = zeroN) := by
  obtain ⟨a0, a1, a2, a3, a4, a5, a6, a7, a8, a9, a10, a11, a12, a13, a14, a15⟩ := a
  rw [Bool.eq_iff_iff]
  simp [isZ16, zeroN, N16.list]
end Go.Num
