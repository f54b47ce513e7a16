/- Numbers modulo 2^255 - 19: the program's words, the document's parts. -/
import Derived.Test.YtkgbpnihbamceaaNum2
import Derived.Test.YtkgbpnihbamceaaNum3
namespace Go.Num
set_option linter.unusedVariables false
set_option linter.unusedSimpArgs false
open Go Go.Eng
structure Wd where
  hi : UInt64
  lo : UInt64
def Wd.av (w : Wd) : AVal := .agg [.u64 w.hi, .u64 w.lo]
structure N32 where
  lo : N16
  hi : N16
def N32.cells (t : N32) : List AVal := [.u64 t.lo.x0, .u64 t.lo.x1, .u64 t.lo.x2, .u64 t.lo.x3, .u64 t.lo.x4, .u64 t.lo.x5, .u64 t.lo.x6, .u64 t.lo.x7, .u64 t.lo.x8, .u64 t.lo.x9, .u64 t.lo.x10, .u64 t.lo.x11, .u64 t.lo.x12, .u64 t.lo.x13, .u64 t.lo.x14, .u64 t.lo.x15, .u64 t.hi.x0, .u64 t.hi.x1, .u64 t.hi.x2, .u64 t.hi.x3, .u64 t.hi.x4, .u64 t.hi.x5, .u64 t.hi.x6, .u64 t.hi.x7, .u64 t.hi.x8, .u64 t.hi.x9, .u64 t.hi.x10, .u64 t.hi.x11, .u64 t.hi.x12, .u64 t.hi.x13, .u64 t.hi.x14, .u64 t.hi.x15]
def N32.av (t : N32) : AVal := .agg t.cells
def N32.list (t : N32) : List UInt64 := t.lo.list ++ t.hi.list
def N16.cells (r : N16) : List AVal := [.u64 r.x0, .u64 r.x1, .u64 r.x2, .u64 r.x3, .u64 r.x4, .u64 r.x5, .u64 r.x6, .u64 r.x7, .u64 r.x8, .u64 r.x9, .u64 r.x10, .u64 r.x11, .u64 r.x12, .u64 r.x13, .u64 r.x14, .u64 r.x15]
def E5.cells (a : E5) : List AVal := [.u64 a.x0, .u64 a.x1, .u64 a.x2, .u64 a.x3, .u64 a.x4]
/-! ### the program's words -/
def m51 : UInt64 := 2251799813685247
def carriedE (a : E5) : E5 :=
  ⟨(a.x0 &&& m51) + 19 * shr_u64 a.x4 51, (a.x1 &&& m51) + shr_u64 a.x0 51, (a.x2 &&& m51) + shr_u64 a.x1 51, (a.x3 &&& m51) + shr_u64 a.x2 51, (a.x4 &&& m51) + shr_u64 a.x3 51⟩
def plusE (w : Wd) (a b : UInt64) : Wd :=
  ⟨w.hi + mulHi a b + bit64 (cyO w.lo (a * b) false), w.lo + a * b + bit64 false⟩
def shiftE (w : Wd) : UInt64 := shl_u64 w.hi 13 ||| shr_u64 w.lo 51
def zeroE : E5 := ⟨0, 0, 0, 0, 0⟩
def zeroWd : Wd := ⟨0, 0⟩
def wordE (s : List UInt8) : UInt64 :=
  (0 ||| shl_u64 (s.getD 0 0).toUInt64 0 ||| shl_u64 (s.getD 1 0).toUInt64 8 ||| shl_u64 (s.getD 2 0).toUInt64 16 ||| shl_u64 (s.getD 3 0).toUInt64 24 ||| shl_u64 (s.getD 4 0).toUInt64 32 ||| shl_u64 (s.getD 5 0).toUInt64 40 ||| shl_u64 (s.getD 6 0).toUInt64 48 ||| shl_u64 (s.getD 7 0).toUInt64 56)
def ofE0 (s : List UInt8) : E5 :=
  ⟨(wordE s &&& m51) + 19 * (shr_u8 (s.getD 31 0) 7).toUInt64, shr_u64 (wordE (s.drop 6)) 3 &&& m51, shr_u64 (wordE (s.drop 12)) 6 &&& m51, shr_u64 (wordE (s.drop 19)) 1 &&& m51, shr_u64 (wordE (s.drop 24)) 12 &&& m51⟩
def ofEl (s : List UInt8) : E5 := cond (isLen s 32) (carriedE (ofE0 s)) zeroE
def ofEr (s : List UInt8) : Int := cond (isLen s 32) 0 2
def smallE (n : UInt32) : E5 := ⟨n.toUInt64, 0, 0, 0, 0⟩
def topE (a : E5) : UInt64 :=
  shr_u64 (a.x4 + shr_u64 (a.x3 + shr_u64 (a.x2 + shr_u64 (a.x1 + shr_u64 (a.x0 + 19) 51) 51) 51) 51) 51
def tailE (a : E5) (c : UInt64) : E5 :=
  let y0 := a.x0 + 19 * c
  let y1 := a.x1 + shr_u64 y0 51
  let y2 := a.x2 + shr_u64 y1 51
  let y3 := a.x3 + shr_u64 y2 51
  let y4 := a.x4 + shr_u64 y3 51
  ⟨y0 &&& m51, y1 &&& m51, y2 &&& m51, y3 &&& m51, y4 &&& m51⟩
def reducedE (a : E5) : E5 :=
  let b := carriedE (carriedE a)
  tailE b (topE b)
def limbE (a : E5) (k : Nat) : UInt64 := match k with | 0 => a.x0 | 1 => a.x1 | 2 => a.x2 | 3 => a.x3 | _ => a.x4
def byteE (a : E5) (i : Nat) : UInt8 :=
  let k := 8 * i
  cond (Nat.ble 44 (k % 51) && Nat.ble (k / 51 + 1) 4) ((shr_u64 (limbE a (k / 51)) (k % 51)).toUInt8 ||| (shl_u64 (limbE a (k / 51 + 1)) (51 - k % 51)).toUInt8) ((shr_u64 (limbE a (k / 51)) (k % 51)).toUInt8)
def bytesE (a : E5) : List UInt8 := (List.range 32).map (byteE (reducedE a))
def canonE (s : List UInt8) : Bool := (ofEr s == 0) && (bytesE (ofEl s) == s)
def addE (a b : E5) : E5 := carriedE ⟨a.x0 + b.x0, a.x1 + b.x1, a.x2 + b.x2, a.x3 + b.x3, a.x4 + b.x4⟩
def subE (a b : E5) : E5 := carriedE ⟨a.x0 + 4503599627370458 - b.x0, a.x1 + 4503599627370494 - b.x1, a.x2 + 4503599627370494 - b.x2, a.x3 + 4503599627370494 - b.x3, a.x4 + 4503599627370494 - b.x4⟩
def negE (a : E5) : E5 := subE zeroE a
/-- The five wide parts of a product. -/
def rowE (a b : E5) : Wd × Wd × Wd × Wd × Wd :=
  (plusE (plusE (plusE (plusE (plusE zeroWd a.x0 b.x0) a.x1 (19 * b.x4)) a.x2 (19 * b.x3)) a.x3 (19 * b.x2)) a.x4 (19 * b.x1),
   plusE (plusE (plusE (plusE (plusE zeroWd a.x0 b.x1) a.x1 b.x0) a.x2 (19 * b.x4)) a.x3 (19 * b.x3)) a.x4 (19 * b.x2),
   plusE (plusE (plusE (plusE (plusE zeroWd a.x0 b.x2) a.x1 b.x1) a.x2 b.x0) a.x3 (19 * b.x4)) a.x4 (19 * b.x3),
   plusE (plusE (plusE (plusE (plusE zeroWd a.x0 b.x3) a.x1 b.x2) a.x2 b.x1) a.x3 b.x0) a.x4 (19 * b.x4),
   plusE (plusE (plusE (plusE (plusE zeroWd a.x0 b.x4) a.x1 b.x3) a.x2 b.x2) a.x3 b.x1) a.x4 b.x0)
def mulE (a b : E5) : E5 :=
  let w := rowE a b
  carriedE ⟨(w.1.lo &&& m51) + 19 * shiftE w.2.2.2.2, (w.2.1.lo &&& m51) + shiftE w.1, (w.2.2.1.lo &&& m51) + shiftE w.2.1, (w.2.2.2.1.lo &&& m51) + shiftE w.2.2.1, (w.2.2.2.2.lo &&& m51) + shiftE w.2.2.2.1⟩
def sqE (a : E5) : Nat → E5
  | 0 => a
  | n + 1 => sqE (mulE a a) n
def onesF (a : E5) : Nat → Nat → E5
  | 0, _ => a
  | f + 1, n => cond (Nat.beq n 1) a
    (let h := onesF a f (n / 2)
     let h := mulE (sqE h (n / 2)) h
     cond (Nat.beq (n % 2) 1) (mulE (sqE h 1) a) h)
def onesE (a : E5) : E5 := onesF a 8 250
def invE (a : E5) : E5 := mulE (sqE (onesE a) 5) (mulE (mulE (mulE a a) a) (sqE a 3))
def turnedE : E5 := ⟨1718705420411056, 234908883556509, 2233514472574048, 2117202627021982, 765476049583133⟩
def eqE (a b : E5) : Bool := a.x0 == b.x0 && (a.x1 == b.x1 && (a.x2 == b.x2 && (a.x3 == b.x3 && (a.x4 == b.x4 && true))))
def sameE (a b : E5) : Bool := eqE (reducedE a) (reducedE b)
def oddE (a : E5) : Bool := ((reducedE a).x0 &&& 1) == 1
def root0E (a : E5) : E5 := mulE (sqE (onesE a) 2) (mulE a a)
def root1E (a : E5) : E5 := cond (sameE (mulE (root0E a) (root0E a)) a) (root0E a) (mulE (root0E a) turnedE)
def hasE (a : E5) : Bool := sameE (mulE (root1E a) (root1E a)) a
def rootE (a : E5) : E5 := cond (hasE a) (cond (oddE (root1E a)) (negE (root1E a)) (root1E a)) zeroE
/-! ### the document's parts -/
def carryL : List UInt64 → UInt64 → List UInt64 × UInt64
  | [], c => ([], c)
  | a :: l, c => (((a + c) &&& 65535) :: (carryL l (shr_u64 (a + c) 16)).1, (carryL l (shr_u64 (a + c) 16)).2)
def foldL : List UInt64 → List UInt64 → List UInt64
  | a :: l, b :: m => (a + 38 * b) :: foldL l m
  | _, _ => []
def headL (l : List UInt64) (f : UInt64 → UInt64) : List UInt64 :=
  match l with
  | [] => []
  | a :: l => f a :: l
def pass1 (t : N32) : N32 :=
  let r := carryL t.list 0
  ⟨N16.ofL (headL (foldL (r.1.take 16) (r.1.drop 16)) fun x => x + 1444 * r.2), zeroN⟩
def pass2 (n : N16) : N16 :=
  let r := carryL n.list 0
  N16.ofL (headL r.1 fun x => x + 38 * r.2)
def pass3 (t : N32) : N32 := ⟨pass2 t.lo, t.hi⟩
def primeN : N16 := ⟨65517, 65535, 65535, 65535, 65535, 65535, 65535, 65535, 65535, 65535, 65535, 65535, 65535, 65535, 65535, 32767⟩
def passes (t : N32) : N32 := pass3 (pass3 (pass3 (pass1 (pass1 (pass1 t)))))
def downN (n : N16) : N16 := cond (lessN n primeN) n (minusN n primeN)
def redN (t : N32) : N16 := downN (downN (passes t).lo)
def bndL (l : List UInt64) : Bool := l.all fun x => decide (x < 281474976710656)
def okB (a : N16) : Bool := a.list.all fun x => decide (x < 65536)
def wideN (a : N16) : N32 := ⟨a, zeroN⟩
def ofP (s : List UInt8) : N16 := redN (wideN (partsN s))
def smallN (n : UInt32) : N16 := ⟨(n &&& 65535).toUInt64, (shr_u32 n 16).toUInt64, 0, 0, 0, 0, 0, 0, 0, 0, 0, 0, 0, 0, 0, 0⟩
def canonP (s : List UInt8) : Bool := isLen s 32 && lessN (partsN s) primeN
def addP (a b : N16) : N16 := redN ⟨N16.ofL (sumL a.list b.list), zeroN⟩
def prodT (a b : N16) : N32 :=
  let l := prodL a.list b.list (List.replicate 32 0)
  ⟨N16.ofL (l.take 16), N16.ofL (l.drop 16)⟩
def mulP (a b : N16) : N16 := redN (prodT a b)
def negP (a : N16) : N16 := cond (isZ16 a) a (minusN primeN a)
def subP (a b : N16) : N16 := addP a (negP b)
def powF (a x : N16) : List Bool → N16
  | [] => x
  | b :: l => powF a (cond b (mulP (mulP x x) a) (mulP x x)) l
def powP (a : N16) (l : List Bool) : N16 := powF a (smallN 1) l
def bitsL (n k : Nat) : List Bool := (List.range n).map fun i => Nat.ble 8 (n - 1 - i) || (256 - k).testBit (n - 1 - i)
def invP (a : N16) : N16 := powP a (bitsL 255 21)
def iN : N16 := powP (smallN 2) (bitsL 253 5)
def eqN (a b : N16) : Bool := a.list.length == b.list.length && (a.list.zip b.list).all fun p => p.1 == p.2
def root0P (a : N16) : N16 := powP a (bitsL 252 2)
end Go.Num
namespace Go.Num
set_option linter.unusedVariables false
set_option linter.unusedSimpArgs false
open Go Go.Eng
def eqL2 : List UInt64 → List UInt64 → Bool
  | x :: l, y :: m => (x == y) && eqL2 l m
  | _, _ => true
def samP (a b : N16) : Bool := eqL2 a.list b.list
def root1P (a : N16) : N16 := cond (samP (mulP (root0P a) (root0P a)) a) (root0P a) (mulP (root0P a) iN)
def hasP (a : N16) : Bool := samP (mulP (root1P a) (root1P a)) a
def oddP (c : N16) : Bool := (c.x0 &&& 1) == 1
def rootP (a : N16) : N16 := cond (hasP a) (cond (oddP (root1P a)) (negP (root1P a)) (root1P a)) zeroN
end Go.Num
namespace Go.Num
set_option linter.unusedVariables false
set_option linter.unusedSimpArgs false
def etaN (a : N16) : N16 := ⟨a.x0, a.x1, a.x2, a.x3, a.x4, a.x5, a.x6, a.x7, a.x8, a.x9, a.x10, a.x11, a.x12, a.x13, a.x14, a.x15⟩
theorem etaN_eq (a : N16) : etaN a = a := by cases a; rfl
end Go.Num
namespace Go.Num
set_option linter.unusedVariables false
set_option linter.unusedSimpArgs false
def etaE (a : E5) : E5 := ⟨a.x0, a.x1, a.x2, a.x3, a.x4⟩
theorem etaE_eq (a : E5) : etaE a = a := by cases a; rfl
end Go.Num
