/- Summaries for the laws on numbers modulo 2^255 - 19. -/
import Derived.Test.YtkgbpnihbamceaaNp7
namespace Go.Proofs.Ytkgbpnihbamceaa
set_option linter.unusedVariables false
set_option linter.unusedSimpArgs false
open Go Go.Eng Go.Num
set_option maxRecDepth 100000
set_option maxHeartbeats 1000000
set_option linter.unusedSimpArgs false
set_option linter.unusedVariables false
structure Fs where
  of : List UInt8 → E5
  ofB : List UInt8 → Bool
  add : E5 → E5 → E5
  sub : E5 → E5 → E5
  mul : E5 → E5 → E5
  neg : E5 → E5
  inv : E5 → E5
  same : E5 → E5 → Bool
  odd : E5 → Bool
  small : UInt32 → E5
  root : E5 → E5
  has : E5 → Bool
  is : E5 → N16 → Bool
  ofN : List UInt8 → N16
  addN : N16 → N16 → N16
  subN : N16 → N16 → N16
  mulN : N16 → N16 → N16
  negN : N16 → N16
  ok : N16 → Bool
  l32 : List UInt8 → Bool
def realFs : Fs := ⟨ofEl, fun a => ofEr a == 0, addE, subE, mulE, negE, invE, sameE, oddE, smallE, rootE, hasE, fun a b => bytesE a == bytesN b, ofP, addP, subP, mulP, negP, okB, fun s => isLen s 32⟩
def q8 (φ : Fs) : List AVal → Option EffA
  | [.str a] => some (.pure (.tup [(E5.av (φ.of a)), .bool (φ.ofB a)]))
  | _ => none
theorem q8_ok : CSOk Try.prog (csOne 8 (q8 realFs)) := csOne_ok fun args e he => by
  unfold q8 at he
  split at he
  · rename_i a
    cases he
    exact g8_ok 8 [(.str a)] _ rfl
  · cases he
def q13 (φ : Fs) : List AVal → Option EffA
  | [.agg [.u64 a0, .u64 a1, .u64 a2, .u64 a3, .u64 a4], .agg [.u64 b0, .u64 b1, .u64 b2, .u64 b3, .u64 b4, .u64 b5, .u64 b6, .u64 b7, .u64 b8, .u64 b9, .u64 b10, .u64 b11, .u64 b12, .u64 b13, .u64 b14, .u64 b15]] => some (.pure (.bool (φ.is (E5.mk a0 a1 a2 a3 a4) (N16.mk b0 b1 b2 b3 b4 b5 b6 b7 b8 b9 b10 b11 b12 b13 b14 b15))))
  | _ => none
theorem q13_ok : CSOk Try.prog (csOne 13 (q13 realFs)) := csOne_ok fun args e he => by
  unfold q13 at he
  split at he
  · rename_i a0 a1 a2 a3 a4 b0 b1 b2 b3 b4 b5 b6 b7 b8 b9 b10 b11 b12 b13 b14 b15
    cases he
    exact g13_ok 13 [(E5.av (E5.mk a0 a1 a2 a3 a4)), (N16.av (N16.mk b0 b1 b2 b3 b4 b5 b6 b7 b8 b9 b10 b11 b12 b13 b14 b15))] _ rfl
  · cases he
def q9 (φ : Fs) : List AVal → Option EffA
  | [] => some (.pure (.bool true))
  | _ => none
theorem q9_ok : CSOk Try.prog (csOne 9 (q9 realFs)) := csOne_ok fun args e he => by
  unfold q9 at he
  split at he
  · skip
    cases he
    exact g9_ok 9 [] _ rfl
  · cases he
def q23 (φ : Fs) : List AVal → Option EffA
  | [.agg [.u64 a0, .u64 a1, .u64 a2, .u64 a3, .u64 a4], .agg [.u64 b0, .u64 b1, .u64 b2, .u64 b3, .u64 b4]] => some (.pure (E5.av (φ.add (E5.mk a0 a1 a2 a3 a4) (E5.mk b0 b1 b2 b3 b4))))
  | _ => none
theorem q23_ok : CSOk Try.prog (csOne 23 (q23 realFs)) := csOne_ok fun args e he => by
  unfold q23 at he
  split at he
  · rename_i a0 a1 a2 a3 a4 b0 b1 b2 b3 b4
    cases he
    exact g23_ok 23 [(E5.av (E5.mk a0 a1 a2 a3 a4)), (E5.av (E5.mk b0 b1 b2 b3 b4))] _ rfl
  · cases he
def q25 (φ : Fs) : List AVal → Option EffA
  | [.agg [.u64 a0, .u64 a1, .u64 a2, .u64 a3, .u64 a4], .agg [.u64 b0, .u64 b1, .u64 b2, .u64 b3, .u64 b4]] => some (.pure (E5.av (φ.sub (E5.mk a0 a1 a2 a3 a4) (E5.mk b0 b1 b2 b3 b4))))
  | _ => none
theorem q25_ok : CSOk Try.prog (csOne 25 (q25 realFs)) := csOne_ok fun args e he => by
  unfold q25 at he
  split at he
  · rename_i a0 a1 a2 a3 a4 b0 b1 b2 b3 b4
    cases he
    exact g25_ok 25 [(E5.av (E5.mk a0 a1 a2 a3 a4)), (E5.av (E5.mk b0 b1 b2 b3 b4))] _ rfl
  · cases he
def q27 (φ : Fs) : List AVal → Option EffA
  | [.agg [.u64 a0, .u64 a1, .u64 a2, .u64 a3, .u64 a4], .agg [.u64 b0, .u64 b1, .u64 b2, .u64 b3, .u64 b4]] => some (.pure (E5.av (φ.mul (E5.mk a0 a1 a2 a3 a4) (E5.mk b0 b1 b2 b3 b4))))
  | _ => none
theorem q27_ok : CSOk Try.prog (csOne 27 (q27 realFs)) := csOne_ok fun args e he => by
  unfold q27 at he
  split at he
  · rename_i a0 a1 a2 a3 a4 b0 b1 b2 b3 b4
    cases he
    exact g27_ok 27 [(E5.av (E5.mk a0 a1 a2 a3 a4)), (E5.av (E5.mk b0 b1 b2 b3 b4))] _ rfl
  · cases he
def q29 (φ : Fs) : List AVal → Option EffA
  | [.agg [.u64 a0, .u64 a1, .u64 a2, .u64 a3, .u64 a4]] => some (.pure (E5.av (φ.neg (E5.mk a0 a1 a2 a3 a4))))
  | _ => none
theorem q29_ok : CSOk Try.prog (csOne 29 (q29 realFs)) := csOne_ok fun args e he => by
  unfold q29 at he
  split at he
  · rename_i a0 a1 a2 a3 a4
    cases he
    exact g29_ok 29 [(E5.av (E5.mk a0 a1 a2 a3 a4))] _ rfl
  · cases he
def q14 (φ : Fs) : List AVal → Option EffA
  | [.agg [.u64 a0, .u64 a1, .u64 a2, .u64 a3, .u64 a4]] => some (.pure (E5.av (φ.inv (E5.mk a0 a1 a2 a3 a4))))
  | _ => none
theorem q14_ok : CSOk Try.prog (csOne 14 (q14 realFs)) := csOne_ok fun args e he => by
  unfold q14 at he
  split at he
  · rename_i a0 a1 a2 a3 a4
    cases he
    exact g14_ok 14 [(E5.av (E5.mk a0 a1 a2 a3 a4))] _ rfl
  · cases he
def q21 (φ : Fs) : List AVal → Option EffA
  | [.agg [.u64 a0, .u64 a1, .u64 a2, .u64 a3, .u64 a4], .agg [.u64 b0, .u64 b1, .u64 b2, .u64 b3, .u64 b4]] => some (.pure (.bool (φ.same (E5.mk a0 a1 a2 a3 a4) (E5.mk b0 b1 b2 b3 b4))))
  | _ => none
theorem q21_ok : CSOk Try.prog (csOne 21 (q21 realFs)) := csOne_ok fun args e he => by
  unfold q21 at he
  split at he
  · rename_i a0 a1 a2 a3 a4 b0 b1 b2 b3 b4
    cases he
    exact g21_ok 21 [(E5.av (E5.mk a0 a1 a2 a3 a4)), (E5.av (E5.mk b0 b1 b2 b3 b4))] _ rfl
  · cases he
def q22 (φ : Fs) : List AVal → Option EffA
  | [.agg [.u64 a0, .u64 a1, .u64 a2, .u64 a3, .u64 a4]] => some (.pure (.bool (φ.odd (E5.mk a0 a1 a2 a3 a4))))
  | _ => none
theorem q22_ok : CSOk Try.prog (csOne 22 (q22 realFs)) := csOne_ok fun args e he => by
  unfold q22 at he
  split at he
  · rename_i a0 a1 a2 a3 a4
    cases he
    exact g22_ok 22 [(E5.av (E5.mk a0 a1 a2 a3 a4))] _ rfl
  · cases he
def q19 (φ : Fs) : List AVal → Option EffA
  | [.u32 a] => some (.pure (E5.av (φ.small a)))
  | _ => none
theorem q19_ok : CSOk Try.prog (csOne 19 (q19 realFs)) := csOne_ok fun args e he => by
  unfold q19 at he
  split at he
  · rename_i a
    cases he
    exact g19_ok 19 [(.u32 a)] _ rfl
  · cases he
def q11 (φ : Fs) : List AVal → Option EffA
  | [.agg [.u64 a0, .u64 a1, .u64 a2, .u64 a3, .u64 a4]] => some (.pure (.tup [(E5.av (φ.root (E5.mk a0 a1 a2 a3 a4))), .bool (φ.has (E5.mk a0 a1 a2 a3 a4))]))
  | _ => none
theorem q11_ok : CSOk Try.prog (csOne 11 (q11 realFs)) := csOne_ok fun args e he => by
  unfold q11 at he
  split at he
  · rename_i a0 a1 a2 a3 a4
    cases he
    exact g11_ok 11 [(E5.av (E5.mk a0 a1 a2 a3 a4))] _ rfl
  · cases he
def q30 (φ : Fs) : List AVal → Option EffA
  | [.agg [.u64 a0, .u64 a1, .u64 a2, .u64 a3, .u64 a4, .u64 a5, .u64 a6, .u64 a7, .u64 a8, .u64 a9, .u64 a10, .u64 a11, .u64 a12, .u64 a13, .u64 a14, .u64 a15]] => some (.pure (N16.av (φ.negN (N16.mk a0 a1 a2 a3 a4 a5 a6 a7 a8 a9 a10 a11 a12 a13 a14 a15))))
  | _ => none
theorem q30_ok : CSOk Try.prog (csOne 30 (q30 realFs)) := csOne_ok fun args e he => by
  unfold q30 at he
  split at he
  · rename_i a0 a1 a2 a3 a4 a5 a6 a7 a8 a9 a10 a11 a12 a13 a14 a15
    cases he
    exact g30_ok 30 [(N16.av (N16.mk a0 a1 a2 a3 a4 a5 a6 a7 a8 a9 a10 a11 a12 a13 a14 a15))] _ rfl
  · cases he
def q10 (φ : Fs) : List AVal → Option (EffA × Bool)
  | [.str a] => some (.pure (N16.av (φ.ofN a)), φ.l32 a)
  | _ => none
theorem q10_ok : CSOk Try.prog (csP (psOne 10 (q10 realFs))) := csP_one fun args v he => by
  unfold q10 at he
  split at he
  · rename_i a
    simp only [Option.some.injEq, Prod.mk.injEq] at he
    obtain ⟨rfl, h⟩ := he
    have h2 : realFs.l32 a = true := h
    refine p10_ok 10 [(.str a)] _ ?_
    show cond (realFs.l32 a) _ _ = _
    rw [h2]; rfl
  · cases he
def q24 (φ : Fs) : List AVal → Option (EffA × Bool)
  | [.agg [.u64 a0, .u64 a1, .u64 a2, .u64 a3, .u64 a4, .u64 a5, .u64 a6, .u64 a7, .u64 a8, .u64 a9, .u64 a10, .u64 a11, .u64 a12, .u64 a13, .u64 a14, .u64 a15], .agg [.u64 b0, .u64 b1, .u64 b2, .u64 b3, .u64 b4, .u64 b5, .u64 b6, .u64 b7, .u64 b8, .u64 b9, .u64 b10, .u64 b11, .u64 b12, .u64 b13, .u64 b14, .u64 b15]] => some (.pure (N16.av (φ.addN (N16.mk a0 a1 a2 a3 a4 a5 a6 a7 a8 a9 a10 a11 a12 a13 a14 a15) (N16.mk b0 b1 b2 b3 b4 b5 b6 b7 b8 b9 b10 b11 b12 b13 b14 b15))), (φ.ok (N16.mk a0 a1 a2 a3 a4 a5 a6 a7 a8 a9 a10 a11 a12 a13 a14 a15) && φ.ok (N16.mk b0 b1 b2 b3 b4 b5 b6 b7 b8 b9 b10 b11 b12 b13 b14 b15)))
  | _ => none
theorem q24_ok : CSOk Try.prog (csP (psOne 24 (q24 realFs))) := csP_one fun args v he => by
  unfold q24 at he
  split at he
  · rename_i a0 a1 a2 a3 a4 a5 a6 a7 a8 a9 a10 a11 a12 a13 a14 a15 b0 b1 b2 b3 b4 b5 b6 b7 b8 b9 b10 b11 b12 b13 b14 b15
    simp only [Option.some.injEq, Prod.mk.injEq] at he
    obtain ⟨rfl, h⟩ := he
    have h2 : (realFs.ok (N16.mk a0 a1 a2 a3 a4 a5 a6 a7 a8 a9 a10 a11 a12 a13 a14 a15) && realFs.ok (N16.mk b0 b1 b2 b3 b4 b5 b6 b7 b8 b9 b10 b11 b12 b13 b14 b15)) = true := h
    refine p24_ok 24 [(N16.av (N16.mk a0 a1 a2 a3 a4 a5 a6 a7 a8 a9 a10 a11 a12 a13 a14 a15)), (N16.av (N16.mk b0 b1 b2 b3 b4 b5 b6 b7 b8 b9 b10 b11 b12 b13 b14 b15))] _ ?_
    show cond ((realFs.ok (N16.mk a0 a1 a2 a3 a4 a5 a6 a7 a8 a9 a10 a11 a12 a13 a14 a15) && realFs.ok (N16.mk b0 b1 b2 b3 b4 b5 b6 b7 b8 b9 b10 b11 b12 b13 b14 b15))) _ _ = _
    rw [h2]; rfl
  · cases he
def q26 (φ : Fs) : List AVal → Option (EffA × Bool)
  | [.agg [.u64 a0, .u64 a1, .u64 a2, .u64 a3, .u64 a4, .u64 a5, .u64 a6, .u64 a7, .u64 a8, .u64 a9, .u64 a10, .u64 a11, .u64 a12, .u64 a13, .u64 a14, .u64 a15], .agg [.u64 b0, .u64 b1, .u64 b2, .u64 b3, .u64 b4, .u64 b5, .u64 b6, .u64 b7, .u64 b8, .u64 b9, .u64 b10, .u64 b11, .u64 b12, .u64 b13, .u64 b14, .u64 b15]] => some (.pure (N16.av (φ.subN (N16.mk a0 a1 a2 a3 a4 a5 a6 a7 a8 a9 a10 a11 a12 a13 a14 a15) (N16.mk b0 b1 b2 b3 b4 b5 b6 b7 b8 b9 b10 b11 b12 b13 b14 b15))), (φ.ok (N16.mk a0 a1 a2 a3 a4 a5 a6 a7 a8 a9 a10 a11 a12 a13 a14 a15) && φ.ok (N16.mk b0 b1 b2 b3 b4 b5 b6 b7 b8 b9 b10 b11 b12 b13 b14 b15)))
  | _ => none
theorem q26_ok : CSOk Try.prog (csP (psOne 26 (q26 realFs))) := csP_one fun args v he => by
  unfold q26 at he
  split at he
  · rename_i a0 a1 a2 a3 a4 a5 a6 a7 a8 a9 a10 a11 a12 a13 a14 a15 b0 b1 b2 b3 b4 b5 b6 b7 b8 b9 b10 b11 b12 b13 b14 b15
    simp only [Option.some.injEq, Prod.mk.injEq] at he
    obtain ⟨rfl, h⟩ := he
    have h2 : (realFs.ok (N16.mk a0 a1 a2 a3 a4 a5 a6 a7 a8 a9 a10 a11 a12 a13 a14 a15) && realFs.ok (N16.mk b0 b1 b2 b3 b4 b5 b6 b7 b8 b9 b10 b11 b12 b13 b14 b15)) = true := h
    refine p26_ok 26 [(N16.av (N16.mk a0 a1 a2 a3 a4 a5 a6 a7 a8 a9 a10 a11 a12 a13 a14 a15)), (N16.av (N16.mk b0 b1 b2 b3 b4 b5 b6 b7 b8 b9 b10 b11 b12 b13 b14 b15))] _ ?_
    show cond ((realFs.ok (N16.mk a0 a1 a2 a3 a4 a5 a6 a7 a8 a9 a10 a11 a12 a13 a14 a15) && realFs.ok (N16.mk b0 b1 b2 b3 b4 b5 b6 b7 b8 b9 b10 b11 b12 b13 b14 b15))) _ _ = _
    rw [h2]; rfl
  · cases he
def q28 (φ : Fs) : List AVal → Option (EffA × Bool)
  | [.agg [.u64 a0, .u64 a1, .u64 a2, .u64 a3, .u64 a4, .u64 a5, .u64 a6, .u64 a7, .u64 a8, .u64 a9, .u64 a10, .u64 a11, .u64 a12, .u64 a13, .u64 a14, .u64 a15], .agg [.u64 b0, .u64 b1, .u64 b2, .u64 b3, .u64 b4, .u64 b5, .u64 b6, .u64 b7, .u64 b8, .u64 b9, .u64 b10, .u64 b11, .u64 b12, .u64 b13, .u64 b14, .u64 b15]] => some (.pure (N16.av (φ.mulN (N16.mk a0 a1 a2 a3 a4 a5 a6 a7 a8 a9 a10 a11 a12 a13 a14 a15) (N16.mk b0 b1 b2 b3 b4 b5 b6 b7 b8 b9 b10 b11 b12 b13 b14 b15))), (φ.ok (N16.mk a0 a1 a2 a3 a4 a5 a6 a7 a8 a9 a10 a11 a12 a13 a14 a15) && φ.ok (N16.mk b0 b1 b2 b3 b4 b5 b6 b7 b8 b9 b10 b11 b12 b13 b14 b15)))
  | _ => none
theorem q28_ok : CSOk Try.prog (csP (psOne 28 (q28 realFs))) := csP_one fun args v he => by
  unfold q28 at he
  split at he
  · rename_i a0 a1 a2 a3 a4 a5 a6 a7 a8 a9 a10 a11 a12 a13 a14 a15 b0 b1 b2 b3 b4 b5 b6 b7 b8 b9 b10 b11 b12 b13 b14 b15
    simp only [Option.some.injEq, Prod.mk.injEq] at he
    obtain ⟨rfl, h⟩ := he
    have h2 : (realFs.ok (N16.mk a0 a1 a2 a3 a4 a5 a6 a7 a8 a9 a10 a11 a12 a13 a14 a15) && realFs.ok (N16.mk b0 b1 b2 b3 b4 b5 b6 b7 b8 b9 b10 b11 b12 b13 b14 b15)) = true := h
    refine p28_ok 28 [(N16.av (N16.mk a0 a1 a2 a3 a4 a5 a6 a7 a8 a9 a10 a11 a12 a13 a14 a15)), (N16.av (N16.mk b0 b1 b2 b3 b4 b5 b6 b7 b8 b9 b10 b11 b12 b13 b14 b15))] _ ?_
    show cond ((realFs.ok (N16.mk a0 a1 a2 a3 a4 a5 a6 a7 a8 a9 a10 a11 a12 a13 a14 a15) && realFs.ok (N16.mk b0 b1 b2 b3 b4 b5 b6 b7 b8 b9 b10 b11 b12 b13 b14 b15))) _ _ = _
    rw [h2]; rfl
  · cases he
def psnl (φ : Fs) : PS := (psAlt (psOne 10 (q10 φ)) (psAlt (psOne 24 (q24 φ)) (psAlt (psOne 26 (q26 φ)) (psOne 28 (q28 φ)))))
theorem psnl_ok : CSOk Try.prog (csP (psnl realFs)) := (csP_alt q10_ok (csP_alt q24_ok (csP_alt q26_ok q28_ok)))
def chnl (φ : Fs) : CS := (csAlt (csOne 8 (q8 φ)) (csAlt (csOne 13 (q13 φ)) (csAlt (csOne 9 (q9 φ)) (csAlt (csOne 23 (q23 φ)) (csAlt (csOne 25 (q25 φ)) (csAlt (csOne 27 (q27 φ)) (csAlt (csOne 29 (q29 φ)) (csAlt (csOne 14 (q14 φ)) (csAlt (csOne 21 (q21 φ)) (csAlt (csOne 22 (q22 φ)) (csAlt (csOne 19 (q19 φ)) (csAlt (csOne 11 (q11 φ)) (csOne 30 (q30 φ))))))))))))))
theorem chnl_ok : CSOk Try.prog (chnl realFs) := (csAlt_ok q8_ok (csAlt_ok q13_ok (csAlt_ok q9_ok (csAlt_ok q23_ok (csAlt_ok q25_ok (csAlt_ok q27_ok (csAlt_ok q29_ok (csAlt_ok q14_ok (csAlt_ok q21_ok (csAlt_ok q22_ok (csAlt_ok q19_ok (csAlt_ok q11_ok q30_ok))))))))))))
def nl (φ : Fs) : CS := csAlt (csP (psnl φ)) (chnl φ)
theorem nl_ok : CSOk Try.prog (nl realFs) := csAlt_ok psnl_ok chnl_ok
theorem nl_ps (φ : Fs) : PSOk (psnl φ) (nl φ) := csP_ok
end Go.Proofs.Ytkgbpnihbamceaa
