/- Texts Ro2, Ro3, Ro4, Ro5, Ro6, Mo9, Ro7, Ro8, Rk0, RsS, Rs2, Rp0, Rp1: what they show that this claim uses. -/
import Derived.Test.YtlchjbidkdokmaaGreatDoorP7
import Derived.Test.YtlchjbidkdokmaaGreatDoorP8
import Derived.Test.YtlchjbidkdokmaaGreatDoorP6
import Derived.Shelf.Strings.OnBuilder
import Derived.Test.YtlchjbidkdokmaaGreatDoorChecked
import Derived.Laws.IdiomRangeMap
import Derived.WalkKit
import Derived.Test.YtlchjbidkdokmaaGreatDoorP3
import Derived.RangeFuncRecord
import Derived.BigRegion
set_option maxRecDepth 100000
set_option maxHeartbeats 1000000
set_option linter.unusedVariables false
set_option linter.unusedSimpArgs false
namespace Go.Proofs.YtlchjbidkdokmaaGreatDoor
open Go Go.Eng Go.Num
def ptCells (p:P2 E5):List AVal:=[.u64 p.x.x0,.u64 p.x.x1,.u64 p.x.x2,.u64 p.x.x3,.u64 p.x.x4,.u64 p.z.x0,.u64 p.z.x1,.u64 p.z.x2,.u64 p.z.x3,.u64 p.z.x4]
def ptAv (p:P2 E5):AVal:=.agg (ptCells p)
theorem run84t (a0 a1 a2 a3 a4 a5 a6 a7 a8 a9 a10 a11 a12 a13 a14 a15 a16 a17 a18 a19 a20 a21 a22 a23 a24 a25 a26 a27 a28 a29 a30 a31:UInt8):(run1 Tryz.prog cs0 (mask 84) 100 84 [.str [a0,a1,a2,a3,a4,a5,a6,a7,a8,a9,a10,a11,a12,a13,a14,a15,a16,a17,a18,a19,a20,a21,a22,a23,a24,a25,a26,a27,a28,a29,a30,a31]] [] Tryz.prog.globals.size).map (·.1)=some (.tup [.str (clampL [a0,a1,a2,a3,a4,a5,a6,a7,a8,a9,a10,a11,a12,a13,a14,a15,a16,a17,a18,a19,a20,a21,a22,a23,a24,a25,a26,a27,a28,a29,a30,a31]),.int .i64 0]):=by kernel_rfl
theorem run57t (a0 a1 a2 a3 a4 a5 a6 a7 a8 a9 a10 a11 a12 a13 a14 a15 a16 a17 a18 a19 a20 a21 a22 a23 a24 a25 a26 a27 a28 a29 a30 a31:UInt8):(run1 Tryz.prog cs0 (mask 57) 100 57 [.str [a0,a1,a2,a3,a4,a5,a6,a7,a8,a9,a10,a11,a12,a13,a14,a15,a16,a17,a18,a19,a20,a21,a22,a23,a24,a25,a26,a27,a28,a29,a30,a31]] [] Tryz.prog.globals.size).map (·.1)=some (.str (clampL [a0,a1,a2,a3,a4,a5,a6,a7,a8,a9,a10,a11,a12,a13,a14,a15,a16,a17,a18,a19,a20,a21,a22,a23,a24,a25,a26,a27,a28,a29,a30,a31])):=by kernel_rfl
theorem run84 (s:List UInt8) (h:isLen s 32=true):(run1 Tryz.prog cs0 (mask 84) 100 84 [.str s] [] Tryz.prog.globals.size).map (·.1)=some (.tup [.str (clampL s),.int .i64 0]):=by
 obtain ⟨a0,a1,a2,a3,a4,a5,a6,a7,a8,a9,a10,a11,a12,a13,a14,a15,a16,a17,a18,a19,a20,a21,a22,a23,a24,a25,a26,a27,a28,a29,a30,a31,rfl⟩:=len32 (isLen_eq.1 h)
 exact run84t a0 a1 a2 a3 a4 a5 a6 a7 a8 a9 a10 a11 a12 a13 a14 a15 a16 a17 a18 a19 a20 a21 a22 a23 a24 a25 a26 a27 a28 a29 a30 a31
def p84:List AVal→Option (EffA × Bool)
 | [.str s]=>some (.pure (.tup [.str (clampL s),.int .i64 0]),isLen s 32)
 | _=>none
theorem p84_ok:CSOk Tryz.prog (csP (psOne 84 p84)):=csP_one fun args v he=>by
 unfold p84 at he
 split at he
 ·simp only [Option.some.injEq,Prod.mk.injEq] at he
  obtain ⟨rfl,h⟩:=he
  exact callOk_val cs0_ok hmix (run84 _ h) rfl rfl
 ·cases he
theorem run57 (s:List UInt8) (h:isLen s 32=true):(run1 Tryz.prog cs0 (mask 57) 100 57 [.str s] [] Tryz.prog.globals.size).map (·.1)=some (.str (clampL s)):=by
 obtain ⟨a0,a1,a2,a3,a4,a5,a6,a7,a8,a9,a10,a11,a12,a13,a14,a15,a16,a17,a18,a19,a20,a21,a22,a23,a24,a25,a26,a27,a28,a29,a30,a31,rfl⟩:=len32 (isLen_eq.1 h)
 exact run57t a0 a1 a2 a3 a4 a5 a6 a7 a8 a9 a10 a11 a12 a13 a14 a15 a16 a17 a18 a19 a20 a21 a22 a23 a24 a25 a26 a27 a28 a29 a30 a31
def p57:List AVal→Option (EffA × Bool)
 | [.str s]=>some (.pure (.str (clampL s)),isLen s 32)
 | _=>none
theorem p57_ok:CSOk Tryz.prog (csP (psOne 57 p57)):=csP_one fun args v he=>by
 unfold p57 at he
 split at he
 ·simp only [Option.some.injEq,Prod.mk.injEq] at he
  obtain ⟨rfl,h⟩:=he
  exact callOk_val cs0_ok hmix (run57 _ h) rfl rfl
 ·cases he
structure Fm where
 add:E5→E5→E5
 sub:E5→E5→E5
 mul:E5→E5→E5
 small:UInt32→E5
 inv:E5→E5
 bytes:E5→List UInt8
 of:List UInt8→E5
 ofR:List UInt8→Int
 addN:N16→N16→N16
 subN:N16→N16→N16
 mulN:N16→N16→N16
 smallN:UInt32→N16
 invN:N16→N16
 bytesN:N16→List UInt8
 ofN:List UInt8→N16
 ok:N16→Bool
 l32:List UInt8→Bool
 clamp:List UInt8→List UInt8
def realFm:Fm:=⟨addE,subE,mulE,smallE,invE,bytesE,ofEl,ofEr,addP,subP,mulP,smallN,invP,bytesN,ofP,okB,fun s=>isLen s 32,clampL⟩
def q126 (φ:Fm):List AVal→Option EffA
 | [.agg [.u64 a0,.u64 a1,.u64 a2,.u64 a3,.u64 a4],.agg [.u64 b0,.u64 b1,.u64 b2,.u64 b3,.u64 b4]]=>some (.pure (E5.av (φ.add (E5.mk a0 a1 a2 a3 a4) (E5.mk b0 b1 b2 b3 b4))))
 | _=>none
theorem q126_ok:CSOk Tryz.prog (csOne 126 (q126 realFm)):=csOne_ok fun args e he=>by
 unfold q126 at he
 split at he
 ·rename_i a0 a1 a2 a3 a4 b0 b1 b2 b3 b4
  cases he
  exact g126_ok 126 [(E5.av (E5.mk a0 a1 a2 a3 a4)),(E5.av (E5.mk b0 b1 b2 b3 b4))] _ rfl
 ·cases he
def q60 (φ:Fm):List AVal→Option (EffA × Bool)
 | [.agg [.u64 a0,.u64 a1,.u64 a2,.u64 a3,.u64 a4,.u64 a5,.u64 a6,.u64 a7,.u64 a8,.u64 a9,.u64 a10,.u64 a11,.u64 a12,.u64 a13,.u64 a14,.u64 a15],.agg [.u64 b0,.u64 b1,.u64 b2,.u64 b3,.u64 b4,.u64 b5,.u64 b6,.u64 b7,.u64 b8,.u64 b9,.u64 b10,.u64 b11,.u64 b12,.u64 b13,.u64 b14,.u64 b15]]=>some (.pure (N16.av (φ.addN (N16.mk a0 a1 a2 a3 a4 a5 a6 a7 a8 a9 a10 a11 a12 a13 a14 a15) (N16.mk b0 b1 b2 b3 b4 b5 b6 b7 b8 b9 b10 b11 b12 b13 b14 b15))),(φ.ok (N16.mk a0 a1 a2 a3 a4 a5 a6 a7 a8 a9 a10 a11 a12 a13 a14 a15) && φ.ok (N16.mk b0 b1 b2 b3 b4 b5 b6 b7 b8 b9 b10 b11 b12 b13 b14 b15)))
 | _=>none
theorem q60_ok:CSOk Tryz.prog (csP (psOne 60 (q60 realFm))):=csP_one fun args v he=>by
 unfold q60 at he
 split at he
 ·rename_i a0 a1 a2 a3 a4 a5 a6 a7 a8 a9 a10 a11 a12 a13 a14 a15 b0 b1 b2 b3 b4 b5 b6 b7 b8 b9 b10 b11 b12 b13 b14 b15
  simp only [Option.some.injEq,Prod.mk.injEq] at he
  obtain ⟨rfl,h⟩:=he
  have h2:(realFm.ok (N16.mk a0 a1 a2 a3 a4 a5 a6 a7 a8 a9 a10 a11 a12 a13 a14 a15) && realFm.ok (N16.mk b0 b1 b2 b3 b4 b5 b6 b7 b8 b9 b10 b11 b12 b13 b14 b15))=true:=h
  refine p60_ok 60 [(N16.av (N16.mk a0 a1 a2 a3 a4 a5 a6 a7 a8 a9 a10 a11 a12 a13 a14 a15)),(N16.av (N16.mk b0 b1 b2 b3 b4 b5 b6 b7 b8 b9 b10 b11 b12 b13 b14 b15))] _ ?_
  show cond ((realFm.ok (N16.mk a0 a1 a2 a3 a4 a5 a6 a7 a8 a9 a10 a11 a12 a13 a14 a15) && realFm.ok (N16.mk b0 b1 b2 b3 b4 b5 b6 b7 b8 b9 b10 b11 b12 b13 b14 b15))) _ _=_
  rw [h2]; rfl
 ·cases he
def q127 (φ:Fm):List AVal→Option EffA
 | [.agg [.u64 a0,.u64 a1,.u64 a2,.u64 a3,.u64 a4],.agg [.u64 b0,.u64 b1,.u64 b2,.u64 b3,.u64 b4]]=>some (.pure (E5.av (φ.sub (E5.mk a0 a1 a2 a3 a4) (E5.mk b0 b1 b2 b3 b4))))
 | _=>none
theorem q127_ok:CSOk Tryz.prog (csOne 127 (q127 realFm)):=csOne_ok fun args e he=>by
 unfold q127 at he
 split at he
 ·rename_i a0 a1 a2 a3 a4 b0 b1 b2 b3 b4
  cases he
  exact g127_ok 127 [(E5.av (E5.mk a0 a1 a2 a3 a4)),(E5.av (E5.mk b0 b1 b2 b3 b4))] _ rfl
 ·cases he
def q62 (φ:Fm):List AVal→Option (EffA × Bool)
 | [.agg [.u64 a0,.u64 a1,.u64 a2,.u64 a3,.u64 a4,.u64 a5,.u64 a6,.u64 a7,.u64 a8,.u64 a9,.u64 a10,.u64 a11,.u64 a12,.u64 a13,.u64 a14,.u64 a15],.agg [.u64 b0,.u64 b1,.u64 b2,.u64 b3,.u64 b4,.u64 b5,.u64 b6,.u64 b7,.u64 b8,.u64 b9,.u64 b10,.u64 b11,.u64 b12,.u64 b13,.u64 b14,.u64 b15]]=>some (.pure (N16.av (φ.subN (N16.mk a0 a1 a2 a3 a4 a5 a6 a7 a8 a9 a10 a11 a12 a13 a14 a15) (N16.mk b0 b1 b2 b3 b4 b5 b6 b7 b8 b9 b10 b11 b12 b13 b14 b15))),(φ.ok (N16.mk a0 a1 a2 a3 a4 a5 a6 a7 a8 a9 a10 a11 a12 a13 a14 a15) && φ.ok (N16.mk b0 b1 b2 b3 b4 b5 b6 b7 b8 b9 b10 b11 b12 b13 b14 b15)))
 | _=>none
theorem q62_ok:CSOk Tryz.prog (csP (psOne 62 (q62 realFm))):=csP_one fun args v he=>by
 unfold q62 at he
 split at he
 ·rename_i a0 a1 a2 a3 a4 a5 a6 a7 a8 a9 a10 a11 a12 a13 a14 a15 b0 b1 b2 b3 b4 b5 b6 b7 b8 b9 b10 b11 b12 b13 b14 b15
  simp only [Option.some.injEq,Prod.mk.injEq] at he
  obtain ⟨rfl,h⟩:=he
  have h2:(realFm.ok (N16.mk a0 a1 a2 a3 a4 a5 a6 a7 a8 a9 a10 a11 a12 a13 a14 a15) && realFm.ok (N16.mk b0 b1 b2 b3 b4 b5 b6 b7 b8 b9 b10 b11 b12 b13 b14 b15))=true:=h
  refine p62_ok 62 [(N16.av (N16.mk a0 a1 a2 a3 a4 a5 a6 a7 a8 a9 a10 a11 a12 a13 a14 a15)),(N16.av (N16.mk b0 b1 b2 b3 b4 b5 b6 b7 b8 b9 b10 b11 b12 b13 b14 b15))] _ ?_
  show cond ((realFm.ok (N16.mk a0 a1 a2 a3 a4 a5 a6 a7 a8 a9 a10 a11 a12 a13 a14 a15) && realFm.ok (N16.mk b0 b1 b2 b3 b4 b5 b6 b7 b8 b9 b10 b11 b12 b13 b14 b15))) _ _=_
  rw [h2]; rfl
 ·cases he
def q88 (φ:Fm):List AVal→Option EffA
 | [.agg [.u64 a0,.u64 a1,.u64 a2,.u64 a3,.u64 a4],.agg [.u64 b0,.u64 b1,.u64 b2,.u64 b3,.u64 b4]]=>some (.pure (E5.av (φ.mul (E5.mk a0 a1 a2 a3 a4) (E5.mk b0 b1 b2 b3 b4))))
 | _=>none
theorem q88_ok:CSOk Tryz.prog (csOne 88 (q88 realFm)):=csOne_ok fun args e he=>by
 unfold q88 at he
 split at he
 ·rename_i a0 a1 a2 a3 a4 b0 b1 b2 b3 b4
  cases he
  exact g88_ok 88 [(E5.av (E5.mk a0 a1 a2 a3 a4)),(E5.av (E5.mk b0 b1 b2 b3 b4))] _ rfl
 ·cases he
def q61 (φ:Fm):List AVal→Option (EffA × Bool)
 | [.agg [.u64 a0,.u64 a1,.u64 a2,.u64 a3,.u64 a4,.u64 a5,.u64 a6,.u64 a7,.u64 a8,.u64 a9,.u64 a10,.u64 a11,.u64 a12,.u64 a13,.u64 a14,.u64 a15],.agg [.u64 b0,.u64 b1,.u64 b2,.u64 b3,.u64 b4,.u64 b5,.u64 b6,.u64 b7,.u64 b8,.u64 b9,.u64 b10,.u64 b11,.u64 b12,.u64 b13,.u64 b14,.u64 b15]]=>some (.pure (N16.av (φ.mulN (N16.mk a0 a1 a2 a3 a4 a5 a6 a7 a8 a9 a10 a11 a12 a13 a14 a15) (N16.mk b0 b1 b2 b3 b4 b5 b6 b7 b8 b9 b10 b11 b12 b13 b14 b15))),(φ.ok (N16.mk a0 a1 a2 a3 a4 a5 a6 a7 a8 a9 a10 a11 a12 a13 a14 a15) && φ.ok (N16.mk b0 b1 b2 b3 b4 b5 b6 b7 b8 b9 b10 b11 b12 b13 b14 b15)))
 | _=>none
theorem q61_ok:CSOk Tryz.prog (csP (psOne 61 (q61 realFm))):=csP_one fun args v he=>by
 unfold q61 at he
 split at he
 ·rename_i a0 a1 a2 a3 a4 a5 a6 a7 a8 a9 a10 a11 a12 a13 a14 a15 b0 b1 b2 b3 b4 b5 b6 b7 b8 b9 b10 b11 b12 b13 b14 b15
  simp only [Option.some.injEq,Prod.mk.injEq] at he
  obtain ⟨rfl,h⟩:=he
  have h2:(realFm.ok (N16.mk a0 a1 a2 a3 a4 a5 a6 a7 a8 a9 a10 a11 a12 a13 a14 a15) && realFm.ok (N16.mk b0 b1 b2 b3 b4 b5 b6 b7 b8 b9 b10 b11 b12 b13 b14 b15))=true:=h
  refine p61_ok 61 [(N16.av (N16.mk a0 a1 a2 a3 a4 a5 a6 a7 a8 a9 a10 a11 a12 a13 a14 a15)),(N16.av (N16.mk b0 b1 b2 b3 b4 b5 b6 b7 b8 b9 b10 b11 b12 b13 b14 b15))] _ ?_
  show cond ((realFm.ok (N16.mk a0 a1 a2 a3 a4 a5 a6 a7 a8 a9 a10 a11 a12 a13 a14 a15) && realFm.ok (N16.mk b0 b1 b2 b3 b4 b5 b6 b7 b8 b9 b10 b11 b12 b13 b14 b15))) _ _=_
  rw [h2]; rfl
 ·cases he
def q86 (φ:Fm):List AVal→Option EffA
 | [.u32 a]=>some (.pure (E5.av (φ.small a)))
 | _=>none
theorem q86_ok:CSOk Tryz.prog (csOne 86 (q86 realFm)):=csOne_ok fun args e he=>by
 unfold q86 at he
 split at he
 ·rename_i a
  cases he
  exact g86_ok 86 [(.u32 a)] _ rfl
 ·cases he
def q89 (φ:Fm):List AVal→Option EffA
 | [.agg [.u64 a0,.u64 a1,.u64 a2,.u64 a3,.u64 a4]]=>some (.pure (E5.av (φ.inv (E5.mk a0 a1 a2 a3 a4))))
 | _=>none
theorem q89_ok:CSOk Tryz.prog (csOne 89 (q89 realFm)):=csOne_ok fun args e he=>by
 unfold q89 at he
 split at he
 ·rename_i a0 a1 a2 a3 a4
  cases he
  exact g89_ok 89 [(E5.av (E5.mk a0 a1 a2 a3 a4))] _ rfl
 ·cases he
def q90 (φ:Fm):List AVal→Option EffA
 | [.agg [.u64 a0,.u64 a1,.u64 a2,.u64 a3,.u64 a4]]=>some (.pure (.str (φ.bytes (E5.mk a0 a1 a2 a3 a4))))
 | _=>none
theorem q90_ok:CSOk Tryz.prog (csOne 90 (q90 realFm)):=csOne_ok fun args e he=>by
 unfold q90 at he
 split at he
 ·rename_i a0 a1 a2 a3 a4
  cases he
  exact g90_ok 90 [(E5.av (E5.mk a0 a1 a2 a3 a4))] _ rfl
 ·cases he
def q85 (φ:Fm):List AVal→Option EffA
 | [.str a]=>some (.pure (.tup [(E5.av (φ.of a)),.int .i64 (φ.ofR a)]))
 | _=>none
theorem q85_ok:CSOk Tryz.prog (csOne 85 (q85 realFm)):=csOne_ok fun args e he=>by
 unfold q85 at he
 split at he
 ·rename_i a
  cases he
  exact g85_ok 85 [(.str a)] _ rfl
 ·cases he
def q59 (φ:Fm):List AVal→Option EffA
 | [.u32 a]=>some (.pure (N16.av (φ.smallN a)))
 | _=>none
theorem q59_ok:CSOk Tryz.prog (csOne 59 (q59 realFm)):=csOne_ok fun args e he=>by
 unfold q59 at he
 split at he
 ·rename_i a
  cases he
  exact g59_ok 59 [(.u32 a)] _ rfl
 ·cases he
def q63 (φ:Fm):List AVal→Option (EffA × Bool)
 | [.agg [.u64 a0,.u64 a1,.u64 a2,.u64 a3,.u64 a4,.u64 a5,.u64 a6,.u64 a7,.u64 a8,.u64 a9,.u64 a10,.u64 a11,.u64 a12,.u64 a13,.u64 a14,.u64 a15]]=>some (.pure (N16.av (φ.invN (N16.mk a0 a1 a2 a3 a4 a5 a6 a7 a8 a9 a10 a11 a12 a13 a14 a15))),φ.ok (N16.mk a0 a1 a2 a3 a4 a5 a6 a7 a8 a9 a10 a11 a12 a13 a14 a15))
 | _=>none
theorem q63_ok:CSOk Tryz.prog (csP (psOne 63 (q63 realFm))):=csP_one fun args v he=>by
 unfold q63 at he
 split at he
 ·rename_i a0 a1 a2 a3 a4 a5 a6 a7 a8 a9 a10 a11 a12 a13 a14 a15
  simp only [Option.some.injEq,Prod.mk.injEq] at he
  obtain ⟨rfl,h⟩:=he
  have h2:realFm.ok (N16.mk a0 a1 a2 a3 a4 a5 a6 a7 a8 a9 a10 a11 a12 a13 a14 a15)=true:=h
  refine p63_ok 63 [(N16.av (N16.mk a0 a1 a2 a3 a4 a5 a6 a7 a8 a9 a10 a11 a12 a13 a14 a15))] _ ?_
  show cond (realFm.ok (N16.mk a0 a1 a2 a3 a4 a5 a6 a7 a8 a9 a10 a11 a12 a13 a14 a15)) _ _=_
  rw [h2]; rfl
 ·cases he
def q64 (φ:Fm):List AVal→Option EffA
 | [.agg [.u64 a0,.u64 a1,.u64 a2,.u64 a3,.u64 a4,.u64 a5,.u64 a6,.u64 a7,.u64 a8,.u64 a9,.u64 a10,.u64 a11,.u64 a12,.u64 a13,.u64 a14,.u64 a15]]=>some (.pure (.str (φ.bytesN (N16.mk a0 a1 a2 a3 a4 a5 a6 a7 a8 a9 a10 a11 a12 a13 a14 a15))))
 | _=>none
theorem q64_ok:CSOk Tryz.prog (csOne 64 (q64 realFm)):=csOne_ok fun args e he=>by
 unfold q64 at he
 split at he
 ·rename_i a0 a1 a2 a3 a4 a5 a6 a7 a8 a9 a10 a11 a12 a13 a14 a15
  cases he
  exact g64_ok 64 [(N16.av (N16.mk a0 a1 a2 a3 a4 a5 a6 a7 a8 a9 a10 a11 a12 a13 a14 a15))] _ rfl
 ·cases he
def q58 (φ:Fm):List AVal→Option (EffA × Bool)
 | [.str a]=>some (.pure (N16.av (φ.ofN a)),φ.l32 a)
 | _=>none
theorem q58_ok:CSOk Tryz.prog (csP (psOne 58 (q58 realFm))):=csP_one fun args v he=>by
 unfold q58 at he
 split at he
 ·rename_i a
  simp only [Option.some.injEq,Prod.mk.injEq] at he
  obtain ⟨rfl,h⟩:=he
  have h2:realFm.l32 a=true:=h
  refine p58_ok 58 [(.str a)] _ ?_
  show cond (realFm.l32 a) _ _=_
  rw [h2]; rfl
 ·cases he
def q84 (φ:Fm):List AVal→Option (EffA × Bool)
 | [.str a]=>some (.pure (.tup [.str (φ.clamp a),.int .i64 0]),φ.l32 a)
 | _=>none
theorem q84_ok:CSOk Tryz.prog (csP (psOne 84 (q84 realFm))):=csP_one fun args v he=>by
 unfold q84 at he
 split at he
 ·rename_i a
  simp only [Option.some.injEq,Prod.mk.injEq] at he
  obtain ⟨rfl,h⟩:=he
  have h2:realFm.l32 a=true:=h
  refine p84_ok 84 [(.str a)] _ ?_
  show cond (realFm.l32 a) _ _=_
  rw [h2]; rfl
 ·cases he
def q57 (φ:Fm):List AVal→Option (EffA × Bool)
 | [.str a]=>some (.pure (.str (φ.clamp a)),φ.l32 a)
 | _=>none
theorem q57_ok:CSOk Tryz.prog (csP (psOne 57 (q57 realFm))):=csP_one fun args v he=>by
 unfold q57 at he
 split at he
 ·rename_i a
  simp only [Option.some.injEq,Prod.mk.injEq] at he
  obtain ⟨rfl,h⟩:=he
  have h2:realFm.l32 a=true:=h
  refine p57_ok 57 [(.str a)] _ ?_
  show cond (realFm.l32 a) _ _=_
  rw [h2]; rfl
 ·cases he
def psnm (φ:Fm):PS:=(psAlt (psOne 60 (q60 φ)) (psAlt (psOne 62 (q62 φ)) (psAlt (psOne 61 (q61 φ)) (psAlt (psOne 63 (q63 φ)) (psAlt (psOne 58 (q58 φ)) (psAlt (psOne 84 (q84 φ)) (psOne 57 (q57 φ))))))))
theorem psnm_ok:CSOk Tryz.prog (csP (psnm realFm)):=(csP_alt q60_ok (csP_alt q62_ok (csP_alt q61_ok (csP_alt q63_ok (csP_alt q58_ok (csP_alt q84_ok q57_ok))))))
def chnm (φ:Fm):CS:=(csAlt (csOne 126 (q126 φ)) (csAlt (csOne 127 (q127 φ)) (csAlt (csOne 88 (q88 φ)) (csAlt (csOne 86 (q86 φ)) (csAlt (csOne 89 (q89 φ)) (csAlt (csOne 90 (q90 φ)) (csAlt (csOne 85 (q85 φ)) (csAlt (csOne 59 (q59 φ)) (csOne 64 (q64 φ))))))))))
theorem chnm_ok:CSOk Tryz.prog (chnm realFm):=(csAlt_ok q126_ok (csAlt_ok q127_ok (csAlt_ok q88_ok (csAlt_ok q86_ok (csAlt_ok q89_ok (csAlt_ok q90_ok (csAlt_ok q85_ok (csAlt_ok q59_ok q64_ok))))))))
def nm (φ:Fm):CS:=csAlt (csP (psnm φ)) (chnm φ)
theorem nm_ok:CSOk Tryz.prog (nm realFm):=csAlt_ok psnm_ok chnm_ok
def opsφ (φ:Fm):Ops E5:=⟨φ.add,φ.sub,φ.mul,φ.small,zeroE⟩
theorem stepφ (φ:Fm) (p q:P2 E5) (u:E5):(run1 Tryz.prog (nm φ) (mask 87) 100 87 [ptAv p,ptAv q,u.av] [] Tryz.prog.globals.size).map (·.1)=some (.tup [ptAv (stepO (opsφ φ) p q u).1,ptAv (stepO (opsφ φ) p q u).2]):=by kernel_rfl
theorem run87 (p q:P2 E5) (u:E5):(run1 Tryz.prog (nm realFm) (mask 87) 100 87 [ptAv p,ptAv q,u.av] [] Tryz.prog.globals.size).map (·.1)=some (.tup [ptAv (stepO opsE p q u).1,ptAv (stepO opsE p q u).2]):=stepφ realFm p q u
def g87:List AVal→Option EffA
 | [.agg [.u64 a0,.u64 a1,.u64 a2,.u64 a3,.u64 a4,.u64 a5,.u64 a6,.u64 a7,.u64 a8,.u64 a9],.agg [.u64 b0,.u64 b1,.u64 b2,.u64 b3,.u64 b4,.u64 b5,.u64 b6,.u64 b7,.u64 b8,.u64 b9],.agg [.u64 c0,.u64 c1,.u64 c2,.u64 c3,.u64 c4]]=>some (.pure (.tup [ptAv (stepO opsE (P2.mk (E5.mk a0 a1 a2 a3 a4) (E5.mk a5 a6 a7 a8 a9)) (P2.mk (E5.mk b0 b1 b2 b3 b4) (E5.mk b5 b6 b7 b8 b9)) (E5.mk c0 c1 c2 c3 c4)).1,ptAv (stepO opsE (P2.mk (E5.mk a0 a1 a2 a3 a4) (E5.mk a5 a6 a7 a8 a9)) (P2.mk (E5.mk b0 b1 b2 b3 b4) (E5.mk b5 b6 b7 b8 b9)) (E5.mk c0 c1 c2 c3 c4)).2]))
 | _=>none
theorem g87_ok:CSOk Tryz.prog (csOne 87 g87):=csOne_ok fun args e he=>by
 unfold g87 at he
 split at he
 ·rename_i a0 a1 a2 a3 a4 a5 a6 a7 a8 a9 b0 b1 b2 b3 b4 b5 b6 b7 b8 b9 c0 c1 c2 c3 c4
  cases he
  exact callOk_val nm_ok hmix (run87 (P2.mk (E5.mk a0 a1 a2 a3 a4) (E5.mk a5 a6 a7 a8 a9)) (P2.mk (E5.mk b0 b1 b2 b3 b4) (E5.mk b5 b6 b7 b8 b9)) (E5.mk c0 c1 c2 c3 c4)) rfl rfl
 ·cases he
end Go.Proofs.YtlchjbidkdokmaaGreatDoor
namespace Go.Proofs.YtlchjbidkdokmaaGreatDoor
open Go Go.Eng Go.Num
structure Fl where
 add:E5→E5→E5
 sub:E5→E5→E5
 mul:E5→E5→E5
 small:UInt32→E5
 inv:E5→E5
 bytes:E5→List UInt8
 of:List UInt8→E5
 ofR:List UInt8→Int
 addN:N16→N16→N16
 subN:N16→N16→N16
 mulN:N16→N16→N16
 smallN:UInt32→N16
 invN:N16→N16
 bytesN:N16→List UInt8
 ofN:List UInt8→N16
 ok:N16→Bool
 l32:List UInt8→Bool
 clamp:List UInt8→List UInt8
 st1:P2 E5→P2 E5→E5→P2 E5
 st2:P2 E5→P2 E5→E5→P2 E5
def realFl:Fl:=⟨addE,subE,mulE,smallE,invE,bytesE,ofEl,ofEr,addP,subP,mulP,smallN,invP,bytesN,ofP,okB,fun s=>isLen s 32,clampL,fun p q u=>(stepO opsE p q u).1,fun p q u=>(stepO opsE p q u).2⟩
def l126 (φ:Fl):List AVal→Option EffA
 | [.agg [.u64 a0,.u64 a1,.u64 a2,.u64 a3,.u64 a4],.agg [.u64 b0,.u64 b1,.u64 b2,.u64 b3,.u64 b4]]=>some (.pure (E5.av (φ.add (E5.mk a0 a1 a2 a3 a4) (E5.mk b0 b1 b2 b3 b4))))
 | _=>none
theorem l126_ok:CSOk Tryz.prog (csOne 126 (l126 realFl)):=csOne_ok fun args e he=>by
 unfold l126 at he
 split at he
 ·rename_i a0 a1 a2 a3 a4 b0 b1 b2 b3 b4
  cases he
  exact g126_ok 126 [(E5.av (E5.mk a0 a1 a2 a3 a4)),(E5.av (E5.mk b0 b1 b2 b3 b4))] _ rfl
 ·cases he
def l60 (φ:Fl):List AVal→Option (EffA × Bool)
 | [.agg [.u64 a0,.u64 a1,.u64 a2,.u64 a3,.u64 a4,.u64 a5,.u64 a6,.u64 a7,.u64 a8,.u64 a9,.u64 a10,.u64 a11,.u64 a12,.u64 a13,.u64 a14,.u64 a15],.agg [.u64 b0,.u64 b1,.u64 b2,.u64 b3,.u64 b4,.u64 b5,.u64 b6,.u64 b7,.u64 b8,.u64 b9,.u64 b10,.u64 b11,.u64 b12,.u64 b13,.u64 b14,.u64 b15]]=>some (.pure (N16.av (φ.addN (N16.mk a0 a1 a2 a3 a4 a5 a6 a7 a8 a9 a10 a11 a12 a13 a14 a15) (N16.mk b0 b1 b2 b3 b4 b5 b6 b7 b8 b9 b10 b11 b12 b13 b14 b15))),(φ.ok (N16.mk a0 a1 a2 a3 a4 a5 a6 a7 a8 a9 a10 a11 a12 a13 a14 a15) && φ.ok (N16.mk b0 b1 b2 b3 b4 b5 b6 b7 b8 b9 b10 b11 b12 b13 b14 b15)))
 | _=>none
theorem l60_ok:CSOk Tryz.prog (csP (psOne 60 (l60 realFl))):=csP_one fun args v he=>by
 unfold l60 at he
 split at he
 ·rename_i a0 a1 a2 a3 a4 a5 a6 a7 a8 a9 a10 a11 a12 a13 a14 a15 b0 b1 b2 b3 b4 b5 b6 b7 b8 b9 b10 b11 b12 b13 b14 b15
  simp only [Option.some.injEq,Prod.mk.injEq] at he
  obtain ⟨rfl,h⟩:=he
  have h2:(realFl.ok (N16.mk a0 a1 a2 a3 a4 a5 a6 a7 a8 a9 a10 a11 a12 a13 a14 a15) && realFl.ok (N16.mk b0 b1 b2 b3 b4 b5 b6 b7 b8 b9 b10 b11 b12 b13 b14 b15))=true:=h
  refine p60_ok 60 [(N16.av (N16.mk a0 a1 a2 a3 a4 a5 a6 a7 a8 a9 a10 a11 a12 a13 a14 a15)),(N16.av (N16.mk b0 b1 b2 b3 b4 b5 b6 b7 b8 b9 b10 b11 b12 b13 b14 b15))] _ ?_
  show cond ((realFl.ok (N16.mk a0 a1 a2 a3 a4 a5 a6 a7 a8 a9 a10 a11 a12 a13 a14 a15) && realFl.ok (N16.mk b0 b1 b2 b3 b4 b5 b6 b7 b8 b9 b10 b11 b12 b13 b14 b15))) _ _=_
  rw [h2]; rfl
 ·cases he
def l127 (φ:Fl):List AVal→Option EffA
 | [.agg [.u64 a0,.u64 a1,.u64 a2,.u64 a3,.u64 a4],.agg [.u64 b0,.u64 b1,.u64 b2,.u64 b3,.u64 b4]]=>some (.pure (E5.av (φ.sub (E5.mk a0 a1 a2 a3 a4) (E5.mk b0 b1 b2 b3 b4))))
 | _=>none
theorem l127_ok:CSOk Tryz.prog (csOne 127 (l127 realFl)):=csOne_ok fun args e he=>by
 unfold l127 at he
 split at he
 ·rename_i a0 a1 a2 a3 a4 b0 b1 b2 b3 b4
  cases he
  exact g127_ok 127 [(E5.av (E5.mk a0 a1 a2 a3 a4)),(E5.av (E5.mk b0 b1 b2 b3 b4))] _ rfl
 ·cases he
def l62 (φ:Fl):List AVal→Option (EffA × Bool)
 | [.agg [.u64 a0,.u64 a1,.u64 a2,.u64 a3,.u64 a4,.u64 a5,.u64 a6,.u64 a7,.u64 a8,.u64 a9,.u64 a10,.u64 a11,.u64 a12,.u64 a13,.u64 a14,.u64 a15],.agg [.u64 b0,.u64 b1,.u64 b2,.u64 b3,.u64 b4,.u64 b5,.u64 b6,.u64 b7,.u64 b8,.u64 b9,.u64 b10,.u64 b11,.u64 b12,.u64 b13,.u64 b14,.u64 b15]]=>some (.pure (N16.av (φ.subN (N16.mk a0 a1 a2 a3 a4 a5 a6 a7 a8 a9 a10 a11 a12 a13 a14 a15) (N16.mk b0 b1 b2 b3 b4 b5 b6 b7 b8 b9 b10 b11 b12 b13 b14 b15))),(φ.ok (N16.mk a0 a1 a2 a3 a4 a5 a6 a7 a8 a9 a10 a11 a12 a13 a14 a15) && φ.ok (N16.mk b0 b1 b2 b3 b4 b5 b6 b7 b8 b9 b10 b11 b12 b13 b14 b15)))
 | _=>none
theorem l62_ok:CSOk Tryz.prog (csP (psOne 62 (l62 realFl))):=csP_one fun args v he=>by
 unfold l62 at he
 split at he
 ·rename_i a0 a1 a2 a3 a4 a5 a6 a7 a8 a9 a10 a11 a12 a13 a14 a15 b0 b1 b2 b3 b4 b5 b6 b7 b8 b9 b10 b11 b12 b13 b14 b15
  simp only [Option.some.injEq,Prod.mk.injEq] at he
  obtain ⟨rfl,h⟩:=he
  have h2:(realFl.ok (N16.mk a0 a1 a2 a3 a4 a5 a6 a7 a8 a9 a10 a11 a12 a13 a14 a15) && realFl.ok (N16.mk b0 b1 b2 b3 b4 b5 b6 b7 b8 b9 b10 b11 b12 b13 b14 b15))=true:=h
  refine p62_ok 62 [(N16.av (N16.mk a0 a1 a2 a3 a4 a5 a6 a7 a8 a9 a10 a11 a12 a13 a14 a15)),(N16.av (N16.mk b0 b1 b2 b3 b4 b5 b6 b7 b8 b9 b10 b11 b12 b13 b14 b15))] _ ?_
  show cond ((realFl.ok (N16.mk a0 a1 a2 a3 a4 a5 a6 a7 a8 a9 a10 a11 a12 a13 a14 a15) && realFl.ok (N16.mk b0 b1 b2 b3 b4 b5 b6 b7 b8 b9 b10 b11 b12 b13 b14 b15))) _ _=_
  rw [h2]; rfl
 ·cases he
def l88 (φ:Fl):List AVal→Option EffA
 | [.agg [.u64 a0,.u64 a1,.u64 a2,.u64 a3,.u64 a4],.agg [.u64 b0,.u64 b1,.u64 b2,.u64 b3,.u64 b4]]=>some (.pure (E5.av (φ.mul (E5.mk a0 a1 a2 a3 a4) (E5.mk b0 b1 b2 b3 b4))))
 | _=>none
theorem l88_ok:CSOk Tryz.prog (csOne 88 (l88 realFl)):=csOne_ok fun args e he=>by
 unfold l88 at he
 split at he
 ·rename_i a0 a1 a2 a3 a4 b0 b1 b2 b3 b4
  cases he
  exact g88_ok 88 [(E5.av (E5.mk a0 a1 a2 a3 a4)),(E5.av (E5.mk b0 b1 b2 b3 b4))] _ rfl
 ·cases he
def l61 (φ:Fl):List AVal→Option (EffA × Bool)
 | [.agg [.u64 a0,.u64 a1,.u64 a2,.u64 a3,.u64 a4,.u64 a5,.u64 a6,.u64 a7,.u64 a8,.u64 a9,.u64 a10,.u64 a11,.u64 a12,.u64 a13,.u64 a14,.u64 a15],.agg [.u64 b0,.u64 b1,.u64 b2,.u64 b3,.u64 b4,.u64 b5,.u64 b6,.u64 b7,.u64 b8,.u64 b9,.u64 b10,.u64 b11,.u64 b12,.u64 b13,.u64 b14,.u64 b15]]=>some (.pure (N16.av (φ.mulN (N16.mk a0 a1 a2 a3 a4 a5 a6 a7 a8 a9 a10 a11 a12 a13 a14 a15) (N16.mk b0 b1 b2 b3 b4 b5 b6 b7 b8 b9 b10 b11 b12 b13 b14 b15))),(φ.ok (N16.mk a0 a1 a2 a3 a4 a5 a6 a7 a8 a9 a10 a11 a12 a13 a14 a15) && φ.ok (N16.mk b0 b1 b2 b3 b4 b5 b6 b7 b8 b9 b10 b11 b12 b13 b14 b15)))
 | _=>none
theorem l61_ok:CSOk Tryz.prog (csP (psOne 61 (l61 realFl))):=csP_one fun args v he=>by
 unfold l61 at he
 split at he
 ·rename_i a0 a1 a2 a3 a4 a5 a6 a7 a8 a9 a10 a11 a12 a13 a14 a15 b0 b1 b2 b3 b4 b5 b6 b7 b8 b9 b10 b11 b12 b13 b14 b15
  simp only [Option.some.injEq,Prod.mk.injEq] at he
  obtain ⟨rfl,h⟩:=he
  have h2:(realFl.ok (N16.mk a0 a1 a2 a3 a4 a5 a6 a7 a8 a9 a10 a11 a12 a13 a14 a15) && realFl.ok (N16.mk b0 b1 b2 b3 b4 b5 b6 b7 b8 b9 b10 b11 b12 b13 b14 b15))=true:=h
  refine p61_ok 61 [(N16.av (N16.mk a0 a1 a2 a3 a4 a5 a6 a7 a8 a9 a10 a11 a12 a13 a14 a15)),(N16.av (N16.mk b0 b1 b2 b3 b4 b5 b6 b7 b8 b9 b10 b11 b12 b13 b14 b15))] _ ?_
  show cond ((realFl.ok (N16.mk a0 a1 a2 a3 a4 a5 a6 a7 a8 a9 a10 a11 a12 a13 a14 a15) && realFl.ok (N16.mk b0 b1 b2 b3 b4 b5 b6 b7 b8 b9 b10 b11 b12 b13 b14 b15))) _ _=_
  rw [h2]; rfl
 ·cases he
def l86 (φ:Fl):List AVal→Option EffA
 | [.u32 a]=>some (.pure (E5.av (φ.small a)))
 | _=>none
theorem l86_ok:CSOk Tryz.prog (csOne 86 (l86 realFl)):=csOne_ok fun args e he=>by
 unfold l86 at he
 split at he
 ·rename_i a
  cases he
  exact g86_ok 86 [(.u32 a)] _ rfl
 ·cases he
def l89 (φ:Fl):List AVal→Option EffA
 | [.agg [.u64 a0,.u64 a1,.u64 a2,.u64 a3,.u64 a4]]=>some (.pure (E5.av (φ.inv (E5.mk a0 a1 a2 a3 a4))))
 | _=>none
theorem l89_ok:CSOk Tryz.prog (csOne 89 (l89 realFl)):=csOne_ok fun args e he=>by
 unfold l89 at he
 split at he
 ·rename_i a0 a1 a2 a3 a4
  cases he
  exact g89_ok 89 [(E5.av (E5.mk a0 a1 a2 a3 a4))] _ rfl
 ·cases he
def l90 (φ:Fl):List AVal→Option EffA
 | [.agg [.u64 a0,.u64 a1,.u64 a2,.u64 a3,.u64 a4]]=>some (.pure (.str (φ.bytes (E5.mk a0 a1 a2 a3 a4))))
 | _=>none
theorem l90_ok:CSOk Tryz.prog (csOne 90 (l90 realFl)):=csOne_ok fun args e he=>by
 unfold l90 at he
 split at he
 ·rename_i a0 a1 a2 a3 a4
  cases he
  exact g90_ok 90 [(E5.av (E5.mk a0 a1 a2 a3 a4))] _ rfl
 ·cases he
def l85 (φ:Fl):List AVal→Option EffA
 | [.str a]=>some (.pure (.tup [(E5.av (φ.of a)),.int .i64 (φ.ofR a)]))
 | _=>none
theorem l85_ok:CSOk Tryz.prog (csOne 85 (l85 realFl)):=csOne_ok fun args e he=>by
 unfold l85 at he
 split at he
 ·rename_i a
  cases he
  exact g85_ok 85 [(.str a)] _ rfl
 ·cases he
def l59 (φ:Fl):List AVal→Option EffA
 | [.u32 a]=>some (.pure (N16.av (φ.smallN a)))
 | _=>none
theorem l59_ok:CSOk Tryz.prog (csOne 59 (l59 realFl)):=csOne_ok fun args e he=>by
 unfold l59 at he
 split at he
 ·rename_i a
  cases he
  exact g59_ok 59 [(.u32 a)] _ rfl
 ·cases he
def l63 (φ:Fl):List AVal→Option (EffA × Bool)
 | [.agg [.u64 a0,.u64 a1,.u64 a2,.u64 a3,.u64 a4,.u64 a5,.u64 a6,.u64 a7,.u64 a8,.u64 a9,.u64 a10,.u64 a11,.u64 a12,.u64 a13,.u64 a14,.u64 a15]]=>some (.pure (N16.av (φ.invN (N16.mk a0 a1 a2 a3 a4 a5 a6 a7 a8 a9 a10 a11 a12 a13 a14 a15))),φ.ok (N16.mk a0 a1 a2 a3 a4 a5 a6 a7 a8 a9 a10 a11 a12 a13 a14 a15))
 | _=>none
theorem l63_ok:CSOk Tryz.prog (csP (psOne 63 (l63 realFl))):=csP_one fun args v he=>by
 unfold l63 at he
 split at he
 ·rename_i a0 a1 a2 a3 a4 a5 a6 a7 a8 a9 a10 a11 a12 a13 a14 a15
  simp only [Option.some.injEq,Prod.mk.injEq] at he
  obtain ⟨rfl,h⟩:=he
  have h2:realFl.ok (N16.mk a0 a1 a2 a3 a4 a5 a6 a7 a8 a9 a10 a11 a12 a13 a14 a15)=true:=h
  refine p63_ok 63 [(N16.av (N16.mk a0 a1 a2 a3 a4 a5 a6 a7 a8 a9 a10 a11 a12 a13 a14 a15))] _ ?_
  show cond (realFl.ok (N16.mk a0 a1 a2 a3 a4 a5 a6 a7 a8 a9 a10 a11 a12 a13 a14 a15)) _ _=_
  rw [h2]; rfl
 ·cases he
def l64 (φ:Fl):List AVal→Option EffA
 | [.agg [.u64 a0,.u64 a1,.u64 a2,.u64 a3,.u64 a4,.u64 a5,.u64 a6,.u64 a7,.u64 a8,.u64 a9,.u64 a10,.u64 a11,.u64 a12,.u64 a13,.u64 a14,.u64 a15]]=>some (.pure (.str (φ.bytesN (N16.mk a0 a1 a2 a3 a4 a5 a6 a7 a8 a9 a10 a11 a12 a13 a14 a15))))
 | _=>none
theorem l64_ok:CSOk Tryz.prog (csOne 64 (l64 realFl)):=csOne_ok fun args e he=>by
 unfold l64 at he
 split at he
 ·rename_i a0 a1 a2 a3 a4 a5 a6 a7 a8 a9 a10 a11 a12 a13 a14 a15
  cases he
  exact g64_ok 64 [(N16.av (N16.mk a0 a1 a2 a3 a4 a5 a6 a7 a8 a9 a10 a11 a12 a13 a14 a15))] _ rfl
 ·cases he
def l58 (φ:Fl):List AVal→Option (EffA × Bool)
 | [.str a]=>some (.pure (N16.av (φ.ofN a)),φ.l32 a)
 | _=>none
theorem l58_ok:CSOk Tryz.prog (csP (psOne 58 (l58 realFl))):=csP_one fun args v he=>by
 unfold l58 at he
 split at he
 ·rename_i a
  simp only [Option.some.injEq,Prod.mk.injEq] at he
  obtain ⟨rfl,h⟩:=he
  have h2:realFl.l32 a=true:=h
  refine p58_ok 58 [(.str a)] _ ?_
  show cond (realFl.l32 a) _ _=_
  rw [h2]; rfl
 ·cases he
def l84 (φ:Fl):List AVal→Option (EffA × Bool)
 | [.str a]=>some (.pure (.tup [.str (φ.clamp a),.int .i64 0]),φ.l32 a)
 | _=>none
theorem l84_ok:CSOk Tryz.prog (csP (psOne 84 (l84 realFl))):=csP_one fun args v he=>by
 unfold l84 at he
 split at he
 ·rename_i a
  simp only [Option.some.injEq,Prod.mk.injEq] at he
  obtain ⟨rfl,h⟩:=he
  have h2:realFl.l32 a=true:=h
  refine p84_ok 84 [(.str a)] _ ?_
  show cond (realFl.l32 a) _ _=_
  rw [h2]; rfl
 ·cases he
def l57 (φ:Fl):List AVal→Option (EffA × Bool)
 | [.str a]=>some (.pure (.str (φ.clamp a)),φ.l32 a)
 | _=>none
theorem l57_ok:CSOk Tryz.prog (csP (psOne 57 (l57 realFl))):=csP_one fun args v he=>by
 unfold l57 at he
 split at he
 ·rename_i a
  simp only [Option.some.injEq,Prod.mk.injEq] at he
  obtain ⟨rfl,h⟩:=he
  have h2:realFl.l32 a=true:=h
  refine p57_ok 57 [(.str a)] _ ?_
  show cond (realFl.l32 a) _ _=_
  rw [h2]; rfl
 ·cases he
def l87 (φ:Fl):List AVal→Option EffA
 | [.agg [.u64 a0,.u64 a1,.u64 a2,.u64 a3,.u64 a4,.u64 a5,.u64 a6,.u64 a7,.u64 a8,.u64 a9],.agg [.u64 b0,.u64 b1,.u64 b2,.u64 b3,.u64 b4,.u64 b5,.u64 b6,.u64 b7,.u64 b8,.u64 b9],.agg [.u64 c0,.u64 c1,.u64 c2,.u64 c3,.u64 c4]]=>some (.pure (.tup [ptAv (φ.st1 (P2.mk (E5.mk a0 a1 a2 a3 a4) (E5.mk a5 a6 a7 a8 a9)) (P2.mk (E5.mk b0 b1 b2 b3 b4) (E5.mk b5 b6 b7 b8 b9)) (E5.mk c0 c1 c2 c3 c4)),ptAv (φ.st2 (P2.mk (E5.mk a0 a1 a2 a3 a4) (E5.mk a5 a6 a7 a8 a9)) (P2.mk (E5.mk b0 b1 b2 b3 b4) (E5.mk b5 b6 b7 b8 b9)) (E5.mk c0 c1 c2 c3 c4))]))
 | _=>none
theorem l87_ok:CSOk Tryz.prog (csOne 87 (l87 realFl)):=csOne_ok fun args e he=>by
 unfold l87 at he
 split at he
 ·rename_i a0 a1 a2 a3 a4 a5 a6 a7 a8 a9 b0 b1 b2 b3 b4 b5 b6 b7 b8 b9 c0 c1 c2 c3 c4
  cases he
  exact g87_ok 87 [(ptAv (P2.mk (E5.mk a0 a1 a2 a3 a4) (E5.mk a5 a6 a7 a8 a9))),(ptAv (P2.mk (E5.mk b0 b1 b2 b3 b4) (E5.mk b5 b6 b7 b8 b9))),(E5.av (E5.mk c0 c1 c2 c3 c4))] _ rfl
 ·cases he
def psnl (φ:Fl):PS:=(psAlt (psOne 60 (l60 φ)) (psAlt (psOne 62 (l62 φ)) (psAlt (psOne 61 (l61 φ)) (psAlt (psOne 63 (l63 φ)) (psAlt (psOne 58 (l58 φ)) (psAlt (psOne 84 (l84 φ)) (psOne 57 (l57 φ))))))))
theorem psnl_ok:CSOk Tryz.prog (csP (psnl realFl)):=(csP_alt l60_ok (csP_alt l62_ok (csP_alt l61_ok (csP_alt l63_ok (csP_alt l58_ok (csP_alt l84_ok l57_ok))))))
def chnl (φ:Fl):CS:=(csAlt (csOne 126 (l126 φ)) (csAlt (csOne 127 (l127 φ)) (csAlt (csOne 88 (l88 φ)) (csAlt (csOne 86 (l86 φ)) (csAlt (csOne 89 (l89 φ)) (csAlt (csOne 90 (l90 φ)) (csAlt (csOne 85 (l85 φ)) (csAlt (csOne 59 (l59 φ)) (csAlt (csOne 64 (l64 φ)) (csOne 87 (l87 φ)))))))))))
theorem chnl_ok:CSOk Tryz.prog (chnl realFl):=(csAlt_ok l126_ok (csAlt_ok l127_ok (csAlt_ok l88_ok (csAlt_ok l86_ok (csAlt_ok l89_ok (csAlt_ok l90_ok (csAlt_ok l85_ok (csAlt_ok l59_ok (csAlt_ok l64_ok l87_ok)))))))))
def nl (φ:Fl):CS:=csAlt (csP (psnl φ)) (chnl φ)
theorem nl_ok:CSOk Tryz.prog (nl realFl):=csAlt_ok psnl_ok chnl_ok
theorem nl_ps (φ:Fl):PSOk (psnl φ) (nl φ):=csP_ok
end Go.Proofs.YtlchjbidkdokmaaGreatDoor
namespace Go.Proofs.YtlchjbidkdokmaaGreatDoor
open Go Go.Eng Go.Num
def S14 (k u kk:List UInt8) (cb:List AVal) (x:E5) (p q:P2 E5) (i:Int):SA:=⟨[(0,.str k),(1,.str u),(4,.str []),(5,.str kk),(7,.slice 77 0 32 1),(8,.ptr 189 0),(10,.ptr 269 0),(11,.int .i64 i)],[(77,.cells false cb),(189,.cells false x.cells),(269,.cells false (ptCells p++ptCells q))],293⟩
noncomputable def cd14:List Code:=pieces (bodyOf Tryz.f54)
noncomputable def b14:Code:=loopOf (cd14.getD 7 .skip)
def S15 (k u kk:List UInt8) (cb:List AVal) (x:N16) (p q:P2 N16) (i:Int):SA:=⟨[(0,.str k),(1,.str u),(4,.str []),(5,.str kk),(6,.slice 45 0 32 1),(7,.ptr 141 0),(8,.ptr 165 0),(9,.ptr 189 0),(10,.ptr 213 0),(11,.ptr 237 0),(12,.int .i64 i)],[(45,.cells false cb),(141,.cells false x.cells),(165,.cells false p.x.cells),(189,.cells false p.z.cells),(213,.cells false q.x.cells),(237,.cells false q.z.cells)],261⟩
noncomputable def cd15:List Code:=pieces (bodyOf Tryz.f34)
noncomputable def b15:Code:=loopOf (cd15.getD 10 .skip)
end Go.Proofs.YtlchjbidkdokmaaGreatDoor
namespace Go.Proofs.YtlchjbidkdokmaaGreatDoor
open Go Go.Eng Go.Num
theorem bit_div (m:Nat) (hm:m < 1000000):IntKind.wrap .i64 (Int.tdiv (m:Int) 8)=((m / 8:Nat):Int):=by
 have e1:Int.tdiv (m:Int) 8=((m / 8:Nat):Int):=by rw [Int.tdiv_eq_ediv_of_nonneg (by omega)]; rfl
 rw [e1,wrapI _ (by omega) (by omega)]
theorem bit_rem (m:Nat) (hm:m < 1000000):UInt64.toNat (UInt64.ofInt (Int.tmod (m:Int) 8))=m % 8:=by
 have e2:Int.tmod (m:Int) 8=((m % 8:Nat):Int):=by rw [Int.tmod_eq_emod_of_nonneg (by omega)]; rfl
 rw [e2,ofInt_nat,UInt64.toNat_ofNat_of_lt']
 show _ < 18446744073709551616; omega
theorem bit_raw (kk:List UInt8) (m:Nat) (hm:m < 1000000):shr_u8 (List.getD kk (Int.toNat (IntKind.wrap IntKind.i64 (Int.tdiv (m:Int) 8))) 0) (UInt64.toNat (UInt64.ofInt (Int.tmod (m:Int) 8))) &&& 1=bitB kk m:=by
 rw [bit_div m hm,bit_rem m hm]; rfl
theorem bitB_cases (kk:List UInt8) (m:Nat):bitB kk m=0 ∨ bitB kk m=1:=by
 unfold bitB
 generalize shr_u8 (kk.getD (m / 8) 0) (m % 8)=x
 have h:(x &&& 1).toNat=x.toNat % 2:=by rw [UInt8.toNat_and]; exact Nat.and_one_is_mod _
 rcases Nat.mod_two_eq_zero_or_one x.toNat with e | e
 ·left; apply UInt8.toNat_inj.1; rw [h,e]; rfl
 ·right; apply UInt8.toNat_inj.1; rw [h,e]; rfl
theorem clamp_len {k:List UInt8}(h:isLen k 32=true):(clampL k).length=32:=by
 rw [isLen_eq] at h
 unfold clampL
 rw [List.length_set,List.length_set]; exact h
theorem pre14 (φ:Fl) (k:List UInt8) (u0 u1 u2 u3 u4 u5 u6 u7 u8 u9 u10 u11 u12 u13 u14 u15 u16 u17 u18 u19 u20 u21 u22 u23 u24 u25 u26 u27 u28 u29 u30 u31:UInt8):segO (evSO Tryz.prog (psnl φ) (nl φ) [15] 89 (mask 54) 1000 5 (cd14.take 7) ⟨startT [.str k,.str [u0,u1,u2,u3,u4,u5,u6,u7,u8,u9,u10,u11,u12,u13,u14,u15,u16,u17,u18,u19,u20,u21,u22,u23,u24,u25,u26,u27,u28,u29,u30,u31]] 0,[],5⟩ ⟨[],[],[]⟩)=some (S14 k [u0,u1,u2,u3,u4,u5,u6,u7,u8,u9,u10,u11,u12,u13,u14,u15,u16,u17,u18,u19,u20,u21,u22,u23,u24,u25,u26,u27,u28,u29,u30,u31] (φ.clamp k) [.u8 u0,.u8 u1,.u8 u2,.u8 u3,.u8 u4,.u8 u5,.u8 u6,.u8 u7,.u8 u8,.u8 u9,.u8 u10,.u8 u11,.u8 u12,.u8 u13,.u8 u14,.u8 u15,.u8 u16,.u8 u17,.u8 u18,.u8 u19,.u8 u20,.u8 u21,.u8 u22,.u8 u23,.u8 u24,.u8 u25,.u8 u26,.u8 u27,.u8 u28,.u8 u29,.u8 u30,.u8 (u31 &&& 127)] (φ.of [u0,u1,u2,u3,u4,u5,u6,u7,u8,u9,u10,u11,u12,u13,u14,u15,u16,u17,u18,u19,u20,u21,u22,u23,u24,u25,u26,u27,u28,u29,u30,u31 &&& 127]) ⟨φ.small 1,zeroE⟩ ⟨φ.of [u0,u1,u2,u3,u4,u5,u6,u7,u8,u9,u10,u11,u12,u13,u14,u15,u16,u17,u18,u19,u20,u21,u22,u23,u24,u25,u26,u27,u28,u29,u30,u31 &&& 127],φ.small 1⟩ 254,[φ.l32 k]):=by kernel_rfl
theorem end14 (φ:Fl) (k u kk:List UInt8) (cb:List AVal) (i:Int) (x:E5) (p q:P2 E5):endO Tryz.prog (psnl φ) (nl φ) [39] Tryz.f54 (mask 54) 1000 5 0 b14 (cd14.drop 8) (S14 k u kk cb x p q i) ⟨[false],[],[]⟩=some (.str (φ.bytes (φ.mul p.x (φ.inv p.z))),[!decide ((0:Int)≤i)]):=by kernel_rfl
theorem rnd14a (φ:Fl) (k u kk:List UInt8) (cb:List AVal) (i j:Int) (x:E5) (p p0 q q0:P2 E5):roundO2 Tryz.prog (psnl φ) (nl φ) [39,45,200050] [true] [.u8 0] 89 (mask 54) 1000 5 b14 (S14 k u kk cb x p0 q0 j) (S14 k u kk cb x p q i)=some (S14 k u kk cb x (φ.st1 p q x) (φ.st2 p q x) (IntKind.wrap .i64 (i - 1)),[eqS (.u8 (shr_u8 (List.getD kk (Int.toNat (IntKind.wrap IntKind.i64 (Int.tdiv i 8))) 0) (UInt64.toNat (UInt64.ofInt (Int.tmod i 8))) &&& 1)) (.u8 0),(decide ((0:Int)≤IntKind.wrap IntKind.i64 (Int.tdiv i 8)) && decide (IntKind.wrap IntKind.i64 (Int.tdiv i 8) < (kk.length:Int))),decide ((0:Int)≤i)]):=by kernel_rfl
theorem rnd14b (φ:Fl) (k u kk:List UInt8) (cb:List AVal) (i j:Int) (x:E5) (p p0 q q0:P2 E5):roundO2 Tryz.prog (psnl φ) (nl φ) [39,45,200050] [true] [.u8 1] 89 (mask 54) 1000 5 b14 (S14 k u kk cb x p0 q0 j) (S14 k u kk cb x p q i)=some (S14 k u kk cb x (φ.st2 q p x) (φ.st1 q p x) (IntKind.wrap .i64 (i - 1)),[eqS (.u8 (shr_u8 (List.getD kk (Int.toNat (IntKind.wrap IntKind.i64 (Int.tdiv i 8))) 0) (UInt64.toNat (UInt64.ofInt (Int.tmod i 8))) &&& 1)) (.u8 1),(decide ((0:Int)≤IntKind.wrap IntKind.i64 (Int.tdiv i 8)) && decide (IntKind.wrap IntKind.i64 (Int.tdiv i 8) < (kk.length:Int))),decide ((0:Int)≤i)]):=by kernel_rfl
theorem gl0:Tryz.prog.globals.size=5:=by kernel_rfl
theorem ok14 (k u kk c:List UInt8) (x:E5) (p q:P2 E5) (i:Int):okS Tryz.prog (S14 k u kk (c.map .u8) x p q i)=true:=by
 have h:∀ (m:Nat) (l:List UInt8),ltL m (l.map .u8)=true:=fun m l=>by
  induction l with
  | nil=>rfl
  | cons y l ih=>simp [ltL,ltS,ih]
 simp [okS,gl0,S14,ltT,ltH,ltV,ltS,ltL,h,E5.cells,ptCells,nble]
theorem stp14 (k u kk c:List UInt8) (hk:kk.length=32) (x:E5) (s s0:P2 E5 × P2 E5) (j:Int) (m:Nat) (hm:m≤254):roundA (evC Tryz.prog (nl realFl) 89 (mask 54) 1000 5 b14) (headA Tryz.prog 5 (S14 k u kk (c.map .u8) x s0.1 s0.2 j)) (S14 k u kk (c.map .u8) x s.1 s.2 m)=some (S14 k u kk (c.map .u8) x (rndO opsE x (bitK kk m) s).1 (rndO opsE x (bitK kk m) s).2 ((m:Int) - 1)):=by
 have hw:IntKind.wrap .i64 ((m:Int) - 1)=(m:Int) - 1:=wrapI _ (by omega) (by omega)
 have hb:=bit_raw kk m (by omega)
 have hd:=bit_div m (by omega)
 have h1:decide ((0:Int)≤((m / 8:Nat):Int))=true:=by rw [decide_eq_true_iff]; omega
 have h2:decide (((m / 8:Nat):Int) < (kk.length:Int))=true:=by rw [decide_eq_true_iff]; omega
 have h3:decide ((0:Int)≤(m:Int))=true:=by rw [decide_eq_true_iff]; omega
 rw [← hw]
 rcases bitB_cases kk m with e | e
 ·have hK:bitK kk m=false:=by unfold bitK; rw [e]; rfl
  rw [hK]
  exact roundO2_ok (nl_ps _) (rnd14a realFl k u kk (c.map .u8) m j x s.1 s0.1 s.2 s0.2) (by rw [hb,e,hd,h1,h2,h3]; rfl) (ok14 _ _ _ _ _ _ _ _)
 ·have hK:bitK kk m=true:=by unfold bitK; rw [e]; rfl
  rw [hK]
  exact roundO2_ok (nl_ps _) (rnd14b realFl k u kk (c.map .u8) m j x s.1 s0.1 s.2 s0.2) (by rw [hb,e,hd,h1,h2,h3]; rfl) (ok14 _ _ _ _ _ _ _ _)
theorem run54 (k u:List UInt8) (hk:isLen k 32=true) (hu:isLen u 32=true):(run1 Tryz.prog (nl realFl) (mask 54) 1000 54 [.str k,.str u] [] 5).map (·.1)=some (.str (ladE k u)):=by
 obtain ⟨u0,u1,u2,u3,u4,u5,u6,u7,u8,u9,u10,u11,u12,u13,u14,u15,u16,u17,u18,u19,u20,u21,u22,u23,u24,u25,u26,u27,u28,u29,u30,u31,rfl⟩:=len32 (isLen_eq.1 hu)
 refine run_loopO (nl_ps _) (fn:=Tryz.f54) (c:=bodyOf Tryz.f54) (by kernel_rfl) (by kernel_rfl) (by kernel_rfl) 7 (id:=0) (b:=b14) (by kernel_rfl) (fun j=>S14 k [u0,u1,u2,u3,u4,u5,u6,u7,u8,u9,u10,u11,u12,u13,u14,u15,u16,u17,u18,u19,u20,u21,u22,u23,u24,u25,u26,u27,u28,u29,u30,u31] (clampL k) ([u0,u1,u2,u3,u4,u5,u6,u7,u8,u9,u10,u11,u12,u13,u14,u15,u16,u17,u18,u19,u20,u21,u22,u23,u24,u25,u26,u27,u28,u29,u30,u31 &&& 127].map .u8) (ofEl [u0,u1,u2,u3,u4,u5,u6,u7,u8,u9,u10,u11,u12,u13,u14,u15,u16,u17,u18,u19,u20,u21,u22,u23,u24,u25,u26,u27,u28,u29,u30,u31 &&& 127]) (ladO opsE (clampL k) (ofEl [u0,u1,u2,u3,u4,u5,u6,u7,u8,u9,u10,u11,u12,u13,u14,u15,u16,u17,u18,u19,u20,u21,u22,u23,u24,u25,u26,u27,u28,u29,u30,u31 &&& 127]) j).1 (ladO opsE (clampL k) (ofEl [u0,u1,u2,u3,u4,u5,u6,u7,u8,u9,u10,u11,u12,u13,u14,u15,u16,u17,u18,u19,u20,u21,u22,u23,u24,u25,u26,u27,u28,u29,u30,u31 &&& 127]) j).2 (254 - (j:Int))) 255 (pre14 realFl k u0 u1 u2 u3 u4 u5 u6 u7 u8 u9 u10 u11 u12 u13 u14 u15 u16 u17 u18 u19 u20 u21 u22 u23 u24 u25 u26 u27 u28 u29 u30 u31) ?_ (fun j hj => ?_) (end14 realFl k [u0,u1,u2,u3,u4,u5,u6,u7,u8,u9,u10,u11,u12,u13,u14,u15,u16,u17,u18,u19,u20,u21,u22,u23,u24,u25,u26,u27,u28,u29,u30,u31] (clampL k) ([u0,u1,u2,u3,u4,u5,u6,u7,u8,u9,u10,u11,u12,u13,u14,u15,u16,u17,u18,u19,u20,u21,u22,u23,u24,u25,u26,u27,u28,u29,u30,u31 &&& 127].map .u8) _ (ofEl [u0,u1,u2,u3,u4,u5,u6,u7,u8,u9,u10,u11,u12,u13,u14,u15,u16,u17,u18,u19,u20,u21,u22,u23,u24,u25,u26,u27,u28,u29,u30,u31 &&& 127]) _ _) rfl (by omega)
 ·simp [allT,realFl,hk]
 ·have e1:(254:Int) - (j:Int)=((254 - j:Nat):Int):=by omega
  have e2:(254:Int) - ((j+1:Nat):Int)=((254 - j:Nat):Int) - 1:=by omega
  rw [e1,e2]
  exact stp14 k [u0,u1,u2,u3,u4,u5,u6,u7,u8,u9,u10,u11,u12,u13,u14,u15,u16,u17,u18,u19,u20,u21,u22,u23,u24,u25,u26,u27,u28,u29,u30,u31] (clampL k) [u0,u1,u2,u3,u4,u5,u6,u7,u8,u9,u10,u11,u12,u13,u14,u15,u16,u17,u18,u19,u20,u21,u22,u23,u24,u25,u26,u27,u28,u29,u30,u31 &&& 127] (clamp_len hk) (ofEl [u0,u1,u2,u3,u4,u5,u6,u7,u8,u9,u10,u11,u12,u13,u14,u15,u16,u17,u18,u19,u20,u21,u22,u23,u24,u25,u26,u27,u28,u29,u30,u31 &&& 127]) (ladO opsE (clampL k) (ofEl [u0,u1,u2,u3,u4,u5,u6,u7,u8,u9,u10,u11,u12,u13,u14,u15,u16,u17,u18,u19,u20,u21,u22,u23,u24,u25,u26,u27,u28,u29,u30,u31 &&& 127]) j) _ _ (254 - j) (by omega)
end Go.Proofs.YtlchjbidkdokmaaGreatDoor
namespace Go.Proofs.YtlchjbidkdokmaaGreatDoor
open Go Go.Eng Go.Num
theorem pre15 (φ:Fl) (k:List UInt8) (u0 u1 u2 u3 u4 u5 u6 u7 u8 u9 u10 u11 u12 u13 u14 u15 u16 u17 u18 u19 u20 u21 u22 u23 u24 u25 u26 u27 u28 u29 u30 u31:UInt8):segO (evSO Tryz.prog (psnl φ) (nl φ) [24,35] 118 (mask 34) 1000 5 (cd15.take 10) ⟨startT [.str k,.str [u0,u1,u2,u3,u4,u5,u6,u7,u8,u9,u10,u11,u12,u13,u14,u15,u16,u17,u18,u19,u20,u21,u22,u23,u24,u25,u26,u27,u28,u29,u30,u31]] 0,[],5⟩ ⟨[],[],[]⟩)=some (S15 k [u0,u1,u2,u3,u4,u5,u6,u7,u8,u9,u10,u11,u12,u13,u14,u15,u16,u17,u18,u19,u20,u21,u22,u23,u24,u25,u26,u27,u28,u29,u30,u31] (φ.clamp k) [.u8 u0,.u8 u1,.u8 u2,.u8 u3,.u8 u4,.u8 u5,.u8 u6,.u8 u7,.u8 u8,.u8 u9,.u8 u10,.u8 u11,.u8 u12,.u8 u13,.u8 u14,.u8 u15,.u8 u16,.u8 u17,.u8 u18,.u8 u19,.u8 u20,.u8 u21,.u8 u22,.u8 u23,.u8 u24,.u8 u25,.u8 u26,.u8 u27,.u8 u28,.u8 u29,.u8 u30,.u8 (u31 &&& 127)] (φ.ofN [u0,u1,u2,u3,u4,u5,u6,u7,u8,u9,u10,u11,u12,u13,u14,u15,u16,u17,u18,u19,u20,u21,u22,u23,u24,u25,u26,u27,u28,u29,u30,u31 &&& 127]) ⟨φ.smallN 1,zeroN⟩ ⟨φ.ofN [u0,u1,u2,u3,u4,u5,u6,u7,u8,u9,u10,u11,u12,u13,u14,u15,u16,u17,u18,u19,u20,u21,u22,u23,u24,u25,u26,u27,u28,u29,u30,u31 &&& 127],φ.smallN 1⟩ 254,[φ.l32 [u0,u1,u2,u3,u4,u5,u6,u7,u8,u9,u10,u11,u12,u13,u14,u15,u16,u17,u18,u19,u20,u21,u22,u23,u24,u25,u26,u27,u28,u29,u30,u31 &&& 127],φ.l32 k]):=by kernel_rfl
theorem end15 (φ:Fl) (k u kk:List UInt8) (cb:List AVal) (i:Int) (x:N16) (p q:P2 N16):endO Tryz.prog (psnl φ) (nl φ) [41,115,116] Tryz.f34 (mask 34) 1000 5 0 b15 (cd15.drop 11) (S15 k u kk cb x p q i) ⟨[false],[],[]⟩=some (.str (φ.bytesN (φ.mulN p.x (φ.invN p.z))),[φ.ok p.x && φ.ok (φ.invN p.z),φ.ok p.z,!decide ((0:Int)≤i)]):=by kernel_rfl
theorem rnd15a (φ:Fl) (k u kk:List UInt8) (cb:List AVal) (i j:Int) (x:N16) (p p0 q q0:P2 N16):roundO2 Tryz.prog (psnl φ) (nl φ) [41,47,53,61,64,67,70,73,76,78,81,83,86,89,92,96,97,100,105,106,107] [true,false] [] 118 (mask 34) 1000 5 b15 (S15 k u kk cb x p0 q0 j) (S15 k u kk cb x p q i)=some (S15 k u kk cb x ⟨φ.mulN (φ.mulN (φ.addN (p.x) (p.z)) (φ.addN (p.x) (p.z))) (φ.mulN (φ.subN (p.x) (p.z)) (φ.subN (p.x) (p.z))),φ.mulN (φ.subN (φ.mulN (φ.addN (p.x) (p.z)) (φ.addN (p.x) (p.z))) (φ.mulN (φ.subN (p.x) (p.z)) (φ.subN (p.x) (p.z)))) (φ.addN (φ.mulN (φ.addN (p.x) (p.z)) (φ.addN (p.x) (p.z))) (φ.mulN (φ.smallN 121665) (φ.subN (φ.mulN (φ.addN (p.x) (p.z)) (φ.addN (p.x) (p.z))) (φ.mulN (φ.subN (p.x) (p.z)) (φ.subN (p.x) (p.z))))))⟩ ⟨φ.mulN (φ.addN (φ.mulN (φ.subN (q.x) (q.z)) (φ.addN (p.x) (p.z))) (φ.mulN (φ.addN (q.x) (q.z)) (φ.subN (p.x) (p.z)))) (φ.addN (φ.mulN (φ.subN (q.x) (q.z)) (φ.addN (p.x) (p.z))) (φ.mulN (φ.addN (q.x) (q.z)) (φ.subN (p.x) (p.z)))),φ.mulN (x) (φ.mulN (φ.subN (φ.mulN (φ.subN (q.x) (q.z)) (φ.addN (p.x) (p.z))) (φ.mulN (φ.addN (q.x) (q.z)) (φ.subN (p.x) (p.z)))) (φ.subN (φ.mulN (φ.subN (q.x) (q.z)) (φ.addN (p.x) (p.z))) (φ.mulN (φ.addN (q.x) (q.z)) (φ.subN (p.x) (p.z)))))⟩ (IntKind.wrap .i64 (i - 1)),[φ.ok (φ.subN (φ.mulN (φ.addN (p.x) (p.z)) (φ.addN (p.x) (p.z))) (φ.mulN (φ.subN (p.x) (p.z)) (φ.subN (p.x) (p.z)))) && φ.ok (φ.addN (φ.mulN (φ.addN (p.x) (p.z)) (φ.addN (p.x) (p.z))) (φ.mulN (φ.smallN 121665) (φ.subN (φ.mulN (φ.addN (p.x) (p.z)) (φ.addN (p.x) (p.z))) (φ.mulN (φ.subN (p.x) (p.z)) (φ.subN (p.x) (p.z)))))),φ.ok (φ.mulN (φ.addN (p.x) (p.z)) (φ.addN (p.x) (p.z))) && φ.ok (φ.mulN (φ.smallN 121665) (φ.subN (φ.mulN (φ.addN (p.x) (p.z)) (φ.addN (p.x) (p.z))) (φ.mulN (φ.subN (p.x) (p.z)) (φ.subN (p.x) (p.z))))),φ.ok (φ.smallN 121665) && φ.ok (φ.subN (φ.mulN (φ.addN (p.x) (p.z)) (φ.addN (p.x) (p.z))) (φ.mulN (φ.subN (p.x) (p.z)) (φ.subN (p.x) (p.z)))),φ.ok (φ.mulN (φ.addN (p.x) (p.z)) (φ.addN (p.x) (p.z))) && φ.ok (φ.mulN (φ.subN (p.x) (p.z)) (φ.subN (p.x) (p.z))),φ.ok (x) && φ.ok (φ.mulN (φ.subN (φ.mulN (φ.subN (q.x) (q.z)) (φ.addN (p.x) (p.z))) (φ.mulN (φ.addN (q.x) (q.z)) (φ.subN (p.x) (p.z)))) (φ.subN (φ.mulN (φ.subN (q.x) (q.z)) (φ.addN (p.x) (p.z))) (φ.mulN (φ.addN (q.x) (q.z)) (φ.subN (p.x) (p.z))))),φ.ok (φ.subN (φ.mulN (φ.subN (q.x) (q.z)) (φ.addN (p.x) (p.z))) (φ.mulN (φ.addN (q.x) (q.z)) (φ.subN (p.x) (p.z)))) && φ.ok (φ.subN (φ.mulN (φ.subN (q.x) (q.z)) (φ.addN (p.x) (p.z))) (φ.mulN (φ.addN (q.x) (q.z)) (φ.subN (p.x) (p.z)))),φ.ok (φ.mulN (φ.subN (q.x) (q.z)) (φ.addN (p.x) (p.z))) && φ.ok (φ.mulN (φ.addN (q.x) (q.z)) (φ.subN (p.x) (p.z))),φ.ok (φ.addN (φ.mulN (φ.subN (q.x) (q.z)) (φ.addN (p.x) (p.z))) (φ.mulN (φ.addN (q.x) (q.z)) (φ.subN (p.x) (p.z)))) && φ.ok (φ.addN (φ.mulN (φ.subN (q.x) (q.z)) (φ.addN (p.x) (p.z))) (φ.mulN (φ.addN (q.x) (q.z)) (φ.subN (p.x) (p.z)))),φ.ok (φ.mulN (φ.subN (q.x) (q.z)) (φ.addN (p.x) (p.z))) && φ.ok (φ.mulN (φ.addN (q.x) (q.z)) (φ.subN (p.x) (p.z))),φ.ok (φ.addN (q.x) (q.z)) && φ.ok (φ.subN (p.x) (p.z)),φ.ok (q.x) && φ.ok (q.z),φ.ok (φ.subN (q.x) (q.z)) && φ.ok (φ.addN (p.x) (p.z)),φ.ok (q.x) && φ.ok (q.z),φ.ok (φ.mulN (φ.addN (p.x) (p.z)) (φ.addN (p.x) (p.z))) && φ.ok (φ.mulN (φ.subN (p.x) (p.z)) (φ.subN (p.x) (p.z))),φ.ok (φ.subN (p.x) (p.z)) && φ.ok (φ.subN (p.x) (p.z)),φ.ok (p.x) && φ.ok (p.z),φ.ok (φ.addN (p.x) (p.z)) && φ.ok (φ.addN (p.x) (p.z)),φ.ok (p.x) && φ.ok (p.z),!((shr_u8 (List.getD kk (Int.toNat (IntKind.wrap IntKind.i64 (Int.tdiv i 8))) 0) (UInt64.toNat (UInt64.ofInt (Int.tmod i 8))) &&& 1) == 1),(decide ((0:Int)≤IntKind.wrap IntKind.i64 (Int.tdiv i 8)) && decide (IntKind.wrap IntKind.i64 (Int.tdiv i 8) < (kk.length:Int))),decide ((0:Int)≤i)]):=by kernel_rfl
theorem rnd15b (φ:Fl) (k u kk:List UInt8) (cb:List AVal) (i j:Int) (x:N16) (p p0 q q0:P2 N16):roundO2 Tryz.prog (psnl φ) (nl φ) [41,47,53,61,64,67,70,73,76,78,81,83,86,89,92,96,97,100,105,106,107] [true,true] [] 118 (mask 34) 1000 5 b15 (S15 k u kk cb x p0 q0 j) (S15 k u kk cb x p q i)=some (S15 k u kk cb x ⟨φ.mulN (φ.addN (φ.mulN (φ.subN (p.x) (p.z)) (φ.addN (q.x) (q.z))) (φ.mulN (φ.addN (p.x) (p.z)) (φ.subN (q.x) (q.z)))) (φ.addN (φ.mulN (φ.subN (p.x) (p.z)) (φ.addN (q.x) (q.z))) (φ.mulN (φ.addN (p.x) (p.z)) (φ.subN (q.x) (q.z)))),φ.mulN (x) (φ.mulN (φ.subN (φ.mulN (φ.subN (p.x) (p.z)) (φ.addN (q.x) (q.z))) (φ.mulN (φ.addN (p.x) (p.z)) (φ.subN (q.x) (q.z)))) (φ.subN (φ.mulN (φ.subN (p.x) (p.z)) (φ.addN (q.x) (q.z))) (φ.mulN (φ.addN (p.x) (p.z)) (φ.subN (q.x) (q.z)))))⟩ ⟨φ.mulN (φ.mulN (φ.addN (q.x) (q.z)) (φ.addN (q.x) (q.z))) (φ.mulN (φ.subN (q.x) (q.z)) (φ.subN (q.x) (q.z))),φ.mulN (φ.subN (φ.mulN (φ.addN (q.x) (q.z)) (φ.addN (q.x) (q.z))) (φ.mulN (φ.subN (q.x) (q.z)) (φ.subN (q.x) (q.z)))) (φ.addN (φ.mulN (φ.addN (q.x) (q.z)) (φ.addN (q.x) (q.z))) (φ.mulN (φ.smallN 121665) (φ.subN (φ.mulN (φ.addN (q.x) (q.z)) (φ.addN (q.x) (q.z))) (φ.mulN (φ.subN (q.x) (q.z)) (φ.subN (q.x) (q.z))))))⟩ (IntKind.wrap .i64 (i - 1)),[φ.ok (φ.subN (φ.mulN (φ.addN (q.x) (q.z)) (φ.addN (q.x) (q.z))) (φ.mulN (φ.subN (q.x) (q.z)) (φ.subN (q.x) (q.z)))) && φ.ok (φ.addN (φ.mulN (φ.addN (q.x) (q.z)) (φ.addN (q.x) (q.z))) (φ.mulN (φ.smallN 121665) (φ.subN (φ.mulN (φ.addN (q.x) (q.z)) (φ.addN (q.x) (q.z))) (φ.mulN (φ.subN (q.x) (q.z)) (φ.subN (q.x) (q.z)))))),φ.ok (φ.mulN (φ.addN (q.x) (q.z)) (φ.addN (q.x) (q.z))) && φ.ok (φ.mulN (φ.smallN 121665) (φ.subN (φ.mulN (φ.addN (q.x) (q.z)) (φ.addN (q.x) (q.z))) (φ.mulN (φ.subN (q.x) (q.z)) (φ.subN (q.x) (q.z))))),φ.ok (φ.smallN 121665) && φ.ok (φ.subN (φ.mulN (φ.addN (q.x) (q.z)) (φ.addN (q.x) (q.z))) (φ.mulN (φ.subN (q.x) (q.z)) (φ.subN (q.x) (q.z)))),φ.ok (φ.mulN (φ.addN (q.x) (q.z)) (φ.addN (q.x) (q.z))) && φ.ok (φ.mulN (φ.subN (q.x) (q.z)) (φ.subN (q.x) (q.z))),φ.ok (x) && φ.ok (φ.mulN (φ.subN (φ.mulN (φ.subN (p.x) (p.z)) (φ.addN (q.x) (q.z))) (φ.mulN (φ.addN (p.x) (p.z)) (φ.subN (q.x) (q.z)))) (φ.subN (φ.mulN (φ.subN (p.x) (p.z)) (φ.addN (q.x) (q.z))) (φ.mulN (φ.addN (p.x) (p.z)) (φ.subN (q.x) (q.z))))),φ.ok (φ.subN (φ.mulN (φ.subN (p.x) (p.z)) (φ.addN (q.x) (q.z))) (φ.mulN (φ.addN (p.x) (p.z)) (φ.subN (q.x) (q.z)))) && φ.ok (φ.subN (φ.mulN (φ.subN (p.x) (p.z)) (φ.addN (q.x) (q.z))) (φ.mulN (φ.addN (p.x) (p.z)) (φ.subN (q.x) (q.z)))),φ.ok (φ.mulN (φ.subN (p.x) (p.z)) (φ.addN (q.x) (q.z))) && φ.ok (φ.mulN (φ.addN (p.x) (p.z)) (φ.subN (q.x) (q.z))),φ.ok (φ.addN (φ.mulN (φ.subN (p.x) (p.z)) (φ.addN (q.x) (q.z))) (φ.mulN (φ.addN (p.x) (p.z)) (φ.subN (q.x) (q.z)))) && φ.ok (φ.addN (φ.mulN (φ.subN (p.x) (p.z)) (φ.addN (q.x) (q.z))) (φ.mulN (φ.addN (p.x) (p.z)) (φ.subN (q.x) (q.z)))),φ.ok (φ.mulN (φ.subN (p.x) (p.z)) (φ.addN (q.x) (q.z))) && φ.ok (φ.mulN (φ.addN (p.x) (p.z)) (φ.subN (q.x) (q.z))),φ.ok (φ.addN (p.x) (p.z)) && φ.ok (φ.subN (q.x) (q.z)),φ.ok (p.x) && φ.ok (p.z),φ.ok (φ.subN (p.x) (p.z)) && φ.ok (φ.addN (q.x) (q.z)),φ.ok (p.x) && φ.ok (p.z),φ.ok (φ.mulN (φ.addN (q.x) (q.z)) (φ.addN (q.x) (q.z))) && φ.ok (φ.mulN (φ.subN (q.x) (q.z)) (φ.subN (q.x) (q.z))),φ.ok (φ.subN (q.x) (q.z)) && φ.ok (φ.subN (q.x) (q.z)),φ.ok (q.x) && φ.ok (q.z),φ.ok (φ.addN (q.x) (q.z)) && φ.ok (φ.addN (q.x) (q.z)),φ.ok (q.x) && φ.ok (q.z),((shr_u8 (List.getD kk (Int.toNat (IntKind.wrap IntKind.i64 (Int.tdiv i 8))) 0) (UInt64.toNat (UInt64.ofInt (Int.tmod i 8))) &&& 1) == 1),(decide ((0:Int)≤IntKind.wrap IntKind.i64 (Int.tdiv i 8)) && decide (IntKind.wrap IntKind.i64 (Int.tdiv i 8) < (kk.length:Int))),decide ((0:Int)≤i)]):=by kernel_rfl
theorem okB_add {a b:N16}(h:okB a=true) (k:okB b=true):okB (addP a b)=true:=okB_iff.2 (addP_val a b (okB_iff.1 h) (okB_iff.1 k)).1
theorem okB_sub {a b:N16}(h:okB a=true) (k:okB b=true):okB (subP a b)=true:=okB_add h (okB_iff.2 (negP_ok b (okB_iff.1 k)))
theorem okB_mul {a b:N16}(h:okB a=true) (k:okB b=true):okB (mulP a b)=true:=okB_iff.2 (mulP_val a b (okB_iff.1 h) (okB_iff.1 k)).1
theorem okB_small (n:UInt32):okB (smallN n)=true:=okB_iff.2 (smallN_val n).1
theorem okB_inv {a:N16}(h:okB a=true):okB (invP a)=true:=okB_iff.2 (powP_ok a (okB_iff.1 h) _)
theorem ok15 (k u kk c:List UInt8) (x:N16) (p q:P2 N16) (i:Int):okS Tryz.prog (S15 k u kk (c.map .u8) x p q i)=true:=by
 have h:∀ (m:Nat) (l:List UInt8),ltL m (l.map .u8)=true:=fun m l=>by
  induction l with
  | nil=>rfl
  | cons y l ih=>simp [ltL,ltS,ih]
 simp [okS,gl0,S15,ltT,ltH,ltV,ltS,ltL,h,N16.cells,nble]
def okP2 (s:P2 N16 × P2 N16):Prop:=(okB s.1.x=true∧okB s.1.z=true)∧(okB s.2.x=true∧okB s.2.z=true)
theorem ok_lad (k:List UInt8){u:List UInt8}(h:isLen u 32=true) (j:Nat):okP2 (ladO opsN k (ofP u) j):=by
 have r:=lad_keeps keeps_EN k (rel_of h) j
 exact ⟨⟨okB_iff.2 r.1.1.okP,okB_iff.2 r.1.2.okP⟩,⟨okB_iff.2 r.2.1.okP,okB_iff.2 r.2.2.okP⟩⟩
theorem stp15 (k u kk c:List UInt8) (hk:kk.length=32) (x:N16) (hx:okB x=true) (s s0:P2 N16 × P2 N16) (hs:okP2 s) (j:Int) (m:Nat) (hm:m≤254):roundA (evC Tryz.prog (nl realFl) 118 (mask 34) 1000 5 b15) (headA Tryz.prog 5 (S15 k u kk (c.map .u8) x s0.1 s0.2 j)) (S15 k u kk (c.map .u8) x s.1 s.2 m)=some (S15 k u kk (c.map .u8) x (rndO opsN x (bitK kk m) s).1 (rndO opsN x (bitK kk m) s).2 ((m:Int) - 1)):=by
 have hw:IntKind.wrap .i64 ((m:Int) - 1)=(m:Int) - 1:=wrapI _ (by omega) (by omega)
 have hb:=bit_raw kk m (by omega)
 have hd:=bit_div m (by omega)
 have h1:decide ((0:Int)≤((m / 8:Nat):Int))=true:=by rw [decide_eq_true_iff]; omega
 have h2:decide (((m / 8:Nat):Int) < (kk.length:Int))=true:=by rw [decide_eq_true_iff]; omega
 have h3:decide ((0:Int)≤(m:Int))=true:=by rw [decide_eq_true_iff]; omega
 obtain ⟨p,q⟩:=s
 obtain ⟨⟨o1,o2⟩,⟨o3,o4⟩⟩:=hs
 simp only at o1 o2 o3 o4
 rw [← hw]
 cases hK:bitK kk m
 ·have hK2:(bitB kk m == 1)=false:=hK
  exact roundO2_ok (nl_ps _) (rnd15a realFl k u kk (c.map .u8) m j x p s0.1 q s0.2) (by
   rw [hb,hK2,hd,h1,h2,h3]
   simp (maxDischargeDepth:=30) only [allT,realFl,okB_add,okB_sub,okB_mul,okB_small,o1,o2,o3,o4,hx,Bool.and_self,Bool.not_false,cond_true]) (ok15 _ _ _ _ _ _ _ _)
 ·have hK2:(bitB kk m == 1)=true:=hK
  exact roundO2_ok (nl_ps _) (rnd15b realFl k u kk (c.map .u8) m j x p s0.1 q s0.2) (by
   rw [hb,hK2,hd,h1,h2,h3]
   simp (maxDischargeDepth:=30) only [allT,realFl,okB_add,okB_sub,okB_mul,okB_small,o1,o2,o3,o4,hx,Bool.and_self,Bool.not_false,cond_true]) (ok15 _ _ _ _ _ _ _ _)
theorem run34 (k u:List UInt8) (hk:isLen k 32=true) (hu:isLen u 32=true):(run1 Tryz.prog (nl realFl) (mask 34) 1000 34 [.str k,.str u] [] 5).map (·.1)=some (.str (ladP k u)):=by
 obtain ⟨u0,u1,u2,u3,u4,u5,u6,u7,u8,u9,u10,u11,u12,u13,u14,u15,u16,u17,u18,u19,u20,u21,u22,u23,u24,u25,u26,u27,u28,u29,u30,u31,rfl⟩:=len32 (isLen_eq.1 hu)
 have hl:isLen [u0,u1,u2,u3,u4,u5,u6,u7,u8,u9,u10,u11,u12,u13,u14,u15,u16,u17,u18,u19,u20,u21,u22,u23,u24,u25,u26,u27,u28,u29,u30,u31 &&& 127] 32=true:=rfl
 have ol:=ok_lad (clampL k) hl
 refine run_loopO (nl_ps _) (fn:=Tryz.f34) (c:=bodyOf Tryz.f34) (by kernel_rfl) (by kernel_rfl) (by kernel_rfl) 10 (id:=0) (b:=b15) (by kernel_rfl) (fun j=>S15 k [u0,u1,u2,u3,u4,u5,u6,u7,u8,u9,u10,u11,u12,u13,u14,u15,u16,u17,u18,u19,u20,u21,u22,u23,u24,u25,u26,u27,u28,u29,u30,u31] (clampL k) ([u0,u1,u2,u3,u4,u5,u6,u7,u8,u9,u10,u11,u12,u13,u14,u15,u16,u17,u18,u19,u20,u21,u22,u23,u24,u25,u26,u27,u28,u29,u30,u31 &&& 127].map .u8) (ofP [u0,u1,u2,u3,u4,u5,u6,u7,u8,u9,u10,u11,u12,u13,u14,u15,u16,u17,u18,u19,u20,u21,u22,u23,u24,u25,u26,u27,u28,u29,u30,u31 &&& 127]) (ladO opsN (clampL k) (ofP [u0,u1,u2,u3,u4,u5,u6,u7,u8,u9,u10,u11,u12,u13,u14,u15,u16,u17,u18,u19,u20,u21,u22,u23,u24,u25,u26,u27,u28,u29,u30,u31 &&& 127]) j).1 (ladO opsN (clampL k) (ofP [u0,u1,u2,u3,u4,u5,u6,u7,u8,u9,u10,u11,u12,u13,u14,u15,u16,u17,u18,u19,u20,u21,u22,u23,u24,u25,u26,u27,u28,u29,u30,u31 &&& 127]) j).2 (254 - (j:Int))) 255 (pre15 realFl k u0 u1 u2 u3 u4 u5 u6 u7 u8 u9 u10 u11 u12 u13 u14 u15 u16 u17 u18 u19 u20 u21 u22 u23 u24 u25 u26 u27 u28 u29 u30 u31) ?_ (fun j hj => ?_) (end15 realFl k [u0,u1,u2,u3,u4,u5,u6,u7,u8,u9,u10,u11,u12,u13,u14,u15,u16,u17,u18,u19,u20,u21,u22,u23,u24,u25,u26,u27,u28,u29,u30,u31] (clampL k) ([u0,u1,u2,u3,u4,u5,u6,u7,u8,u9,u10,u11,u12,u13,u14,u15,u16,u17,u18,u19,u20,u21,u22,u23,u24,u25,u26,u27,u28,u29,u30,u31 &&& 127].map .u8) _ (ofP [u0,u1,u2,u3,u4,u5,u6,u7,u8,u9,u10,u11,u12,u13,u14,u15,u16,u17,u18,u19,u20,u21,u22,u23,u24,u25,u26,u27,u28,u29,u30,u31 &&& 127]) _ _) ?_ (by omega)
 ·simp only [allT,realFl,hk,hl,cond_true]
 ·have e1:(254:Int) - (j:Int)=((254 - j:Nat):Int):=by omega
  have e2:(254:Int) - ((j+1:Nat):Int)=((254 - j:Nat):Int) - 1:=by omega
  rw [e1,e2]
  exact stp15 k [u0,u1,u2,u3,u4,u5,u6,u7,u8,u9,u10,u11,u12,u13,u14,u15,u16,u17,u18,u19,u20,u21,u22,u23,u24,u25,u26,u27,u28,u29,u30,u31] (clampL k) [u0,u1,u2,u3,u4,u5,u6,u7,u8,u9,u10,u11,u12,u13,u14,u15,u16,u17,u18,u19,u20,u21,u22,u23,u24,u25,u26,u27,u28,u29,u30,u31 &&& 127] (clamp_len hk) (ofP [u0,u1,u2,u3,u4,u5,u6,u7,u8,u9,u10,u11,u12,u13,u14,u15,u16,u17,u18,u19,u20,u21,u22,u23,u24,u25,u26,u27,u28,u29,u30,u31 &&& 127]) (okB_iff.2 (rel_of hl).okP) (ladO opsN (clampL k) (ofP [u0,u1,u2,u3,u4,u5,u6,u7,u8,u9,u10,u11,u12,u13,u14,u15,u16,u17,u18,u19,u20,u21,u22,u23,u24,u25,u26,u27,u28,u29,u30,u31 &&& 127]) j) _ (ol j) _ (254 - j) (by omega)
 ·have o:=ol 255
  simp only [allT,realFl,okB_inv,o.1.1,o.1.2,Bool.and_self,cond_true]
  rfl
end Go.Proofs.YtlchjbidkdokmaaGreatDoor
namespace Go.Num
open Go Go.Eng
def zero32:List UInt8:=List.replicate 32 0
def nine32:List UInt8:=9::List.replicate 31 0
def p255:Nat:=57896044618658097711785492504343953926634992332820282019728792003956564819968
theorem leNat_app2:∀ (a b:List UInt8),leNat (a++b)=leNat a+256 ^ a.length * leNat b
 | [],b=>by simp [leNat]
 | x::a,b=>by
  have:=leNat_app2 a b
  simp only [List.cons_append,leNat,this,List.length_cons,Nat.pow_succ]
  rw [Nat.mul_add]
  have:256 * (256 ^ a.length * leNat b)=256 ^ a.length * 256 * leNat b:=by rw [← Nat.mul_assoc,Nat.mul_comm 256]
  omega
theorem leNat_bound:∀ (a:List UInt8),leNat a < 256 ^ a.length
 | []=>by simp [leNat]
 | x::a=>by
  have:=leNat_bound a
  have hx:=x.toNat_lt
  simp only [leNat,List.length_cons,Nat.pow_succ]
  omega
theorem and127 (x:UInt8):(x &&& 127).toNat=x.toNat % 128:=by
 rw [UInt8.toNat_and]
 exact Nat.and_two_pow_sub_one_eq_mod x.toNat 7
theorem topL_val {u:List UInt8}(h:isLen u 32=true):leNat (topL u)=leNat u % p255:=by
 rw [isLen_eq] at h
 have e:u=u.take 31++[u.getD 31 0]:=by
  have h1:u.drop 31=[u.getD 31 0]:=by
   rw [List.drop_eq_getElem_cons (by omega),List.drop_of_length_le (by omega)]
   rw [List.getD_eq_getElem?_getD,List.getElem?_eq_getElem (by omega)]; rfl
  rw [← h1,List.take_append_drop]
 have hl:(u.take 31).length=31:=by rw [List.length_take]; omega
 have e2:topL u=u.take 31++[u.getD 31 0 &&& 127]:=by
  unfold topL
  apply List.ext_getElem?
  intro i
  rw [List.getElem?_set]
  by_cases h1:31=i
  ·subst h1
   rw [if_pos rfl,if_pos (by omega),List.getElem?_append_right (by omega),hl]; rfl
  ·rw [if_neg h1]
   by_cases h2:i < 31
   ·rw [List.getElem?_append_left (by omega),List.getElem?_take_of_lt h2]
   ·rw [List.getElem?_eq_none (by omega),List.getElem?_eq_none (by rw [List.length_append,hl]; show 31+1≤i; omega)]
 have hb:=leNat_bound (u.take 31)
 rw [hl] at hb
 generalize hx:u.getD 31 0=x at e e2
 rw [e2]
 conv=>rhs; rw [e]
 rw [leNat_app2,leNat_app2,hl]
 have hx2:=x.toNat_lt
 have s1:∀ y:UInt8,leNat [y]=y.toNat:=fun y=>by simp [leNat]
 rw [s1,s1,and127]
 unfold p255
 simp only [Nat.reducePow] at hb ⊢
 omega
theorem ladE_nat (k:List UInt8){u:List UInt8}(h:isLen u 32=true):leNat (ladE k u)=quotM (ladM k (leNat u % p255 % Pq)):=by
 rw [ladE_val,ofEl_val (topL_len h),topL_val h]
theorem ladE_is (k:List UInt8){u:List UInt8}(h:isLen u 32=true){n m:Nat}(hn:leNat u=n) (hlt:n < Pq) (hm:quotM (ladM k n)=m):leNat (ladE k u)=m:=by
 rw [ladE_nat k h,hn]
 have hp:Pq < p255:=by decide
 rw [Nat.mod_eq_of_lt (show n < p255 by omega),Nat.mod_eq_of_lt hlt,hm]
theorem nine_val:leNat nine32=9:=by decide
end Go.Num
namespace Go.Proofs.YtlchjbidkdokmaaGreatDoor
open Go Go.Eng Go.Num
def p54:List AVal→Option (EffA × Bool)
 | [.str k,.str u]=>some (.pure (.str (ladE k u)),isLen k 32 && isLen u 32)
 | _=>none
theorem p54_ok:CSOk Tryz.prog (csP (psOne 54 p54)):=csP_one fun args v he=>by
 unfold p54 at he
 split at he
 ·simp only [Option.some.injEq,Prod.mk.injEq,Bool.and_eq_true] at he
  obtain ⟨rfl,h⟩:=he
  exact callOk_val nl_ok hmix (run54 _ _ h.1 h.2) rfl rfl
 ·cases he
def p34:List AVal→Option (EffA × Bool)
 | [.str k,.str u]=>some (.pure (.str (ladP k u)),isLen k 32 && isLen u 32)
 | _=>none
theorem p34_ok:CSOk Tryz.prog (csP (psOne 34 p34)):=csP_one fun args v he=>by
 unfold p34 at he
 split at he
 ·simp only [Option.some.injEq,Prod.mk.injEq,Bool.and_eq_true] at he
  obtain ⟨rfl,h⟩:=he
  exact callOk_val nl_ok hmix (run34 _ _ h.1 h.2) rfl rfl
 ·cases he
structure Fh where
 ladE:List UInt8→List UInt8→List UInt8
 ladP:List UInt8→List UInt8→List UInt8
 l32:List UInt8→Bool
def realFh:Fh:=⟨ladE,ladP,fun s=>isLen s 32⟩
def q54 (φ:Fh):List AVal→Option (EffA × Bool)
 | [.str a,.str b]=>some (.pure (.str (φ.ladE a b)),(φ.l32 a && φ.l32 b))
 | _=>none
theorem q54_ok:CSOk Tryz.prog (csP (psOne 54 (q54 realFh))):=csP_one fun args v he=>by
 unfold q54 at he
 split at he
 ·rename_i a b
  simp only [Option.some.injEq,Prod.mk.injEq] at he
  obtain ⟨rfl,h⟩:=he
  have h2:(realFh.l32 a && realFh.l32 b)=true:=h
  refine p54_ok 54 [(.str a),(.str b)] _ ?_
  show cond ((realFh.l32 a && realFh.l32 b)) _ _=_
  rw [h2]; rfl
 ·cases he
def q34 (φ:Fh):List AVal→Option (EffA × Bool)
 | [.str a,.str b]=>some (.pure (.str (φ.ladP a b)),(φ.l32 a && φ.l32 b))
 | _=>none
theorem q34_ok:CSOk Tryz.prog (csP (psOne 34 (q34 realFh))):=csP_one fun args v he=>by
 unfold q34 at he
 split at he
 ·rename_i a b
  simp only [Option.some.injEq,Prod.mk.injEq] at he
  obtain ⟨rfl,h⟩:=he
  have h2:(realFh.l32 a && realFh.l32 b)=true:=h
  refine p34_ok 34 [(.str a),(.str b)] _ ?_
  show cond ((realFh.l32 a && realFh.l32 b)) _ _=_
  rw [h2]; rfl
 ·cases he
def psnh (φ:Fh):PS:=(psAlt (psOne 54 (q54 φ)) (psOne 34 (q34 φ)))
theorem psnh_ok:CSOk Tryz.prog (csP (psnh realFh)):=(csP_alt q54_ok q34_ok)
def chnh (φ:Fh):CS:=cs0
theorem chnh_ok:CSOk Tryz.prog (chnh realFh):=cs0_ok
def nh (φ:Fh):CS:=csAlt (csP (psnh φ)) (chnh φ)
theorem nh_ok:CSOk Tryz.prog (nh realFh):=csAlt_ok psnh_ok chnh_ok
theorem nh_ps (φ:Fh):PSOk (psnh φ) (nh φ):=csP_ok
def shV (l:List UInt8→List UInt8→List UInt8) (k u:List UInt8):List UInt8:=cond (isLen k 32 && isLen u 32) (cond (l k u == zero32) [] (l k u)) []
def shR (l:List UInt8→List UInt8→List UInt8) (k u:List UInt8):Int:=cond (isLen k 32 && isLen u 32) (cond (l k u == zero32) 30 0) 2
def puV (l:List UInt8→List UInt8→List UInt8) (k:List UInt8):List UInt8:=cond (isLen k 32) (l k nine32) []
def puR (k:List UInt8):Int:=cond (isLen k 32) 0 2
theorem v30a (φ:Fh) (k u:List UInt8):ansO (run1O Tryz.prog (psnh φ) (nh φ) [9] [true] [] (mask 30) 200 30 [.str k,.str u] [] Tryz.prog.globals.size)=some (.tup [.str [],.int .i64 2],[((k.length:Int) != 32)]):=by kernel_rfl
theorem v30b (φ:Fh) (k u:List UInt8):ansO (run1O Tryz.prog (psnh φ) (nh φ) [9,13] [false,true] [] (mask 30) 200 30 [.str k,.str u] [] Tryz.prog.globals.size)=some (.tup [.str [],.int .i64 2],[((u.length:Int) != 32),!(((k.length:Int) != 32))]):=by kernel_rfl
theorem v30c (φ:Fh) (k u:List UInt8):ansO (run1O Tryz.prog (psnh φ) (nh φ) [9,13,17,21] [false,false,true] [] (mask 30) 200 30 [.str k,.str u] [] Tryz.prog.globals.size)=some (.tup [.str [],.int .i64 30],[φ.ladE k u == zero32,(φ.l32 k && φ.l32 u),!(((u.length:Int) != 32)),!(((k.length:Int) != 32))]):=by kernel_rfl
theorem v30d (φ:Fh) (k u:List UInt8):ansO (run1O Tryz.prog (psnh φ) (nh φ) [9,13,17,21] [false,false,false] [] (mask 30) 200 30 [.str k,.str u] [] Tryz.prog.globals.size)=some (.tup [.str (φ.ladE k u),.int .i64 0],[!(φ.ladE k u == zero32),(φ.l32 k && φ.l32 u),!(((u.length:Int) != 32)),!(((k.length:Int) != 32))]):=by kernel_rfl
theorem run30 (k u:List UInt8):(run1 Tryz.prog (nh realFh) (mask 30) 200 30 [.str k,.str u] [] Tryz.prog.globals.size).map (·.1)=some (.tup [.str (shV ladE k u),.int .i64 (shR ladE k u)]):=by
 unfold shV shR
 cases hk:isLen k 32
 ·exact ansO_run (nh_ps _) (v30a realFh k u) (by simp [allT,ne32 hk])
 cases hu:isLen u 32
 ·exact ansO_run (nh_ps _) (v30b realFh k u) (by simp [allT,to32 hk,ne32 hu])
 cases hz:(ladE k u == zero32)
 ·exact ansO_run (nh_ps _) (v30d realFh k u) (by simp only [allT,realFh,hk,hu,hz,to32 hk,to32 hu]; rfl)
 ·exact ansO_run (nh_ps _) (v30c realFh k u) (by simp only [allT,realFh,hk,hu,hz,to32 hk,to32 hu]; rfl)
def g30:List AVal→Option EffA
 | [.str a,.str b]=>some (.pure (.tup [.str (shV ladE a b),.int .i64 (shR ladE a b)]))
 | _=>none
theorem g30_ok:CSOk Tryz.prog (csOne 30 g30):=csOne_ok fun args e he=>by
 unfold g30 at he
 split at he
 ·rename_i a b
  cases he
  exact callOk_val nh_ok hmix (run30 a b) rfl rfl
 ·cases he
theorem v36a (φ:Fh) (k:List UInt8):ansO (run1O Tryz.prog (psnh φ) (nh φ) [7] [true] [] (mask 36) 200 36 [.str k] [] Tryz.prog.globals.size)=some (.tup [.str [],.int .i64 2],[((k.length:Int) != 32)]):=by kernel_rfl
theorem v36b (φ:Fh) (k:List UInt8):ansO (run1O Tryz.prog (psnh φ) (nh φ) [7,12] [false] [] (mask 36) 200 36 [.str k] [] Tryz.prog.globals.size)=some (.tup [.str (φ.ladE k nine32),.int .i64 0],[(φ.l32 k && φ.l32 nine32),!(((k.length:Int) != 32))]):=by kernel_rfl
theorem run36 (k:List UInt8):(run1 Tryz.prog (nh realFh) (mask 36) 200 36 [.str k] [] Tryz.prog.globals.size).map (·.1)=some (.tup [.str (puV ladE k),.int .i64 (puR k)]):=by
 unfold puV puR
 cases hk:isLen k 32
 ·exact ansO_run (nh_ps _) (v36a realFh k) (by simp [allT,ne32 hk])
 ·exact ansO_run (nh_ps _) (v36b realFh k) (by simp only [allT,realFh,hk,to32 hk]; rfl)
def g36:List AVal→Option EffA
 | [.str a]=>some (.pure (.tup [.str (puV ladE a),.int .i64 (puR a)]))
 | _=>none
theorem g36_ok:CSOk Tryz.prog (csOne 36 g36):=csOne_ok fun args e he=>by
 unfold g36 at he
 split at he
 ·rename_i a
  cases he
  exact callOk_val nh_ok hmix (run36 a) rfl rfl
 ·cases he
theorem v10a (φ:Fh) (k:List UInt8):ansO (run1O Tryz.prog (psnh φ) (nh φ) [7] [true] [] (mask 10) 200 10 [.str k] [] Tryz.prog.globals.size)=some (.tup [.str [],.int .i64 2],[((k.length:Int) != 32)]):=by kernel_rfl
theorem v10b (φ:Fh) (k:List UInt8):ansO (run1O Tryz.prog (psnh φ) (nh φ) [7,14] [false] [] (mask 10) 200 10 [.str k] [] Tryz.prog.globals.size)=some (.tup [.str (φ.ladP k nine32),.int .i64 0],[(φ.l32 k && φ.l32 nine32),!(((k.length:Int) != 32))]):=by kernel_rfl
theorem run10 (k:List UInt8):(run1 Tryz.prog (nh realFh) (mask 10) 200 10 [.str k] [] Tryz.prog.globals.size).map (·.1)=some (.tup [.str (puV ladP k),.int .i64 (puR k)]):=by
 unfold puV puR
 cases hk:isLen k 32
 ·exact ansO_run (nh_ps _) (v10a realFh k) (by simp [allT,ne32 hk])
 ·exact ansO_run (nh_ps _) (v10b realFh k) (by simp only [allT,realFh,hk,to32 hk]; rfl)
def g10:List AVal→Option EffA
 | [.str a]=>some (.pure (.tup [.str (puV ladP a),.int .i64 (puR a)]))
 | _=>none
theorem g10_ok:CSOk Tryz.prog (csOne 10 g10):=csOne_ok fun args e he=>by
 unfold g10 at he
 split at he
 ·rename_i a
  cases he
  exact callOk_val nh_ok hmix (run10 a) rfl rfl
 ·cases he
end Go.Proofs.YtlchjbidkdokmaaGreatDoor
namespace Go.Proofs.YtlchjbidkdokmaaGreatDoor
open Go Go.Eng Go.Num
structure Fk where
 shV:List UInt8→List UInt8→List UInt8
 shR:List UInt8→List UInt8→Int
 shVd:List UInt8→List UInt8→List UInt8
 shRd:List UInt8→List UInt8→Int
 puV:List UInt8→List UInt8
 puVd:List UInt8→List UInt8
 puR:List UInt8→Int
 l32:List UInt8→Bool
 ofN:List UInt8→N16
 bytesN:N16→List UInt8
def realFk:Fk:=⟨shV ladE,shR ladE,shV ladP,shR ladP,puV ladE,puV ladP,puR,fun s=>isLen s 32,ofP,bytesN⟩
def k30 (φ:Fk):List AVal→Option EffA
 | [.str a,.str b]=>some (.pure (.tup [.str (φ.shV a b),.int .i64 (φ.shR a b)]))
 | _=>none
theorem k30_ok:CSOk Tryz.prog (csOne 30 (k30 realFk)):=csOne_ok fun args e he=>by
 unfold k30 at he
 split at he
 ·rename_i a b
  cases he
  exact g30_ok 30 [(.str a),(.str b)] _ rfl
 ·cases he
def k36 (φ:Fk):List AVal→Option EffA
 | [.str a]=>some (.pure (.tup [.str (φ.puV a),.int .i64 (φ.puR a)]))
 | _=>none
theorem k36_ok:CSOk Tryz.prog (csOne 36 (k36 realFk)):=csOne_ok fun args e he=>by
 unfold k36 at he
 split at he
 ·rename_i a
  cases he
  exact g36_ok 36 [(.str a)] _ rfl
 ·cases he
def k10 (φ:Fk):List AVal→Option EffA
 | [.str a]=>some (.pure (.tup [.str (φ.puVd a),.int .i64 (φ.puR a)]))
 | _=>none
theorem k10_ok:CSOk Tryz.prog (csOne 10 (k10 realFk)):=csOne_ok fun args e he=>by
 unfold k10 at he
 split at he
 ·rename_i a
  cases he
  exact g10_ok 10 [(.str a)] _ rfl
 ·cases he
end Go.Proofs.YtlchjbidkdokmaaGreatDoor
namespace Go.Proofs.YtlchjbidkdokmaaGreatDoor
open Go Go.Eng Go.Num Go.Bla Bk
abbrev L8:=List UInt8
def kyL (c:UInt8):L8:=List.replicate 31 0++[c]
def vPR:L8:=[37,59,102,59,45,239,221,63,44,116,158,148,227,53,156,244,33,224,255,35,127,139,191,137,134,58,187,169,243,197,181,32]
def vPA:L8:=[25,60,77,103,59,0,42,221,148,203,36,3,232,147,223,114,73,166,100,172,210,123,165,125,210,35,39,239,153,207,163,36]
def vPB:L8:=[79,27,96,151,118,98,90,116,181,78,149,199,95,183,95,149,127,246,209,76,9,226,24,247,86,158,8,170,51,97,144,8]
def vX1:L8:=[244,197,80,220,76,142,192,2,21,88,232,37,248,75,215,117,151,209,94,183,128,1,152,252,193,0,188,91,156,131,202,118]
def vX2:L8:=[68,250,3,243,131,45,50,55,14,195,199,52,221,184,211,23,21,13,130,246,220,171,221,214,189,191,221,212,23,28,140,0]
def vM1:L8:=[114,101,108,97,121,32,0,0,0,0,0,0,0,0,0,0,0,0,0,0,0,97]
def vM2:L8:=[114,101,108,97,121,32,0,0,0,0,0,0,0,0,0,0,0,0,0,0,0,98]
def vD1:L8:=[155,11,80,19,84,22,92,173,6,24,236,22,50,55,10,194,133,249,179,252,93,192,140,2,68,91,1,198,42,178,253,97]
def vD2:L8:=[231,114,145,4,136,175,86,162,228,90,200,107,138,26,169,2,59,27,186,24,97,136,3,0,189,243,48,202,131,127,98,37]
theorem lad_lit {k u L:L8}{n m:Nat}(hu:isLen u 32=true) (hn:leNat u=n) (hlt:n < Pq) (hm:quotM (ladM k n)=m) (hL:leNat L=m) (hl:L.length=32):ladE k u=L:=
 leNat_inj (by rw [ladE_len,hl]) ((ladE_is k hu hn hlt hm).trans hL.symm)
theorem qPR:quotM (ladM (kyL 114) 9)=14795176686561568527229251805367693269783137586247193439964018134723787635493:=by kernel_rfl
theorem lPR:ladE (kyL 114) nine32=vPR:=lad_lit rfl nine_val (by decide) qPR (by decide) rfl
theorem qPA:quotM (ladM (kyL 97) 9)=16572691432107831290236438983220704641597839740724002177525024145463529258009:=by kernel_rfl
theorem lPA:ladE (kyL 97) nine32=vPA:=lad_lit rfl nine_val (by decide) qPA (by decide) rfl
theorem qPB:quotM (ladM (kyL 98) 9)=3873599628253772194686510826457445042224408612751331329672488392857300769615:=by kernel_rfl
theorem lPB:ladE (kyL 98) nine32=vPB:=lad_lit rfl nine_val (by decide) qPB (by decide) rfl
theorem qRA:quotM (ladM (kyL 114) 16572691432107831290236438983220704641597839740724002177525024145463529258009)=53730727584094535575691055812458653818050444295569351026094548727382397732340:=by kernel_rfl
theorem lRA:ladE (kyL 114) vPA=vX1:=lad_lit rfl (by decide) (by decide) qRA (by decide) rfl
theorem qAR:quotM (ladM (kyL 97) 14795176686561568527229251805367693269783137586247193439964018134723787635493)=53730727584094535575691055812458653818050444295569351026094548727382397732340:=by kernel_rfl
theorem lAR:ladE (kyL 97) vPR=vX1:=lad_lit rfl (by decide) (by decide) qAR (by decide) rfl
theorem qRB:quotM (ladM (kyL 114) 3873599628253772194686510826457445042224408612751331329672488392857300769615)=247552480462885363725723397838837663793921354395289180194425270255619406404:=by kernel_rfl
theorem lRB:ladE (kyL 114) vPB=vX2:=lad_lit rfl (by decide) (by decide) qRB (by decide) rfl
theorem qBR:quotM (ladM (kyL 98) 14795176686561568527229251805367693269783137586247193439964018134723787635493)=247552480462885363725723397838837663793921354395289180194425270255619406404:=by kernel_rfl
theorem lBR:ladE (kyL 98) vPR=vX2:=lad_lit rfl (by decide) (by decide) qBR (by decide) rfl
theorem pu_lit {k L:L8}(hk:isLen k 32=true) (h:ladE k nine32=L):puV ladE k=L∧puV ladP k=L∧puR k=0:=by
 unfold puV puR
 rw [hk,← lad_same k (u:=nine32) rfl,h]
 exact ⟨rfl,rfl,rfl⟩
theorem sh_lit {k u L:L8}(hk:isLen k 32=true) (hu:isLen u 32=true) (h:ladE k u=L) (hz:(L == zero32)=false):shV ladE k u=L∧shR ladE k u=0:=by
 unfold shV shR
 rw [hk,hu,h,hz]
 exact ⟨rfl,rfl⟩
theorem kD1:outC (hm wF (fun i=>vX1.getD i 0) vM1)=vD1:=by kernel_rfl
theorem kD2:outC (hm wF (fun i=>vX2.getD i 0) vM2)=vD2:=by kernel_rfl
end Go.Proofs.YtlchjbidkdokmaaGreatDoor
namespace Go.Proofs.YtlchjbidkdokmaaGreatDoor
open Go.Shelf
def Tryz.lays156_ren:Go.Shelf.Ren:=⟨fun | 156=>199 | 165=>204 | 166=>205 | 169=>206 | 240=>209 | 241=>210 | 276=>215 | 277=>216 | n=>n,fun | 31=>41 | 9=>9 | 3=>3 | 4=>4 | 0=>0 | 20=>20 | 72=>264 | 76=>268 | 70=>262 | 37=>79 | 75=>267 | 127=>271 | 164=>276 | 5=>5 | 80=>71 | n=>n,fun | n=>n⟩
theorem Tryz.lays156:Go.Proofs.Lays.n156 Tryz.prog Tryz.lays156_ren:={
 mixed:=by kernel_rfl
 f156:=Tryz.func199.trans (congrArg some (by kernel_rfl))
 f165:=Tryz.func204.trans (congrArg some (by kernel_rfl))
 f166:=Tryz.func205.trans (congrArg some (by kernel_rfl))
 f169:=Tryz.func206.trans (congrArg some (by kernel_rfl))
 f240:=Tryz.func209.trans (congrArg some (by kernel_rfl))
 f241:=Tryz.func210.trans (congrArg some (by kernel_rfl))
 f276:=Tryz.func215.trans (congrArg some (by kernel_rfl))
 f277:=Tryz.func216.trans (congrArg some (by kernel_rfl))
 t0:=Tryz.underlying0
 a0:=Tryz.isAgg0
 z0:=Tryz.sizeOf0
 v0:=Tryz.zeroValue0
 t3:=Tryz.underlying3
 a3:=Tryz.isAgg3
 z3:=Tryz.sizeOf3
 v3:=Tryz.zeroValue3
 t4:=Tryz.underlying4
 a4:=Tryz.isAgg4
 z4:=Tryz.sizeOf4
 v4:=Tryz.zeroValue4
 t9:=Tryz.underlying9
 a9:=Tryz.isAgg9
 z9:=Tryz.sizeOf9
 v9:=Tryz.zeroValue9
 t20:=Tryz.underlying20
 a20:=Tryz.isAgg20
 z20:=Tryz.sizeOf20
 v20:=Tryz.zeroValue20
 t31:=Tryz.underlying41
 a31:=Tryz.isAgg41
 z31:=Tryz.sizeOf41
 v31:=Tryz.zeroValue41
 t37:=Tryz.underlying79
 a37:=Tryz.isAgg79
 z37:=Tryz.sizeOf79
 v37:=Tryz.zeroValue79
 t70:=Tryz.underlying262
 a70:=Tryz.isAgg262
 z70:=Tryz.sizeOf262
 v70:=Tryz.zeroValue262
 t72:=Tryz.underlying264
 a72:=Tryz.isAgg264
 z72:=Tryz.sizeOf264
 v72:=Tryz.zeroValue264
 t75:=Tryz.underlying267
 a75:=Tryz.isAgg267
 z75:=Tryz.sizeOf267
 v75:=Tryz.zeroValue267
 t76:=Tryz.underlying268
 a76:=Tryz.isAgg268
 z76:=Tryz.sizeOf268
 v76:=Tryz.zeroValue268
 t127:=Tryz.underlying271
 a127:=Tryz.isAgg271
 z127:=Tryz.sizeOf271
 v127:=Tryz.zeroValue271
 t164:=Tryz.underlying276
 a164:=Tryz.isAgg276
 z164:=Tryz.sizeOf276
 v164:=Tryz.zeroValue276 }
theorem Tryz.Builder_Extra_156:Builder.Extra Tryz.prog Tryz.lays156_ren:={
 sizeBuilder:=by kernel_rfl
 liesBuilder:=by kernel_rfl
 t5:=Tryz.underlying5
 a5:=Tryz.isAgg5
 z5:=Tryz.sizeOf5
 v5:=Tryz.zeroValue5
 infoByte:=by kernel_rfl
 cellsByte:=by kernel_rfl
 sizeByte:=by kernel_rfl
 neB5:=by decide }
open Go.RowKit in
theorem Tryz.strings_Join (bk o c:Nat) (xs:List ByteArray) (sep:ByteArray) (w:World) (hcells:∀ (j:Nat) x,xs[j]? = some x→w.cell? ⟨bk,o+j,none⟩=some (.string x)) (hbk:bk < w.heap.size) (hN:xs.length≤140737488355328) (hcap:xs.length≤c) (hlen:(Lib.join (xs.map (·.data.toList)) sep.data.toList).length≤140737488355328) :
  Calls Tryz.prog 199 #[.slice (some ⟨bk,o,none⟩) xs.length c,.string sep] w fun e w'=>e=.returned (.string ⟨(Lib.join (xs.map (·.data.toList)) sep.data.toList).toArray⟩)∧Below w.heap.size w w':=Any.strings_Join Tryz.lays156 Tryz.Builder_Extra_156 bk o c xs sep w hcells hbk hN hcap hlen
end Go.Proofs.YtlchjbidkdokmaaGreatDoor
namespace Go.Proofs.YtlchjbidkdokmaaGreatDoor
open Go Go.Eng Go.Num
def strsA:List AVal→Option (List (List UInt8))
 | []=>some []
 | .str s::l=>match strsA l with
  | some m=>some (s::m)
  | none=>none
 | _=>none
theorem strsA_at:∀ {l:List AVal}{m:List (List UInt8)},strsA l=some m→m.length=l.length∧∀ (i:Nat) (s:List UInt8),m[i]? = some s→l[i]? = some (AVal.str s)
 | [],m,h=>by
  cases h
  exact ⟨rfl,fun i s h=>by simp at h⟩
 | a::l,m,h=>by
  unfold strsA at h
  split at h
  ·rename_i h0
   cases h0
  ·rename_i s l' he
   cases he
   split at h
   ·rename_i m' hm
    cases h
    obtain ⟨h1,h2⟩:=strsA_at hm
    refine ⟨by simp [h1],fun i s' h => ?_⟩
    cases i with
    | zero=>simpa using h
    | succ i=>simpa using h2 i s' (by simpa using h)
   ·cases h
  ·cases h
def rdS (n off len:Nat) (g:List (List UInt8)→Option AVal):EffA:=.read n fun ob=>match ob with
 | .cells _ c=>match strsA ((c.drop off).take len) with
  | some ls=>cond (Nat.beq ls.length len) (g ls) none
  | none=>none
 | .mp _=>none
def bas (l:List UInt8):ByteArray:=⟨l.toArray⟩
theorem callOk_rdS {P:Program}{f:FuncId}{n off len:Nat}{s:List UInt8}{g:List (List UInt8)→Option AVal}
  (h:∀ (xs:List ByteArray) (b o cap:Nat) (w:World) (ls:List (List UInt8)) (v:AVal),xs=ls.map bas→xs.length=len→len≤cap→b < w.heap.size→(∀ (j:Nat) x,xs[j]? = some x→w.cell? ⟨b,o+j,none⟩=some (.string x))→g ls=some v →
   Calls P f #[.slice (some ⟨b,o,none⟩) len cap,.string (bas s)] w fun r w' => ∃ v',r=.returned v'∧(∀ σ',VR σ' v v')∧Go.RowKit.Below w.heap.size w w') :
  CallOk P f [.slice n off len 1,.str s] (rdS n off len g):=by
 intro σ args' H w base v0 H0 hl hg hH happ hfree
 unfold rdS at happ
 simp only [EffA.app] at happ
 cases hn:aget H n with
 | none=>rw [hn] at happ; cases happ
 | some ob =>
  rw [hn] at happ
  cases ob with
  | mp _=>cases happ
  | cells ro c =>
  simp only at happ
  cases hs:strsA ((c.drop off).take len) with
  | none=>rw [hs] at happ; cases happ
  | some ls =>
   rw [hs] at happ
   simp only at happ
   cases hb:Nat.beq ls.length len with
   | false=>rw [hb] at happ; cases happ
   | true =>
    rw [hb] at happ
    simp only [cond_true] at happ
    have hll:=Nat.eq_of_beq_eq_true hb
    cases hv:g ls with
    | none=>rw [hv] at happ; cases happ
    | some v =>
     rw [hv] at happ
     simp only [Option.some.injEq,Prod.mk.injEq] at happ
     obtain ⟨rfl,rfl⟩:=happ
     obtain ⟨a,b,rfl,ha,hb'⟩:∃ a b,args' = #[a,b]∧VR σ (.slice n off len 1) a∧VR σ (.str s) b:=by
      have h1:=hl.1
      obtain ⟨l⟩:=args'
      match l,h1 with
      | [a,b],_=>exact ⟨a,b,rfl,hl.2 0 _ _ rfl rfl,hl.2 1 _ _ rfl rfl⟩
     cases hb'
     cases ha with
     | slice hp ho hc hsz =>
      rename_i p o cap
      obtain ⟨p',hp',ho'⟩:=hH.obj n _ hn
      rw [hp] at hp'
      cases hp'
      obtain ⟨c',t,fz,hh,hsz',hcell,_,_⟩:=ho'
      have hat:=(strsA_at hs).2
      have hbk:p.blk < w.heap.size:=by
       rcases Nat.lt_or_ge p.blk w.heap.size with h | h
       ·exact h
       ·rw [Array.getElem?_eq_none h] at hh
        cases hh
      refine (h (ls.map bas) p.blk o cap w ls v rfl (by rw [List.length_map]; exact hll) hc hbk (fun j x hx => ?_) hv).mono fun r w' ⟨v',h1,h2,h3⟩ => ?_
      ·rw [List.getElem?_map] at hx
       cases hj:ls[j]? with
       | none=>rw [hj] at hx; cases hx
       | some y =>
        rw [hj] at hx
        simp only [Option.map_some,Option.some.injEq] at hx
        subst hx
        have hjl:j < len:=by
         have:=(List.getElem?_eq_some_iff.1 hj).1
         omega
        have ho2:o=p.sh+off:=ho.resolve_left (by omega)
        have hc1:=hat j y hj
        rw [List.getElem?_take_of_lt hjl,List.getElem?_drop] at hc1
        obtain ⟨v',hv1,hv2⟩:=hcell (off+j) _ hc1
        cases hv2
        rw [cell_at hh,ho2,Nat.add_assoc]
        exact hv1
      ·refine ⟨σ,v',h1,h2 σ,⟨fun n o hn => ?_,hH.inj⟩,⟨Sig.le_refl σ,h3.size,h3.os,h3.output,h3.tape,fun b hb hn=>⟨h3.block b hb,hn⟩⟩,Only.refl σ base⟩
       obtain ⟨p,hp,ho⟩:=hH.obj n o hn
       exact ⟨p,hp,ho.mono (Sig.le_refl σ) (h3.block _ ho.lt)⟩
theorem bas_map (ls:List (List UInt8)):(ls.map bas).map (·.data.toList)=ls:=by
 rw [List.map_map]
 conv=>rhs; rw [← List.map_id ls]
 rfl
def joinV (sep:List UInt8) (ls:List (List UInt8)):Option AVal:=cond (Nat.ble (Lib.join ls sep).length 1000000 && Nat.ble ls.length 1000000) (some (.str (Lib.join ls sep))) none
def k100:List AVal→Option EffA
 | [.slice n off len 1,.str s]=>some (rdS n off len (joinV s))
 | _=>none
theorem k100_ok:CSOk Tryz.prog (csOne 199 k100):=csOne_ok fun args e he=>by
 unfold k100 at he
 split at he
 ·rename_i n off len s
  cases he
  refine callOk_rdS fun xs b o cap w ls v hx hl hc hbk hcells hv => ?_
  unfold joinV at hv
  cases hb:(Nat.ble (Lib.join ls s).length 1000000 && Nat.ble ls.length 1000000) with
  | false=>rw [hb] at hv; cases hv
  | true =>
   rw [hb] at hv
   cases hv
   simp only [Bool.and_eq_true] at hb
   have h1:=Nat.le_of_ble_eq_true hb.1
   have h2:=Nat.le_of_ble_eq_true hb.2
   have e1:xs.map (·.data.toList)=ls:=by rw [hx,bas_map]
   have e2:(bas s).data.toList=s:=by simp [bas]
   have hll:xs.length=ls.length:=by rw [hx,List.length_map]
   rw [← hl]
   refine (Tryz.strings_Join b o cap xs (bas s) w hcells hbk (by omega) (by omega) (by rw [e1,e2]; omega)).mono fun e w' ⟨h1,h2⟩=>⟨_,h1,fun σ' => ?_,h2⟩
   rw [e1,e2]
   exact .str _
 ·cases he
end Go.Proofs.YtlchjbidkdokmaaGreatDoor
namespace Go.Proofs.YtlchjbidkdokmaaGreatDoor
open Go
set_option maxRecDepth 1000000
theorem getObj_tape {α:Type}{P:Program}{r:Nat}{k:Obj→Sem α}{w w':World}{v:α}(hk:∀ o,(k o).run P w=.ok v w'→w'.tape=w.tape) (h:(getObj r >>= k).run P w=.ok v w'):w'.tape=w.tape:=by
 simp only [Sem.run_bind,getObj,Sem.run] at h
 split at h
 ·cases h
 ·simp only [Result.andThen,Sem.run] at h
  exact hk _ h
 ·cases h
theorem choose_tape {α:Type}{P:Program}{q:Question}{k:Nat→Sem α}{w w':World}{v:α}(hk:∀ j w1,w1.tape=w.tape→(k j).run P w1=.ok v w'→w'.tape=w.tape) (h:(choose q >>= k).run P w=.ok v w'):w'.tape=w.tape:=by
 simp only [Sem.run_bind,choose,Sem.run] at h
 cases hq:q.forced <;> simp only [hq,if_true,if_false,Bool.false_eq_true,Result.andThen,reduceIte,not_true,not_false_eq_true] at h
 ·exact hk _ { w with drawn:=w.drawn+1 } rfl h
 ·exact hk _ w rfl h
theorem next_tape {P:Program}{it:Value}{b:Bool}{ty:TypeId}{w w':World}{v:Value}(h:(Instr.next it b ty).run P w=.ok v w'):w'.tape=w.tape:=by
 unfold Instr.next at h
 split at h
 ·rename_i r _
  refine getObj_tape (fun o h => ?_) h
  split at h
  ·split at h
   ·simp only [Sem.run_bind,setObj,Sem.run] at h
    split at h
    ·cases h
    ·simp only [Result.andThen,Sem.run,Sem.run_pure] at h
     cases h; rfl
    ·cases h
   ·cases h; rfl
  ·cases h; rfl
  ·refine getObj_tape (fun o h => ?_) h
   split at h
   ·split at h
    ·cases h
    ·refine choose_tape (fun j w1 h1 h2 => ?_) h
     split at h2
     ·simp only [Sem.run_bind,setObj,Sem.run] at h2
      split at h2
      ·cases h2
      ·simp only [Result.andThen,Sem.run,Sem.run_pure] at h2
       cases h2; exact h1
      ·cases h2
     ·cases h2; exact h1
     ·cases h2
   ·cases h
  ·cases h
 ·cases h
def Hit (w:World) (key:ByteArray) (x:MapEntry):Prop:=∃ b o,x.val=.pointer (some ⟨b,o,none⟩)∧w.cell? ⟨b,o+2,none⟩=some (.int .u8 2)∧∃ k,w.cell? ⟨b,o+3,none⟩=some (.string k)∧k.toList=key.toList
theorem cell_in {w w1:World}{o:Obj}{a:Addr}{v:Value}(h:w.cell? a=some v) (e:w1.heap=w.heap):(w1.alloc o).cell? a=some v:=by
 obtain ⟨b,i,p⟩:=a
 have h1:w1.cell? ⟨b,i,p⟩=some v:=by rw [← h]; unfold World.cell?; rw [e]
 rw [World.cell?_alloc_lt _ _ _ ?_]
 ·exact h1
 ·unfold World.cell? at h1
  cases hb:w1.heap[b]? with
  | none=>simp only [hb] at h1; cases h1
  | some x=>exact (Array.getElem?_eq_some_iff.1 hb).1
theorem prov_walk (w:World) (br bo:Nat) (key:ByteArray) (bm:Nat) (es:Array MapEntry) (clock:Nat) (hr:w.cell? ⟨br,bo+5,none⟩=some (.map (some bm))) (hb:w.heap[bm]? = some (.map es clock))
  (hst:(∀ x ∈ es.toList,x.born < clock)∧(es.toList.map (·.born)).Nodup) (hv:∀ x ∈ es.toList,∃ b o s k,x.val=.pointer (some ⟨b,o,none⟩)∧w.cell? ⟨b,o+2,none⟩=some (.int .u8 s)∧w.cell? ⟨b,o+3,none⟩=some (.string k)) :
  Calls Tryz.prog 50 #[.pointer (some ⟨br,bo,none⟩),.string key] w fun e w'=>(∃ (w1:World) (s:Array Nat),w1.Alike w∧w1.tape=w.tape∧w'=w1.alloc (.mapIter (some bm) clock s clock)) ∧
   ((e=.returned (.pointer none)∧∀ x ∈ es.toList,¬ Hit w key x) ∨ ∃ x ∈ es.toList,e=.returned x.val∧Hit w key x):=by
 have hrg:=run_range_map (P:=Tryz.prog) w 82 _ _ bm es clock Tryz.underlying82 hb
 go_enter Tryz.func50,Tryz.ntmps50
 go_wp2
 go_loopw [] (fun w' => ∃ (w1:World) (seen:Array Nat),w1.Alike w∧w1.tape=w.tape∧w'=w1.alloc (.mapIter (some bm) clock seen clock)∧∀ x ∈ es.toList,seen.contains x.born=true → ¬ Hit w key x) (fun w'=>(leftOf es (w'.iterSeen w.heap.size)).size)
 case atStart=>exact ⟨w,#[],⟨rfl,rfl,rfl⟩,rfl,rfl,fun x _ h=>by simp at h⟩
 case round =>
  obtain ⟨w1,seen,hal,hta,rfl,hno⟩:=hrel
  have hsz:w1.heap.size=w.heap.size:=by rw [hal.1]
  have hb1:w1.heap[bm]? = some (.map es clock):=by rw [hal.1]; exact hb
  have law:=run_next_map (P:=Tryz.prog) w1 0 bm clock clock seen es clock hb1 hst.1 (Nat.le_refl _)
  rw [hsz] at law
  rcases law with ⟨h0,hrun⟩ | ⟨e,he,w2,hal2,hrun⟩
  ·have hnx:∀ ty,(Instr.next (.pointer (some ⟨w.heap.size,0,none⟩)) false ty).run Tryz.prog (w1.alloc (.mapIter (some bm) clock seen clock))=_:=fun _=>hrun
   go_wp2
   go_ret
   exact ⟨⟨w1,seen,hal,hta,rfl⟩,.inl ⟨rfl,fun x hx=>hno x hx (all_seen es seen h0 x hx)⟩⟩
  ·obtain ⟨b,o,s,k,hval,hs,hk⟩:=hv e (mem_left he).1
   have hnx:∀ ty,(Instr.next (.pointer (some ⟨w.heap.size,0,none⟩)) false ty).run Tryz.prog (w1.alloc (.mapIter (some bm) clock seen clock))=_:=fun _=>hrun
   have hsz2:w2.heap.size=w.heap.size:=by rw [hal2.1,hal.1]
   have hb2:w2.heap[bm]? = some (.map es clock):=by rw [hal2.1]; exact hb1
   have hen:=run_entry_map (P:=Tryz.prog) w2 bm clock seen es clock e hb2 (mem_left he).1 hst.2
   rw [hsz2,hval] at hen
   have hal3:w2.Alike w:=⟨hal2.1.trans hal.1,hal2.2.1.trans hal.2.1,hal2.2.2.trans hal.2.2⟩
   have ht3:w2.tape=w.tape:=by have:=next_tape hrun; exact this.trans hta
   have hs2:=cell_in (o:=.mapIter (some bm) clock (seen.push e.born) clock) hs hal3.1
   have hk2:=cell_in (o:=.mapIter (some bm) clock (seen.push e.born) clock) hk hal3.1
   have fin:∀ (hmiss:¬ (s=2∧k.toList=key.toList)),∀ x ∈ es.toList,(seen.push e.born).contains x.born=true → ¬ Hit w key x:=by
    intro hmiss x hx hc
    rw [contains_push] at hc
    rcases Bool.or_eq_true _ _ ▸ hc with h1 | h1
    ·exact hno x hx h1
    ·have:x=e:=born_inj hst.2 hx (mem_left he).1 (beq_iff_eq.1 h1)
     subst this
     rintro ⟨b',o',h2,h3,k',h4,h5⟩
     rw [hval] at h2
     cases h2
     rw [hs] at h3
     rw [hk] at h4
     cases h3
     cases h4
     exact hmiss ⟨rfl,h5⟩
   have mea:(leftOf es ((w2.alloc (.mapIter (some bm) clock (seen.push e.born) clock)).iterSeen w.heap.size)).size < (leftOf es ((w1.alloc (.mapIter (some bm) clock seen clock)).iterSeen w.heap.size)).size:=by
    rw [← hsz2,World.iterSeen_alloc,hsz2,← hsz,World.iterSeen_alloc]
    exact left_shrinks es seen e he
   go_wp2
   ·rename_i h1 h2
    go_ret
    exact ⟨⟨w2,_,hal3,ht3,rfl⟩,.inr ⟨e,(mem_left he).1,by rw [hval]; rfl,b,o,hval,by rw [hs,h1],k,hk,by simpa using h2⟩⟩
   ·rename_i h1 h2
    go_roundw
    case rel=>exact ⟨w2,seen.push e.born,hal3,ht3,rfl,fin fun h=>by rw [h.2,beq_self_eq_true] at h2; cases h2⟩
    case measure=>exact mea
   ·rename_i h1
    go_roundw
    case rel=>exact ⟨w2,seen.push e.born,hal3,ht3,rfl,fin fun h=>h1 h.1⟩
    case measure=>exact mea
end Go.Proofs.YtlchjbidkdokmaaGreatDoor
namespace Go.Proofs.YtlchjbidkdokmaaGreatDoor
open Go Go.Eng
set_option maxRecDepth 1000000
theorem mixR:Tryz.prog.follows .mixedOrders=true:=by kernel_rfl
def kS (a b:Int):Value:=.agg #[.int .u8 a,.int .u8 b]
def vS (f:FuncId):Value:=.func (.func f) #[] #[]
def sg0:Sig:=fun _=>none
abbrev T3:=UInt8 × UInt8 × FuncId
def mkE:List T3→Nat→List MapEntry
 | [],_=>[]
 | (a,b,f)::l,n => { key:=kS a.toNat b.toNat,val:=vS f,born:=n }::mkE l (n+1)
def mkA:List T3→List AVal
 | []=>[]
 | (a,b,f)::l=>.agg [.u8 a,.u8 b]::.fn f []::mkA l
theorem vrK (σ:Sig) (a b:UInt8):VR σ (.agg [.u8 a,.u8 b]) (kS a.toNat b.toNat):=by
 have h:LR σ [.u8 a,.u8 b] [Value.int .u8 a.toNat,.int .u8 b.toNat].toArray:=LR.cons (.u8 a) (LR.cons (.u8 b) (LR.nil σ))
 exact .agg h.1 h.2
theorem vrF (σ:Sig) (f:FuncId):VR σ (.fn f []) (vS f):=.fn rfl fun i v v' h=>by simp at h
theorem lrE (σ:Sig):∀ (l:List T3) (n:Nat),LR σ (mkA l) (flatE (mkE l n))
 | [],_=>LR.nil σ
 | (a,b,f)::l,n=>LR.flat_mk (e:={ key:=kS a.toNat b.toNat,val:=vS f,born:=n }) (vrK σ a b) (vrF σ f) (lrE σ l (n+1))
theorem ins (w1:World) (es:Array MapEntry) (l:List T3) (m n:Nat) (a b:UInt8) (f:FuncId) (he:es.toList=mkE l m) (hm:findM Tryz.prog 98 (.agg [.u8 a,.u8 b]) (mkA l) 0=some none) :
  (Instr.mapUpdate 95 (.map (some w1.heap.size)) (kS a.toNat b.toNat) (vS f)).run Tryz.prog (w1.alloc (.map es n))=.ok () (w1.alloc (.map (es.push { key:=kS a.toNat b.toNat,val:=vS f,born:=n }) (n+1))):=by
 have h1:=World.alloc_heap_new w1 (.map es n)
 have hk:=keyIn_ok Tryz.prog false 10000 98 (.agg [.u8 a,.u8 b]) (by kernel_rfl) sg0 _ (vrK sg0 a b) (w1.alloc (.map es n))
 have hf:(Instr.findKey 98 (kS a.toNat b.toNat) es.toList).run Tryz.prog (w1.alloc (.map es n))=.ok none (w1.alloc (.map es n)):=by
  rcases findM_ok (P:=Tryz.prog) Tryz.underlying98 (vrK sg0 a b) (w1.alloc (.map es n)) (en:=es) ⟨mkE l m,by rw [he],lrE sg0 l m⟩ hm with ⟨_,g⟩ | ⟨L,j,m,v,e,_,_,g,_⟩
  ·exact g
  ·cases g
 have hs:∀ (h:Array Obj) (x y:Obj),(h.push x).setIfInBounds h.size y=h.push y:=by
  intro h x y
  apply Array.toList_inj.1
  simp
 simp only [Instr.mapUpdate,Sem.run_bind,run_underlying Tryz.underlying95,Result.andThen_ok,run_getObj_map _ _ _ _ h1,hk,hf,MapKept.run_setObj_map _ h1]
 show Result.ok () ({ w1.alloc (.map es n) with heap:=(w1.heap.push (.map es n)).setIfInBounds w1.heap.size _ }:World)=_
 rw [hs]
 rfl
theorem perm3 {α:Type}(a b c:α):[a,b,c].Perm [a,c,b]∧[a,b,c].Perm [b,a,c]∧[a,b,c].Perm [b,c,a]∧[a,b,c].Perm [c,a,b]∧[a,b,c].Perm [c,b,a]:=by
 have e1:[a,b,c].Perm [b,a,c]:=List.Perm.swap ..
 have e2:[a,b,c].Perm [a,c,b]:=(List.Perm.swap ..).cons a
 have e3:[b,a,c].Perm [b,c,a]:=(List.Perm.swap ..).cons b
 have e4:[a,c,b].Perm [c,a,b]:=List.Perm.swap ..
 have e5:[b,c,a].Perm [c,b,a]:=List.Perm.swap ..
 exact ⟨e2,e1,e1.trans e3,e2.trans e4,(e1.trans e3).trans e5⟩
def DoesQ (w w':World):Prop:=∃ (w1:World) (en:Array MapEntry),w1.Alike w∧w1.tape=w.tape∧w'=w1.alloc (.map en 3)∧Stm en.toList 3∧∃ L,L.Perm en.toList∧∃ m0 m1 m2,L=[{ key:=kS 0 11,val:=vS 75,born:=m0 },{ key:=kS 1 13,val:=vS 76,born:=m1 },{ key:=kS 2 14,val:=vS 77,born:=m2 }]
theorem end012 (w:World):DoesQ w (w.alloc (.map #[{ key:=kS 0 11,val:=vS 75,born:=0 },{ key:=kS 1 13,val:=vS 76,born:=1 },{ key:=kS 2 14,val:=vS 77,born:=2 }] 3)).drew:=by
 refine ⟨w.drew,_,⟨rfl,rfl,rfl⟩,rfl,rfl,⟨fun x hx => ?_,by simp⟩,[{ key:=kS 0 11,val:=vS 75,born:=0 },{ key:=kS 1 13,val:=vS 76,born:=1 },{ key:=kS 2 14,val:=vS 77,born:=2 }],?_,0,1,2,rfl⟩
 ·simp only [List.mem_cons,List.not_mem_nil,or_false] at hx
  rcases hx with rfl | rfl | rfl <;> decide
 ·exact List.Perm.refl _
theorem end021 (w:World):DoesQ w (w.alloc (.map #[{ key:=kS 0 11,val:=vS 75,born:=0 },{ key:=kS 2 14,val:=vS 77,born:=1 },{ key:=kS 1 13,val:=vS 76,born:=2 }] 3)).drew:=by
 refine ⟨w.drew,_,⟨rfl,rfl,rfl⟩,rfl,rfl,⟨fun x hx => ?_,by simp⟩,[{ key:=kS 0 11,val:=vS 75,born:=0 },{ key:=kS 1 13,val:=vS 76,born:=2 },{ key:=kS 2 14,val:=vS 77,born:=1 }],?_,0,2,1,rfl⟩
 ·simp only [List.mem_cons,List.not_mem_nil,or_false] at hx
  rcases hx with rfl | rfl | rfl <;> decide
 ·exact (perm3 _ _ _).1
theorem end102 (w:World):DoesQ w (w.alloc (.map #[{ key:=kS 1 13,val:=vS 76,born:=0 },{ key:=kS 0 11,val:=vS 75,born:=1 },{ key:=kS 2 14,val:=vS 77,born:=2 }] 3)).drew:=by
 refine ⟨w.drew,_,⟨rfl,rfl,rfl⟩,rfl,rfl,⟨fun x hx => ?_,by simp⟩,[{ key:=kS 0 11,val:=vS 75,born:=1 },{ key:=kS 1 13,val:=vS 76,born:=0 },{ key:=kS 2 14,val:=vS 77,born:=2 }],?_,1,0,2,rfl⟩
 ·simp only [List.mem_cons,List.not_mem_nil,or_false] at hx
  rcases hx with rfl | rfl | rfl <;> decide
 ·exact (perm3 _ _ _).2.1
theorem end120 (w:World):DoesQ w (w.alloc (.map #[{ key:=kS 1 13,val:=vS 76,born:=0 },{ key:=kS 2 14,val:=vS 77,born:=1 },{ key:=kS 0 11,val:=vS 75,born:=2 }] 3)).drew:=by
 refine ⟨w.drew,_,⟨rfl,rfl,rfl⟩,rfl,rfl,⟨fun x hx => ?_,by simp⟩,[{ key:=kS 0 11,val:=vS 75,born:=2 },{ key:=kS 1 13,val:=vS 76,born:=0 },{ key:=kS 2 14,val:=vS 77,born:=1 }],?_,2,0,1,rfl⟩
 ·simp only [List.mem_cons,List.not_mem_nil,or_false] at hx
  rcases hx with rfl | rfl | rfl <;> decide
 ·exact (perm3 _ _ _).2.2.1
theorem end201 (w:World):DoesQ w (w.alloc (.map #[{ key:=kS 2 14,val:=vS 77,born:=0 },{ key:=kS 0 11,val:=vS 75,born:=1 },{ key:=kS 1 13,val:=vS 76,born:=2 }] 3)).drew:=by
 refine ⟨w.drew,_,⟨rfl,rfl,rfl⟩,rfl,rfl,⟨fun x hx => ?_,by simp⟩,[{ key:=kS 0 11,val:=vS 75,born:=1 },{ key:=kS 1 13,val:=vS 76,born:=2 },{ key:=kS 2 14,val:=vS 77,born:=0 }],?_,1,2,0,rfl⟩
 ·simp only [List.mem_cons,List.not_mem_nil,or_false] at hx
  rcases hx with rfl | rfl | rfl <;> decide
 ·exact (perm3 _ _ _).2.2.2.1
theorem end210 (w:World):DoesQ w (w.alloc (.map #[{ key:=kS 2 14,val:=vS 77,born:=0 },{ key:=kS 1 13,val:=vS 76,born:=1 },{ key:=kS 0 11,val:=vS 75,born:=2 }] 3)).drew:=by
 refine ⟨w.drew,_,⟨rfl,rfl,rfl⟩,rfl,rfl,⟨fun x hx => ?_,by simp⟩,[{ key:=kS 0 11,val:=vS 75,born:=2 },{ key:=kS 1 13,val:=vS 76,born:=1 },{ key:=kS 2 14,val:=vS 77,born:=0 }],?_,2,1,0,rfl⟩
 ·simp only [List.mem_cons,List.not_mem_nil,or_false] at hx
  rcases hx with rfl | rfl | rfl <;> decide
 ·exact (perm3 _ _ _).2.2.2.2
theorem walk41 (w:World):Calls Tryz.prog 41 #[] w fun e w'=>e=.returned (.map (some w.heap.size))∧DoesQ w w':=by
 have mixed:=mixR
 have i0:(Instr.mapUpdate 95 (.map (some w.heap.size)) (.agg #[.int .u8 0,.int .u8 11]) (.func (.func 75) #[] #[])).run Tryz.prog (w.alloc (.map (#[]:Array MapEntry) 0)).drew=.ok () (w.alloc (.map #[{ key:=kS 0 11,val:=vS 75,born:=0 }] 1)).drew:=ins w.drew (#[]:Array MapEntry) [] 0 0 0 11 75 rfl (by kernel_rfl)
 have i1:(Instr.mapUpdate 95 (.map (some w.heap.size)) (.agg #[.int .u8 1,.int .u8 13]) (.func (.func 76) #[] #[])).run Tryz.prog (w.alloc (.map (#[]:Array MapEntry) 0)).drew=.ok () (w.alloc (.map #[{ key:=kS 1 13,val:=vS 76,born:=0 }] 1)).drew:=ins w.drew (#[]:Array MapEntry) [] 0 0 1 13 76 rfl (by kernel_rfl)
 have i2:(Instr.mapUpdate 95 (.map (some w.heap.size)) (.agg #[.int .u8 2,.int .u8 14]) (.func (.func 77) #[] #[])).run Tryz.prog (w.alloc (.map (#[]:Array MapEntry) 0)).drew=.ok () (w.alloc (.map #[{ key:=kS 2 14,val:=vS 77,born:=0 }] 1)).drew:=ins w.drew (#[]:Array MapEntry) [] 0 0 2 14 77 rfl (by kernel_rfl)
 have i01:(Instr.mapUpdate 95 (.map (some w.heap.size)) (.agg #[.int .u8 1,.int .u8 13]) (.func (.func 76) #[] #[])).run Tryz.prog (w.alloc (.map #[{ key:=kS 0 11,val:=vS 75,born:=0 }] 1)).drew=.ok () (w.alloc (.map #[{ key:=kS 0 11,val:=vS 75,born:=0 },{ key:=kS 1 13,val:=vS 76,born:=1 }] 2)).drew:=ins w.drew #[{ key:=kS 0 11,val:=vS 75,born:=0 }] [(0,11,75)] 0 1 1 13 76 rfl (by kernel_rfl)
 have i02:(Instr.mapUpdate 95 (.map (some w.heap.size)) (.agg #[.int .u8 2,.int .u8 14]) (.func (.func 77) #[] #[])).run Tryz.prog (w.alloc (.map #[{ key:=kS 0 11,val:=vS 75,born:=0 }] 1)).drew=.ok () (w.alloc (.map #[{ key:=kS 0 11,val:=vS 75,born:=0 },{ key:=kS 2 14,val:=vS 77,born:=1 }] 2)).drew:=ins w.drew #[{ key:=kS 0 11,val:=vS 75,born:=0 }] [(0,11,75)] 0 1 2 14 77 rfl (by kernel_rfl)
 have i10:(Instr.mapUpdate 95 (.map (some w.heap.size)) (.agg #[.int .u8 0,.int .u8 11]) (.func (.func 75) #[] #[])).run Tryz.prog (w.alloc (.map #[{ key:=kS 1 13,val:=vS 76,born:=0 }] 1)).drew=.ok () (w.alloc (.map #[{ key:=kS 1 13,val:=vS 76,born:=0 },{ key:=kS 0 11,val:=vS 75,born:=1 }] 2)).drew:=ins w.drew #[{ key:=kS 1 13,val:=vS 76,born:=0 }] [(1,13,76)] 0 1 0 11 75 rfl (by kernel_rfl)
 have i12:(Instr.mapUpdate 95 (.map (some w.heap.size)) (.agg #[.int .u8 2,.int .u8 14]) (.func (.func 77) #[] #[])).run Tryz.prog (w.alloc (.map #[{ key:=kS 1 13,val:=vS 76,born:=0 }] 1)).drew=.ok () (w.alloc (.map #[{ key:=kS 1 13,val:=vS 76,born:=0 },{ key:=kS 2 14,val:=vS 77,born:=1 }] 2)).drew:=ins w.drew #[{ key:=kS 1 13,val:=vS 76,born:=0 }] [(1,13,76)] 0 1 2 14 77 rfl (by kernel_rfl)
 have i20:(Instr.mapUpdate 95 (.map (some w.heap.size)) (.agg #[.int .u8 0,.int .u8 11]) (.func (.func 75) #[] #[])).run Tryz.prog (w.alloc (.map #[{ key:=kS 2 14,val:=vS 77,born:=0 }] 1)).drew=.ok () (w.alloc (.map #[{ key:=kS 2 14,val:=vS 77,born:=0 },{ key:=kS 0 11,val:=vS 75,born:=1 }] 2)).drew:=ins w.drew #[{ key:=kS 2 14,val:=vS 77,born:=0 }] [(2,14,77)] 0 1 0 11 75 rfl (by kernel_rfl)
 have i21:(Instr.mapUpdate 95 (.map (some w.heap.size)) (.agg #[.int .u8 1,.int .u8 13]) (.func (.func 76) #[] #[])).run Tryz.prog (w.alloc (.map #[{ key:=kS 2 14,val:=vS 77,born:=0 }] 1)).drew=.ok () (w.alloc (.map #[{ key:=kS 2 14,val:=vS 77,born:=0 },{ key:=kS 1 13,val:=vS 76,born:=1 }] 2)).drew:=ins w.drew #[{ key:=kS 2 14,val:=vS 77,born:=0 }] [(2,14,77)] 0 1 1 13 76 rfl (by kernel_rfl)
 have i012:(Instr.mapUpdate 95 (.map (some w.heap.size)) (.agg #[.int .u8 2,.int .u8 14]) (.func (.func 77) #[] #[])).run Tryz.prog (w.alloc (.map #[{ key:=kS 0 11,val:=vS 75,born:=0 },{ key:=kS 1 13,val:=vS 76,born:=1 }] 2)).drew=.ok () (w.alloc (.map #[{ key:=kS 0 11,val:=vS 75,born:=0 },{ key:=kS 1 13,val:=vS 76,born:=1 },{ key:=kS 2 14,val:=vS 77,born:=2 }] 3)).drew:=ins w.drew #[{ key:=kS 0 11,val:=vS 75,born:=0 },{ key:=kS 1 13,val:=vS 76,born:=1 }] [(0,11,75),(1,13,76)] 0 2 2 14 77 rfl (by kernel_rfl)
 have i021:(Instr.mapUpdate 95 (.map (some w.heap.size)) (.agg #[.int .u8 1,.int .u8 13]) (.func (.func 76) #[] #[])).run Tryz.prog (w.alloc (.map #[{ key:=kS 0 11,val:=vS 75,born:=0 },{ key:=kS 2 14,val:=vS 77,born:=1 }] 2)).drew=.ok () (w.alloc (.map #[{ key:=kS 0 11,val:=vS 75,born:=0 },{ key:=kS 2 14,val:=vS 77,born:=1 },{ key:=kS 1 13,val:=vS 76,born:=2 }] 3)).drew:=ins w.drew #[{ key:=kS 0 11,val:=vS 75,born:=0 },{ key:=kS 2 14,val:=vS 77,born:=1 }] [(0,11,75),(2,14,77)] 0 2 1 13 76 rfl (by kernel_rfl)
 have i102:(Instr.mapUpdate 95 (.map (some w.heap.size)) (.agg #[.int .u8 2,.int .u8 14]) (.func (.func 77) #[] #[])).run Tryz.prog (w.alloc (.map #[{ key:=kS 1 13,val:=vS 76,born:=0 },{ key:=kS 0 11,val:=vS 75,born:=1 }] 2)).drew=.ok () (w.alloc (.map #[{ key:=kS 1 13,val:=vS 76,born:=0 },{ key:=kS 0 11,val:=vS 75,born:=1 },{ key:=kS 2 14,val:=vS 77,born:=2 }] 3)).drew:=ins w.drew #[{ key:=kS 1 13,val:=vS 76,born:=0 },{ key:=kS 0 11,val:=vS 75,born:=1 }] [(1,13,76),(0,11,75)] 0 2 2 14 77 rfl (by kernel_rfl)
 have i120:(Instr.mapUpdate 95 (.map (some w.heap.size)) (.agg #[.int .u8 0,.int .u8 11]) (.func (.func 75) #[] #[])).run Tryz.prog (w.alloc (.map #[{ key:=kS 1 13,val:=vS 76,born:=0 },{ key:=kS 2 14,val:=vS 77,born:=1 }] 2)).drew=.ok () (w.alloc (.map #[{ key:=kS 1 13,val:=vS 76,born:=0 },{ key:=kS 2 14,val:=vS 77,born:=1 },{ key:=kS 0 11,val:=vS 75,born:=2 }] 3)).drew:=ins w.drew #[{ key:=kS 1 13,val:=vS 76,born:=0 },{ key:=kS 2 14,val:=vS 77,born:=1 }] [(1,13,76),(2,14,77)] 0 2 0 11 75 rfl (by kernel_rfl)
 have i201:(Instr.mapUpdate 95 (.map (some w.heap.size)) (.agg #[.int .u8 1,.int .u8 13]) (.func (.func 76) #[] #[])).run Tryz.prog (w.alloc (.map #[{ key:=kS 2 14,val:=vS 77,born:=0 },{ key:=kS 0 11,val:=vS 75,born:=1 }] 2)).drew=.ok () (w.alloc (.map #[{ key:=kS 2 14,val:=vS 77,born:=0 },{ key:=kS 0 11,val:=vS 75,born:=1 },{ key:=kS 1 13,val:=vS 76,born:=2 }] 3)).drew:=ins w.drew #[{ key:=kS 2 14,val:=vS 77,born:=0 },{ key:=kS 0 11,val:=vS 75,born:=1 }] [(2,14,77),(0,11,75)] 0 2 1 13 76 rfl (by kernel_rfl)
 have i210:(Instr.mapUpdate 95 (.map (some w.heap.size)) (.agg #[.int .u8 0,.int .u8 11]) (.func (.func 75) #[] #[])).run Tryz.prog (w.alloc (.map #[{ key:=kS 2 14,val:=vS 77,born:=0 },{ key:=kS 1 13,val:=vS 76,born:=1 }] 2)).drew=.ok () (w.alloc (.map #[{ key:=kS 2 14,val:=vS 77,born:=0 },{ key:=kS 1 13,val:=vS 76,born:=1 },{ key:=kS 0 11,val:=vS 75,born:=2 }] 3)).drew:=ins w.drew #[{ key:=kS 2 14,val:=vS 77,born:=0 },{ key:=kS 1 13,val:=vS 76,born:=1 }] [(2,14,77),(1,13,76)] 0 2 0 11 75 rfl (by kernel_rfl)
 have hmk:(Instr.makeMap 95 none).run Tryz.prog w.drew=.ok (.map (some w.heap.size)) (w.alloc (.map #[] 0)).drew:=by
  simp only [Instr.makeMap,Sem.run_bind,Sem.run_pure]
  rfl
 go_enter Tryz.func41,Tryz.ntmps41
 go_wp2
 go_region
 all_goals (go_wp2; go_ret)
 all_goals first | exact ⟨rfl,end012 w⟩ | exact ⟨rfl,end021 w⟩ | exact ⟨rfl,end102 w⟩ | exact ⟨rfl,end120 w⟩ | exact ⟨rfl,end201 w⟩ | exact ⟨rfl,end210 w⟩
end Go.Proofs.YtlchjbidkdokmaaGreatDoor
