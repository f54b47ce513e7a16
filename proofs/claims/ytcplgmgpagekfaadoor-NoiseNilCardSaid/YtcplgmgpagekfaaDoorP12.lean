/- Texts Vo2, Vo3, Vo4, Vo5, Vo6, Mo9, Vo7, Vo8, Eng69, Vf0, Vf1, Vf2, Vf3, Vf4, Vf5: what they show that this claim uses. -/
import Derived.Test.YtcplgmgpagekfaaDoorP10
import Derived.Test.YtcplgmgpagekfaaDoorP11
import Derived.Test.YtcplgmgpagekfaaDoorP6
import Derived.Test.YtcplgmgpagekfaaDoorP7
set_option maxRecDepth 100000
set_option maxHeartbeats 1000000
set_option linter.unusedVariables false
set_option linter.unusedSimpArgs false
namespace Go.Proofs.YtcplgmgpagekfaaDoor
open Go Go.Eng Go.Num
def ptCells (p:P2 E5):List AVal:=[.u64 p.x.x0,.u64 p.x.x1,.u64 p.x.x2,.u64 p.x.x3,.u64 p.x.x4,.u64 p.z.x0,.u64 p.z.x1,.u64 p.z.x2,.u64 p.z.x3,.u64 p.z.x4]
def ptAv (p:P2 E5):AVal:=.agg (ptCells p)
theorem run61t (a0 a1 a2 a3 a4 a5 a6 a7 a8 a9 a10 a11 a12 a13 a14 a15 a16 a17 a18 a19 a20 a21 a22 a23 a24 a25 a26 a27 a28 a29 a30 a31:UInt8):(run1 Tryd.prog cs0 (mask 43) 100 43 [.str [a0,a1,a2,a3,a4,a5,a6,a7,a8,a9,a10,a11,a12,a13,a14,a15,a16,a17,a18,a19,a20,a21,a22,a23,a24,a25,a26,a27,a28,a29,a30,a31]] [] Tryd.prog.globals.size).map (·.1)=some (.tup [.str (clampL [a0,a1,a2,a3,a4,a5,a6,a7,a8,a9,a10,a11,a12,a13,a14,a15,a16,a17,a18,a19,a20,a21,a22,a23,a24,a25,a26,a27,a28,a29,a30,a31]),.int .i64 0]):=by kernel_rfl
theorem run32t (a0 a1 a2 a3 a4 a5 a6 a7 a8 a9 a10 a11 a12 a13 a14 a15 a16 a17 a18 a19 a20 a21 a22 a23 a24 a25 a26 a27 a28 a29 a30 a31:UInt8):(run1 Tryd.prog cs0 (mask 21) 100 21 [.str [a0,a1,a2,a3,a4,a5,a6,a7,a8,a9,a10,a11,a12,a13,a14,a15,a16,a17,a18,a19,a20,a21,a22,a23,a24,a25,a26,a27,a28,a29,a30,a31]] [] Tryd.prog.globals.size).map (·.1)=some (.str (clampL [a0,a1,a2,a3,a4,a5,a6,a7,a8,a9,a10,a11,a12,a13,a14,a15,a16,a17,a18,a19,a20,a21,a22,a23,a24,a25,a26,a27,a28,a29,a30,a31])):=by kernel_rfl
theorem run61 (s:List UInt8) (h:isLen s 32=true):(run1 Tryd.prog cs0 (mask 43) 100 43 [.str s] [] Tryd.prog.globals.size).map (·.1)=some (.tup [.str (clampL s),.int .i64 0]):=by
 obtain ⟨a0,a1,a2,a3,a4,a5,a6,a7,a8,a9,a10,a11,a12,a13,a14,a15,a16,a17,a18,a19,a20,a21,a22,a23,a24,a25,a26,a27,a28,a29,a30,a31,rfl⟩:=len32 (isLen_eq.1 h)
 exact run61t a0 a1 a2 a3 a4 a5 a6 a7 a8 a9 a10 a11 a12 a13 a14 a15 a16 a17 a18 a19 a20 a21 a22 a23 a24 a25 a26 a27 a28 a29 a30 a31
def p61:List AVal→Option (EffA × Bool)
 | [.str s]=>some (.pure (.tup [.str (clampL s),.int .i64 0]),isLen s 32)
 | _=>none
theorem p61_ok:CSOk Tryd.prog (csP (psOne 43 p61)):=csP_one fun args v he=>by
 unfold p61 at he
 split at he
 ·simp only [Option.some.injEq,Prod.mk.injEq] at he
  obtain ⟨rfl,h⟩:=he
  exact callOk_val cs0_ok hmix (run61 _ h) rfl rfl
 ·cases he
theorem run32 (s:List UInt8) (h:isLen s 32=true):(run1 Tryd.prog cs0 (mask 21) 100 21 [.str s] [] Tryd.prog.globals.size).map (·.1)=some (.str (clampL s)):=by
 obtain ⟨a0,a1,a2,a3,a4,a5,a6,a7,a8,a9,a10,a11,a12,a13,a14,a15,a16,a17,a18,a19,a20,a21,a22,a23,a24,a25,a26,a27,a28,a29,a30,a31,rfl⟩:=len32 (isLen_eq.1 h)
 exact run32t a0 a1 a2 a3 a4 a5 a6 a7 a8 a9 a10 a11 a12 a13 a14 a15 a16 a17 a18 a19 a20 a21 a22 a23 a24 a25 a26 a27 a28 a29 a30 a31
def p32:List AVal→Option (EffA × Bool)
 | [.str s]=>some (.pure (.str (clampL s)),isLen s 32)
 | _=>none
theorem p32_ok:CSOk Tryd.prog (csP (psOne 21 p32)):=csP_one fun args v he=>by
 unfold p32 at he
 split at he
 ·simp only [Option.some.injEq,Prod.mk.injEq] at he
  obtain ⟨rfl,h⟩:=he
  exact callOk_val cs0_ok hmix (run32 _ h) rfl rfl
 ·cases he
structure Fm where
 add:E5→E5→E5
 sub:E5→E5→E5
 mul:E5→E5→E5
 small:UInt32→E5
 inv:E5→E5
 bytes:E5→List UInt8
 of:List UInt8→E5
 ofR:List UInt8→Int
 addN:N16→N16→N16
 subN:N16→N16→N16
 mulN:N16→N16→N16
 smallN:UInt32→N16
 invN:N16→N16
 bytesN:N16→List UInt8
 ofN:List UInt8→N16
 ok:N16→Bool
 l32:List UInt8→Bool
 clamp:List UInt8→List UInt8
def realFm:Fm:=⟨addE,subE,mulE,smallE,invE,bytesE,ofEl,ofEr,addP,subP,mulP,smallN,invP,bytesN,ofP,Num.okB,fun s=>isLen s 32,clampL⟩
def q87 (φ:Fm):List AVal→Option EffA
 | [.agg [.u64 a0,.u64 a1,.u64 a2,.u64 a3,.u64 a4],.agg [.u64 b0,.u64 b1,.u64 b2,.u64 b3,.u64 b4]]=>some (.pure (E5.av (φ.add (E5.mk a0 a1 a2 a3 a4) (E5.mk b0 b1 b2 b3 b4))))
 | _=>none
theorem q87_ok:CSOk Tryd.prog (csOne 64 (q87 realFm)):=csOne_ok fun args e he=>by
 unfold q87 at he
 split at he
 ·rename_i a0 a1 a2 a3 a4 b0 b1 b2 b3 b4
  cases he
  exact g87_ok 64 [(E5.av (E5.mk a0 a1 a2 a3 a4)),(E5.av (E5.mk b0 b1 b2 b3 b4))] _ rfl
 ·cases he
def q35 (φ:Fm):List AVal→Option (EffA × Bool)
 | [.agg [.u64 a0,.u64 a1,.u64 a2,.u64 a3,.u64 a4,.u64 a5,.u64 a6,.u64 a7,.u64 a8,.u64 a9,.u64 a10,.u64 a11,.u64 a12,.u64 a13,.u64 a14,.u64 a15],.agg [.u64 b0,.u64 b1,.u64 b2,.u64 b3,.u64 b4,.u64 b5,.u64 b6,.u64 b7,.u64 b8,.u64 b9,.u64 b10,.u64 b11,.u64 b12,.u64 b13,.u64 b14,.u64 b15]]=>some (.pure (N16.av (φ.addN (N16.mk a0 a1 a2 a3 a4 a5 a6 a7 a8 a9 a10 a11 a12 a13 a14 a15) (N16.mk b0 b1 b2 b3 b4 b5 b6 b7 b8 b9 b10 b11 b12 b13 b14 b15))),(φ.ok (N16.mk a0 a1 a2 a3 a4 a5 a6 a7 a8 a9 a10 a11 a12 a13 a14 a15) && φ.ok (N16.mk b0 b1 b2 b3 b4 b5 b6 b7 b8 b9 b10 b11 b12 b13 b14 b15)))
 | _=>none
theorem q35_ok:CSOk Tryd.prog (csP (psOne 24 (q35 realFm))):=csP_one fun args v he=>by
 unfold q35 at he
 split at he
 ·rename_i a0 a1 a2 a3 a4 a5 a6 a7 a8 a9 a10 a11 a12 a13 a14 a15 b0 b1 b2 b3 b4 b5 b6 b7 b8 b9 b10 b11 b12 b13 b14 b15
  simp only [Option.some.injEq,Prod.mk.injEq] at he
  obtain ⟨rfl,h⟩:=he
  have h2:(realFm.ok (N16.mk a0 a1 a2 a3 a4 a5 a6 a7 a8 a9 a10 a11 a12 a13 a14 a15) && realFm.ok (N16.mk b0 b1 b2 b3 b4 b5 b6 b7 b8 b9 b10 b11 b12 b13 b14 b15))=true:=h
  refine p35_ok 24 [(N16.av (N16.mk a0 a1 a2 a3 a4 a5 a6 a7 a8 a9 a10 a11 a12 a13 a14 a15)),(N16.av (N16.mk b0 b1 b2 b3 b4 b5 b6 b7 b8 b9 b10 b11 b12 b13 b14 b15))] _ ?_
  show cond ((realFm.ok (N16.mk a0 a1 a2 a3 a4 a5 a6 a7 a8 a9 a10 a11 a12 a13 a14 a15) && realFm.ok (N16.mk b0 b1 b2 b3 b4 b5 b6 b7 b8 b9 b10 b11 b12 b13 b14 b15))) _ _=_
  rw [h2]; rfl
 ·cases he
def q88 (φ:Fm):List AVal→Option EffA
 | [.agg [.u64 a0,.u64 a1,.u64 a2,.u64 a3,.u64 a4],.agg [.u64 b0,.u64 b1,.u64 b2,.u64 b3,.u64 b4]]=>some (.pure (E5.av (φ.sub (E5.mk a0 a1 a2 a3 a4) (E5.mk b0 b1 b2 b3 b4))))
 | _=>none
theorem q88_ok:CSOk Tryd.prog (csOne 65 (q88 realFm)):=csOne_ok fun args e he=>by
 unfold q88 at he
 split at he
 ·rename_i a0 a1 a2 a3 a4 b0 b1 b2 b3 b4
  cases he
  exact g88_ok 65 [(E5.av (E5.mk a0 a1 a2 a3 a4)),(E5.av (E5.mk b0 b1 b2 b3 b4))] _ rfl
 ·cases he
def q37 (φ:Fm):List AVal→Option (EffA × Bool)
 | [.agg [.u64 a0,.u64 a1,.u64 a2,.u64 a3,.u64 a4,.u64 a5,.u64 a6,.u64 a7,.u64 a8,.u64 a9,.u64 a10,.u64 a11,.u64 a12,.u64 a13,.u64 a14,.u64 a15],.agg [.u64 b0,.u64 b1,.u64 b2,.u64 b3,.u64 b4,.u64 b5,.u64 b6,.u64 b7,.u64 b8,.u64 b9,.u64 b10,.u64 b11,.u64 b12,.u64 b13,.u64 b14,.u64 b15]]=>some (.pure (N16.av (φ.subN (N16.mk a0 a1 a2 a3 a4 a5 a6 a7 a8 a9 a10 a11 a12 a13 a14 a15) (N16.mk b0 b1 b2 b3 b4 b5 b6 b7 b8 b9 b10 b11 b12 b13 b14 b15))),(φ.ok (N16.mk a0 a1 a2 a3 a4 a5 a6 a7 a8 a9 a10 a11 a12 a13 a14 a15) && φ.ok (N16.mk b0 b1 b2 b3 b4 b5 b6 b7 b8 b9 b10 b11 b12 b13 b14 b15)))
 | _=>none
theorem q37_ok:CSOk Tryd.prog (csP (psOne 26 (q37 realFm))):=csP_one fun args v he=>by
 unfold q37 at he
 split at he
 ·rename_i a0 a1 a2 a3 a4 a5 a6 a7 a8 a9 a10 a11 a12 a13 a14 a15 b0 b1 b2 b3 b4 b5 b6 b7 b8 b9 b10 b11 b12 b13 b14 b15
  simp only [Option.some.injEq,Prod.mk.injEq] at he
  obtain ⟨rfl,h⟩:=he
  have h2:(realFm.ok (N16.mk a0 a1 a2 a3 a4 a5 a6 a7 a8 a9 a10 a11 a12 a13 a14 a15) && realFm.ok (N16.mk b0 b1 b2 b3 b4 b5 b6 b7 b8 b9 b10 b11 b12 b13 b14 b15))=true:=h
  refine p37_ok 26 [(N16.av (N16.mk a0 a1 a2 a3 a4 a5 a6 a7 a8 a9 a10 a11 a12 a13 a14 a15)),(N16.av (N16.mk b0 b1 b2 b3 b4 b5 b6 b7 b8 b9 b10 b11 b12 b13 b14 b15))] _ ?_
  show cond ((realFm.ok (N16.mk a0 a1 a2 a3 a4 a5 a6 a7 a8 a9 a10 a11 a12 a13 a14 a15) && realFm.ok (N16.mk b0 b1 b2 b3 b4 b5 b6 b7 b8 b9 b10 b11 b12 b13 b14 b15))) _ _=_
  rw [h2]; rfl
 ·cases he
def q65 (φ:Fm):List AVal→Option EffA
 | [.agg [.u64 a0,.u64 a1,.u64 a2,.u64 a3,.u64 a4],.agg [.u64 b0,.u64 b1,.u64 b2,.u64 b3,.u64 b4]]=>some (.pure (E5.av (φ.mul (E5.mk a0 a1 a2 a3 a4) (E5.mk b0 b1 b2 b3 b4))))
 | _=>none
theorem q65_ok:CSOk Tryd.prog (csOne 47 (q65 realFm)):=csOne_ok fun args e he=>by
 unfold q65 at he
 split at he
 ·rename_i a0 a1 a2 a3 a4 b0 b1 b2 b3 b4
  cases he
  exact g65_ok 47 [(E5.av (E5.mk a0 a1 a2 a3 a4)),(E5.av (E5.mk b0 b1 b2 b3 b4))] _ rfl
 ·cases he
def q36 (φ:Fm):List AVal→Option (EffA × Bool)
 | [.agg [.u64 a0,.u64 a1,.u64 a2,.u64 a3,.u64 a4,.u64 a5,.u64 a6,.u64 a7,.u64 a8,.u64 a9,.u64 a10,.u64 a11,.u64 a12,.u64 a13,.u64 a14,.u64 a15],.agg [.u64 b0,.u64 b1,.u64 b2,.u64 b3,.u64 b4,.u64 b5,.u64 b6,.u64 b7,.u64 b8,.u64 b9,.u64 b10,.u64 b11,.u64 b12,.u64 b13,.u64 b14,.u64 b15]]=>some (.pure (N16.av (φ.mulN (N16.mk a0 a1 a2 a3 a4 a5 a6 a7 a8 a9 a10 a11 a12 a13 a14 a15) (N16.mk b0 b1 b2 b3 b4 b5 b6 b7 b8 b9 b10 b11 b12 b13 b14 b15))),(φ.ok (N16.mk a0 a1 a2 a3 a4 a5 a6 a7 a8 a9 a10 a11 a12 a13 a14 a15) && φ.ok (N16.mk b0 b1 b2 b3 b4 b5 b6 b7 b8 b9 b10 b11 b12 b13 b14 b15)))
 | _=>none
theorem q36_ok:CSOk Tryd.prog (csP (psOne 25 (q36 realFm))):=csP_one fun args v he=>by
 unfold q36 at he
 split at he
 ·rename_i a0 a1 a2 a3 a4 a5 a6 a7 a8 a9 a10 a11 a12 a13 a14 a15 b0 b1 b2 b3 b4 b5 b6 b7 b8 b9 b10 b11 b12 b13 b14 b15
  simp only [Option.some.injEq,Prod.mk.injEq] at he
  obtain ⟨rfl,h⟩:=he
  have h2:(realFm.ok (N16.mk a0 a1 a2 a3 a4 a5 a6 a7 a8 a9 a10 a11 a12 a13 a14 a15) && realFm.ok (N16.mk b0 b1 b2 b3 b4 b5 b6 b7 b8 b9 b10 b11 b12 b13 b14 b15))=true:=h
  refine p36_ok 25 [(N16.av (N16.mk a0 a1 a2 a3 a4 a5 a6 a7 a8 a9 a10 a11 a12 a13 a14 a15)),(N16.av (N16.mk b0 b1 b2 b3 b4 b5 b6 b7 b8 b9 b10 b11 b12 b13 b14 b15))] _ ?_
  show cond ((realFm.ok (N16.mk a0 a1 a2 a3 a4 a5 a6 a7 a8 a9 a10 a11 a12 a13 a14 a15) && realFm.ok (N16.mk b0 b1 b2 b3 b4 b5 b6 b7 b8 b9 b10 b11 b12 b13 b14 b15))) _ _=_
  rw [h2]; rfl
 ·cases he
def q63 (φ:Fm):List AVal→Option EffA
 | [.u32 a]=>some (.pure (E5.av (φ.small a)))
 | _=>none
theorem q63_ok:CSOk Tryd.prog (csOne 45 (q63 realFm)):=csOne_ok fun args e he=>by
 unfold q63 at he
 split at he
 ·rename_i a
  cases he
  exact g63_ok 45 [(.u32 a)] _ rfl
 ·cases he
def q66 (φ:Fm):List AVal→Option EffA
 | [.agg [.u64 a0,.u64 a1,.u64 a2,.u64 a3,.u64 a4]]=>some (.pure (E5.av (φ.inv (E5.mk a0 a1 a2 a3 a4))))
 | _=>none
theorem q66_ok:CSOk Tryd.prog (csOne 48 (q66 realFm)):=csOne_ok fun args e he=>by
 unfold q66 at he
 split at he
 ·rename_i a0 a1 a2 a3 a4
  cases he
  exact g66_ok 48 [(E5.av (E5.mk a0 a1 a2 a3 a4))] _ rfl
 ·cases he
def q67 (φ:Fm):List AVal→Option EffA
 | [.agg [.u64 a0,.u64 a1,.u64 a2,.u64 a3,.u64 a4]]=>some (.pure (.str (φ.bytes (E5.mk a0 a1 a2 a3 a4))))
 | _=>none
theorem q67_ok:CSOk Tryd.prog (csOne 49 (q67 realFm)):=csOne_ok fun args e he=>by
 unfold q67 at he
 split at he
 ·rename_i a0 a1 a2 a3 a4
  cases he
  exact g67_ok 49 [(E5.av (E5.mk a0 a1 a2 a3 a4))] _ rfl
 ·cases he
def q62 (φ:Fm):List AVal→Option EffA
 | [.str a]=>some (.pure (.tup [(E5.av (φ.of a)),.int .i64 (φ.ofR a)]))
 | _=>none
theorem q62_ok:CSOk Tryd.prog (csOne 44 (q62 realFm)):=csOne_ok fun args e he=>by
 unfold q62 at he
 split at he
 ·rename_i a
  cases he
  exact g62_ok 44 [(.str a)] _ rfl
 ·cases he
def q34 (φ:Fm):List AVal→Option EffA
 | [.u32 a]=>some (.pure (N16.av (φ.smallN a)))
 | _=>none
theorem q34_ok:CSOk Tryd.prog (csOne 23 (q34 realFm)):=csOne_ok fun args e he=>by
 unfold q34 at he
 split at he
 ·rename_i a
  cases he
  exact g34_ok 23 [(.u32 a)] _ rfl
 ·cases he
def q38 (φ:Fm):List AVal→Option (EffA × Bool)
 | [.agg [.u64 a0,.u64 a1,.u64 a2,.u64 a3,.u64 a4,.u64 a5,.u64 a6,.u64 a7,.u64 a8,.u64 a9,.u64 a10,.u64 a11,.u64 a12,.u64 a13,.u64 a14,.u64 a15]]=>some (.pure (N16.av (φ.invN (N16.mk a0 a1 a2 a3 a4 a5 a6 a7 a8 a9 a10 a11 a12 a13 a14 a15))),φ.ok (N16.mk a0 a1 a2 a3 a4 a5 a6 a7 a8 a9 a10 a11 a12 a13 a14 a15))
 | _=>none
theorem q38_ok:CSOk Tryd.prog (csP (psOne 27 (q38 realFm))):=csP_one fun args v he=>by
 unfold q38 at he
 split at he
 ·rename_i a0 a1 a2 a3 a4 a5 a6 a7 a8 a9 a10 a11 a12 a13 a14 a15
  simp only [Option.some.injEq,Prod.mk.injEq] at he
  obtain ⟨rfl,h⟩:=he
  have h2:realFm.ok (N16.mk a0 a1 a2 a3 a4 a5 a6 a7 a8 a9 a10 a11 a12 a13 a14 a15)=true:=h
  refine p38_ok 27 [(N16.av (N16.mk a0 a1 a2 a3 a4 a5 a6 a7 a8 a9 a10 a11 a12 a13 a14 a15))] _ ?_
  show cond (realFm.ok (N16.mk a0 a1 a2 a3 a4 a5 a6 a7 a8 a9 a10 a11 a12 a13 a14 a15)) _ _=_
  rw [h2]; rfl
 ·cases he
def q39 (φ:Fm):List AVal→Option EffA
 | [.agg [.u64 a0,.u64 a1,.u64 a2,.u64 a3,.u64 a4,.u64 a5,.u64 a6,.u64 a7,.u64 a8,.u64 a9,.u64 a10,.u64 a11,.u64 a12,.u64 a13,.u64 a14,.u64 a15]]=>some (.pure (.str (φ.bytesN (N16.mk a0 a1 a2 a3 a4 a5 a6 a7 a8 a9 a10 a11 a12 a13 a14 a15))))
 | _=>none
theorem q39_ok:CSOk Tryd.prog (csOne 28 (q39 realFm)):=csOne_ok fun args e he=>by
 unfold q39 at he
 split at he
 ·rename_i a0 a1 a2 a3 a4 a5 a6 a7 a8 a9 a10 a11 a12 a13 a14 a15
  cases he
  exact g39_ok 28 [(N16.av (N16.mk a0 a1 a2 a3 a4 a5 a6 a7 a8 a9 a10 a11 a12 a13 a14 a15))] _ rfl
 ·cases he
def q33 (φ:Fm):List AVal→Option (EffA × Bool)
 | [.str a]=>some (.pure (N16.av (φ.ofN a)),φ.l32 a)
 | _=>none
theorem q33_ok:CSOk Tryd.prog (csP (psOne 22 (q33 realFm))):=csP_one fun args v he=>by
 unfold q33 at he
 split at he
 ·rename_i a
  simp only [Option.some.injEq,Prod.mk.injEq] at he
  obtain ⟨rfl,h⟩:=he
  have h2:realFm.l32 a=true:=h
  refine p33_ok 22 [(.str a)] _ ?_
  show cond (realFm.l32 a) _ _=_
  rw [h2]; rfl
 ·cases he
def q61 (φ:Fm):List AVal→Option (EffA × Bool)
 | [.str a]=>some (.pure (.tup [.str (φ.clamp a),.int .i64 0]),φ.l32 a)
 | _=>none
theorem q61_ok:CSOk Tryd.prog (csP (psOne 43 (q61 realFm))):=csP_one fun args v he=>by
 unfold q61 at he
 split at he
 ·rename_i a
  simp only [Option.some.injEq,Prod.mk.injEq] at he
  obtain ⟨rfl,h⟩:=he
  have h2:realFm.l32 a=true:=h
  refine p61_ok 43 [(.str a)] _ ?_
  show cond (realFm.l32 a) _ _=_
  rw [h2]; rfl
 ·cases he
def q32 (φ:Fm):List AVal→Option (EffA × Bool)
 | [.str a]=>some (.pure (.str (φ.clamp a)),φ.l32 a)
 | _=>none
theorem q32_ok:CSOk Tryd.prog (csP (psOne 21 (q32 realFm))):=csP_one fun args v he=>by
 unfold q32 at he
 split at he
 ·rename_i a
  simp only [Option.some.injEq,Prod.mk.injEq] at he
  obtain ⟨rfl,h⟩:=he
  have h2:realFm.l32 a=true:=h
  refine p32_ok 21 [(.str a)] _ ?_
  show cond (realFm.l32 a) _ _=_
  rw [h2]; rfl
 ·cases he
def psnm (φ:Fm):PS:=(psAlt (psOne 24 (q35 φ)) (psAlt (psOne 26 (q37 φ)) (psAlt (psOne 25 (q36 φ)) (psAlt (psOne 27 (q38 φ)) (psAlt (psOne 22 (q33 φ)) (psAlt (psOne 43 (q61 φ)) (psOne 21 (q32 φ))))))))
theorem psnm_ok:CSOk Tryd.prog (csP (psnm realFm)):=(csP_alt q35_ok (csP_alt q37_ok (csP_alt q36_ok (csP_alt q38_ok (csP_alt q33_ok (csP_alt q61_ok q32_ok))))))
def chnm (φ:Fm):CS:=(csAlt (csOne 64 (q87 φ)) (csAlt (csOne 65 (q88 φ)) (csAlt (csOne 47 (q65 φ)) (csAlt (csOne 45 (q63 φ)) (csAlt (csOne 48 (q66 φ)) (csAlt (csOne 49 (q67 φ)) (csAlt (csOne 44 (q62 φ)) (csAlt (csOne 23 (q34 φ)) (csOne 28 (q39 φ))))))))))
theorem chnm_ok:CSOk Tryd.prog (chnm realFm):=(csAlt_ok q87_ok (csAlt_ok q88_ok (csAlt_ok q65_ok (csAlt_ok q63_ok (csAlt_ok q66_ok (csAlt_ok q67_ok (csAlt_ok q62_ok (csAlt_ok q34_ok q39_ok))))))))
def nm (φ:Fm):CS:=csAlt (csP (psnm φ)) (chnm φ)
theorem nm_ok:CSOk Tryd.prog (nm realFm):=csAlt_ok psnm_ok chnm_ok
def opsφ (φ:Fm):Ops E5:=⟨φ.add,φ.sub,φ.mul,φ.small,zeroE⟩
theorem stepφ (φ:Fm) (p q:P2 E5) (u:E5):(run1 Tryd.prog (nm φ) (mask 46) 100 46 [ptAv p,ptAv q,u.av] [] Tryd.prog.globals.size).map (·.1)=some (.tup [ptAv (stepO (opsφ φ) p q u).1,ptAv (stepO (opsφ φ) p q u).2]):=by kernel_rfl
theorem run64 (p q:P2 E5) (u:E5):(run1 Tryd.prog (nm realFm) (mask 46) 100 46 [ptAv p,ptAv q,u.av] [] Tryd.prog.globals.size).map (·.1)=some (.tup [ptAv (stepO opsE p q u).1,ptAv (stepO opsE p q u).2]):=stepφ realFm p q u
def g64:List AVal→Option EffA
 | [.agg [.u64 a0,.u64 a1,.u64 a2,.u64 a3,.u64 a4,.u64 a5,.u64 a6,.u64 a7,.u64 a8,.u64 a9],.agg [.u64 b0,.u64 b1,.u64 b2,.u64 b3,.u64 b4,.u64 b5,.u64 b6,.u64 b7,.u64 b8,.u64 b9],.agg [.u64 c0,.u64 c1,.u64 c2,.u64 c3,.u64 c4]]=>some (.pure (.tup [ptAv (stepO opsE (P2.mk (E5.mk a0 a1 a2 a3 a4) (E5.mk a5 a6 a7 a8 a9)) (P2.mk (E5.mk b0 b1 b2 b3 b4) (E5.mk b5 b6 b7 b8 b9)) (E5.mk c0 c1 c2 c3 c4)).1,ptAv (stepO opsE (P2.mk (E5.mk a0 a1 a2 a3 a4) (E5.mk a5 a6 a7 a8 a9)) (P2.mk (E5.mk b0 b1 b2 b3 b4) (E5.mk b5 b6 b7 b8 b9)) (E5.mk c0 c1 c2 c3 c4)).2]))
 | _=>none
theorem g64_ok:CSOk Tryd.prog (csOne 46 g64):=csOne_ok fun args e he=>by
 unfold g64 at he
 split at he
 ·rename_i a0 a1 a2 a3 a4 a5 a6 a7 a8 a9 b0 b1 b2 b3 b4 b5 b6 b7 b8 b9 c0 c1 c2 c3 c4
  cases he
  exact callOk_val nm_ok hmix (run64 (P2.mk (E5.mk a0 a1 a2 a3 a4) (E5.mk a5 a6 a7 a8 a9)) (P2.mk (E5.mk b0 b1 b2 b3 b4) (E5.mk b5 b6 b7 b8 b9)) (E5.mk c0 c1 c2 c3 c4)) rfl rfl
 ·cases he
end Go.Proofs.YtcplgmgpagekfaaDoor
namespace Go.Proofs.YtcplgmgpagekfaaDoor
open Go Go.Eng Go.Num
structure Fl where
 add:E5→E5→E5
 sub:E5→E5→E5
 mul:E5→E5→E5
 small:UInt32→E5
 inv:E5→E5
 bytes:E5→List UInt8
 of:List UInt8→E5
 ofR:List UInt8→Int
 addN:N16→N16→N16
 subN:N16→N16→N16
 mulN:N16→N16→N16
 smallN:UInt32→N16
 invN:N16→N16
 bytesN:N16→List UInt8
 ofN:List UInt8→N16
 ok:N16→Bool
 l32:List UInt8→Bool
 clamp:List UInt8→List UInt8
 st1:P2 E5→P2 E5→E5→P2 E5
 st2:P2 E5→P2 E5→E5→P2 E5
def realFl:Fl:=⟨addE,subE,mulE,smallE,invE,bytesE,ofEl,ofEr,addP,subP,mulP,smallN,invP,bytesN,ofP,Num.okB,fun s=>isLen s 32,clampL,fun p q u=>(stepO opsE p q u).1,fun p q u=>(stepO opsE p q u).2⟩
def l87 (φ:Fl):List AVal→Option EffA
 | [.agg [.u64 a0,.u64 a1,.u64 a2,.u64 a3,.u64 a4],.agg [.u64 b0,.u64 b1,.u64 b2,.u64 b3,.u64 b4]]=>some (.pure (E5.av (φ.add (E5.mk a0 a1 a2 a3 a4) (E5.mk b0 b1 b2 b3 b4))))
 | _=>none
theorem l87_ok:CSOk Tryd.prog (csOne 64 (l87 realFl)):=csOne_ok fun args e he=>by
 unfold l87 at he
 split at he
 ·rename_i a0 a1 a2 a3 a4 b0 b1 b2 b3 b4
  cases he
  exact g87_ok 64 [(E5.av (E5.mk a0 a1 a2 a3 a4)),(E5.av (E5.mk b0 b1 b2 b3 b4))] _ rfl
 ·cases he
def l35 (φ:Fl):List AVal→Option (EffA × Bool)
 | [.agg [.u64 a0,.u64 a1,.u64 a2,.u64 a3,.u64 a4,.u64 a5,.u64 a6,.u64 a7,.u64 a8,.u64 a9,.u64 a10,.u64 a11,.u64 a12,.u64 a13,.u64 a14,.u64 a15],.agg [.u64 b0,.u64 b1,.u64 b2,.u64 b3,.u64 b4,.u64 b5,.u64 b6,.u64 b7,.u64 b8,.u64 b9,.u64 b10,.u64 b11,.u64 b12,.u64 b13,.u64 b14,.u64 b15]]=>some (.pure (N16.av (φ.addN (N16.mk a0 a1 a2 a3 a4 a5 a6 a7 a8 a9 a10 a11 a12 a13 a14 a15) (N16.mk b0 b1 b2 b3 b4 b5 b6 b7 b8 b9 b10 b11 b12 b13 b14 b15))),(φ.ok (N16.mk a0 a1 a2 a3 a4 a5 a6 a7 a8 a9 a10 a11 a12 a13 a14 a15) && φ.ok (N16.mk b0 b1 b2 b3 b4 b5 b6 b7 b8 b9 b10 b11 b12 b13 b14 b15)))
 | _=>none
theorem l35_ok:CSOk Tryd.prog (csP (psOne 24 (l35 realFl))):=csP_one fun args v he=>by
 unfold l35 at he
 split at he
 ·rename_i a0 a1 a2 a3 a4 a5 a6 a7 a8 a9 a10 a11 a12 a13 a14 a15 b0 b1 b2 b3 b4 b5 b6 b7 b8 b9 b10 b11 b12 b13 b14 b15
  simp only [Option.some.injEq,Prod.mk.injEq] at he
  obtain ⟨rfl,h⟩:=he
  have h2:(realFl.ok (N16.mk a0 a1 a2 a3 a4 a5 a6 a7 a8 a9 a10 a11 a12 a13 a14 a15) && realFl.ok (N16.mk b0 b1 b2 b3 b4 b5 b6 b7 b8 b9 b10 b11 b12 b13 b14 b15))=true:=h
  refine p35_ok 24 [(N16.av (N16.mk a0 a1 a2 a3 a4 a5 a6 a7 a8 a9 a10 a11 a12 a13 a14 a15)),(N16.av (N16.mk b0 b1 b2 b3 b4 b5 b6 b7 b8 b9 b10 b11 b12 b13 b14 b15))] _ ?_
  show cond ((realFl.ok (N16.mk a0 a1 a2 a3 a4 a5 a6 a7 a8 a9 a10 a11 a12 a13 a14 a15) && realFl.ok (N16.mk b0 b1 b2 b3 b4 b5 b6 b7 b8 b9 b10 b11 b12 b13 b14 b15))) _ _=_
  rw [h2]; rfl
 ·cases he
def l88 (φ:Fl):List AVal→Option EffA
 | [.agg [.u64 a0,.u64 a1,.u64 a2,.u64 a3,.u64 a4],.agg [.u64 b0,.u64 b1,.u64 b2,.u64 b3,.u64 b4]]=>some (.pure (E5.av (φ.sub (E5.mk a0 a1 a2 a3 a4) (E5.mk b0 b1 b2 b3 b4))))
 | _=>none
theorem l88_ok:CSOk Tryd.prog (csOne 65 (l88 realFl)):=csOne_ok fun args e he=>by
 unfold l88 at he
 split at he
 ·rename_i a0 a1 a2 a3 a4 b0 b1 b2 b3 b4
  cases he
  exact g88_ok 65 [(E5.av (E5.mk a0 a1 a2 a3 a4)),(E5.av (E5.mk b0 b1 b2 b3 b4))] _ rfl
 ·cases he
def l37 (φ:Fl):List AVal→Option (EffA × Bool)
 | [.agg [.u64 a0,.u64 a1,.u64 a2,.u64 a3,.u64 a4,.u64 a5,.u64 a6,.u64 a7,.u64 a8,.u64 a9,.u64 a10,.u64 a11,.u64 a12,.u64 a13,.u64 a14,.u64 a15],.agg [.u64 b0,.u64 b1,.u64 b2,.u64 b3,.u64 b4,.u64 b5,.u64 b6,.u64 b7,.u64 b8,.u64 b9,.u64 b10,.u64 b11,.u64 b12,.u64 b13,.u64 b14,.u64 b15]]=>some (.pure (N16.av (φ.subN (N16.mk a0 a1 a2 a3 a4 a5 a6 a7 a8 a9 a10 a11 a12 a13 a14 a15) (N16.mk b0 b1 b2 b3 b4 b5 b6 b7 b8 b9 b10 b11 b12 b13 b14 b15))),(φ.ok (N16.mk a0 a1 a2 a3 a4 a5 a6 a7 a8 a9 a10 a11 a12 a13 a14 a15) && φ.ok (N16.mk b0 b1 b2 b3 b4 b5 b6 b7 b8 b9 b10 b11 b12 b13 b14 b15)))
 | _=>none
theorem l37_ok:CSOk Tryd.prog (csP (psOne 26 (l37 realFl))):=csP_one fun args v he=>by
 unfold l37 at he
 split at he
 ·rename_i a0 a1 a2 a3 a4 a5 a6 a7 a8 a9 a10 a11 a12 a13 a14 a15 b0 b1 b2 b3 b4 b5 b6 b7 b8 b9 b10 b11 b12 b13 b14 b15
  simp only [Option.some.injEq,Prod.mk.injEq] at he
  obtain ⟨rfl,h⟩:=he
  have h2:(realFl.ok (N16.mk a0 a1 a2 a3 a4 a5 a6 a7 a8 a9 a10 a11 a12 a13 a14 a15) && realFl.ok (N16.mk b0 b1 b2 b3 b4 b5 b6 b7 b8 b9 b10 b11 b12 b13 b14 b15))=true:=h
  refine p37_ok 26 [(N16.av (N16.mk a0 a1 a2 a3 a4 a5 a6 a7 a8 a9 a10 a11 a12 a13 a14 a15)),(N16.av (N16.mk b0 b1 b2 b3 b4 b5 b6 b7 b8 b9 b10 b11 b12 b13 b14 b15))] _ ?_
  show cond ((realFl.ok (N16.mk a0 a1 a2 a3 a4 a5 a6 a7 a8 a9 a10 a11 a12 a13 a14 a15) && realFl.ok (N16.mk b0 b1 b2 b3 b4 b5 b6 b7 b8 b9 b10 b11 b12 b13 b14 b15))) _ _=_
  rw [h2]; rfl
 ·cases he
def l65 (φ:Fl):List AVal→Option EffA
 | [.agg [.u64 a0,.u64 a1,.u64 a2,.u64 a3,.u64 a4],.agg [.u64 b0,.u64 b1,.u64 b2,.u64 b3,.u64 b4]]=>some (.pure (E5.av (φ.mul (E5.mk a0 a1 a2 a3 a4) (E5.mk b0 b1 b2 b3 b4))))
 | _=>none
theorem l65_ok:CSOk Tryd.prog (csOne 47 (l65 realFl)):=csOne_ok fun args e he=>by
 unfold l65 at he
 split at he
 ·rename_i a0 a1 a2 a3 a4 b0 b1 b2 b3 b4
  cases he
  exact g65_ok 47 [(E5.av (E5.mk a0 a1 a2 a3 a4)),(E5.av (E5.mk b0 b1 b2 b3 b4))] _ rfl
 ·cases he
def l36 (φ:Fl):List AVal→Option (EffA × Bool)
 | [.agg [.u64 a0,.u64 a1,.u64 a2,.u64 a3,.u64 a4,.u64 a5,.u64 a6,.u64 a7,.u64 a8,.u64 a9,.u64 a10,.u64 a11,.u64 a12,.u64 a13,.u64 a14,.u64 a15],.agg [.u64 b0,.u64 b1,.u64 b2,.u64 b3,.u64 b4,.u64 b5,.u64 b6,.u64 b7,.u64 b8,.u64 b9,.u64 b10,.u64 b11,.u64 b12,.u64 b13,.u64 b14,.u64 b15]]=>some (.pure (N16.av (φ.mulN (N16.mk a0 a1 a2 a3 a4 a5 a6 a7 a8 a9 a10 a11 a12 a13 a14 a15) (N16.mk b0 b1 b2 b3 b4 b5 b6 b7 b8 b9 b10 b11 b12 b13 b14 b15))),(φ.ok (N16.mk a0 a1 a2 a3 a4 a5 a6 a7 a8 a9 a10 a11 a12 a13 a14 a15) && φ.ok (N16.mk b0 b1 b2 b3 b4 b5 b6 b7 b8 b9 b10 b11 b12 b13 b14 b15)))
 | _=>none
theorem l36_ok:CSOk Tryd.prog (csP (psOne 25 (l36 realFl))):=csP_one fun args v he=>by
 unfold l36 at he
 split at he
 ·rename_i a0 a1 a2 a3 a4 a5 a6 a7 a8 a9 a10 a11 a12 a13 a14 a15 b0 b1 b2 b3 b4 b5 b6 b7 b8 b9 b10 b11 b12 b13 b14 b15
  simp only [Option.some.injEq,Prod.mk.injEq] at he
  obtain ⟨rfl,h⟩:=he
  have h2:(realFl.ok (N16.mk a0 a1 a2 a3 a4 a5 a6 a7 a8 a9 a10 a11 a12 a13 a14 a15) && realFl.ok (N16.mk b0 b1 b2 b3 b4 b5 b6 b7 b8 b9 b10 b11 b12 b13 b14 b15))=true:=h
  refine p36_ok 25 [(N16.av (N16.mk a0 a1 a2 a3 a4 a5 a6 a7 a8 a9 a10 a11 a12 a13 a14 a15)),(N16.av (N16.mk b0 b1 b2 b3 b4 b5 b6 b7 b8 b9 b10 b11 b12 b13 b14 b15))] _ ?_
  show cond ((realFl.ok (N16.mk a0 a1 a2 a3 a4 a5 a6 a7 a8 a9 a10 a11 a12 a13 a14 a15) && realFl.ok (N16.mk b0 b1 b2 b3 b4 b5 b6 b7 b8 b9 b10 b11 b12 b13 b14 b15))) _ _=_
  rw [h2]; rfl
 ·cases he
def l63 (φ:Fl):List AVal→Option EffA
 | [.u32 a]=>some (.pure (E5.av (φ.small a)))
 | _=>none
theorem l63_ok:CSOk Tryd.prog (csOne 45 (l63 realFl)):=csOne_ok fun args e he=>by
 unfold l63 at he
 split at he
 ·rename_i a
  cases he
  exact g63_ok 45 [(.u32 a)] _ rfl
 ·cases he
def l66 (φ:Fl):List AVal→Option EffA
 | [.agg [.u64 a0,.u64 a1,.u64 a2,.u64 a3,.u64 a4]]=>some (.pure (E5.av (φ.inv (E5.mk a0 a1 a2 a3 a4))))
 | _=>none
theorem l66_ok:CSOk Tryd.prog (csOne 48 (l66 realFl)):=csOne_ok fun args e he=>by
 unfold l66 at he
 split at he
 ·rename_i a0 a1 a2 a3 a4
  cases he
  exact g66_ok 48 [(E5.av (E5.mk a0 a1 a2 a3 a4))] _ rfl
 ·cases he
def l67 (φ:Fl):List AVal→Option EffA
 | [.agg [.u64 a0,.u64 a1,.u64 a2,.u64 a3,.u64 a4]]=>some (.pure (.str (φ.bytes (E5.mk a0 a1 a2 a3 a4))))
 | _=>none
theorem l67_ok:CSOk Tryd.prog (csOne 49 (l67 realFl)):=csOne_ok fun args e he=>by
 unfold l67 at he
 split at he
 ·rename_i a0 a1 a2 a3 a4
  cases he
  exact g67_ok 49 [(E5.av (E5.mk a0 a1 a2 a3 a4))] _ rfl
 ·cases he
def l62 (φ:Fl):List AVal→Option EffA
 | [.str a]=>some (.pure (.tup [(E5.av (φ.of a)),.int .i64 (φ.ofR a)]))
 | _=>none
theorem l62_ok:CSOk Tryd.prog (csOne 44 (l62 realFl)):=csOne_ok fun args e he=>by
 unfold l62 at he
 split at he
 ·rename_i a
  cases he
  exact g62_ok 44 [(.str a)] _ rfl
 ·cases he
def l34 (φ:Fl):List AVal→Option EffA
 | [.u32 a]=>some (.pure (N16.av (φ.smallN a)))
 | _=>none
theorem l34_ok:CSOk Tryd.prog (csOne 23 (l34 realFl)):=csOne_ok fun args e he=>by
 unfold l34 at he
 split at he
 ·rename_i a
  cases he
  exact g34_ok 23 [(.u32 a)] _ rfl
 ·cases he
def l38 (φ:Fl):List AVal→Option (EffA × Bool)
 | [.agg [.u64 a0,.u64 a1,.u64 a2,.u64 a3,.u64 a4,.u64 a5,.u64 a6,.u64 a7,.u64 a8,.u64 a9,.u64 a10,.u64 a11,.u64 a12,.u64 a13,.u64 a14,.u64 a15]]=>some (.pure (N16.av (φ.invN (N16.mk a0 a1 a2 a3 a4 a5 a6 a7 a8 a9 a10 a11 a12 a13 a14 a15))),φ.ok (N16.mk a0 a1 a2 a3 a4 a5 a6 a7 a8 a9 a10 a11 a12 a13 a14 a15))
 | _=>none
theorem l38_ok:CSOk Tryd.prog (csP (psOne 27 (l38 realFl))):=csP_one fun args v he=>by
 unfold l38 at he
 split at he
 ·rename_i a0 a1 a2 a3 a4 a5 a6 a7 a8 a9 a10 a11 a12 a13 a14 a15
  simp only [Option.some.injEq,Prod.mk.injEq] at he
  obtain ⟨rfl,h⟩:=he
  have h2:realFl.ok (N16.mk a0 a1 a2 a3 a4 a5 a6 a7 a8 a9 a10 a11 a12 a13 a14 a15)=true:=h
  refine p38_ok 27 [(N16.av (N16.mk a0 a1 a2 a3 a4 a5 a6 a7 a8 a9 a10 a11 a12 a13 a14 a15))] _ ?_
  show cond (realFl.ok (N16.mk a0 a1 a2 a3 a4 a5 a6 a7 a8 a9 a10 a11 a12 a13 a14 a15)) _ _=_
  rw [h2]; rfl
 ·cases he
def l39 (φ:Fl):List AVal→Option EffA
 | [.agg [.u64 a0,.u64 a1,.u64 a2,.u64 a3,.u64 a4,.u64 a5,.u64 a6,.u64 a7,.u64 a8,.u64 a9,.u64 a10,.u64 a11,.u64 a12,.u64 a13,.u64 a14,.u64 a15]]=>some (.pure (.str (φ.bytesN (N16.mk a0 a1 a2 a3 a4 a5 a6 a7 a8 a9 a10 a11 a12 a13 a14 a15))))
 | _=>none
theorem l39_ok:CSOk Tryd.prog (csOne 28 (l39 realFl)):=csOne_ok fun args e he=>by
 unfold l39 at he
 split at he
 ·rename_i a0 a1 a2 a3 a4 a5 a6 a7 a8 a9 a10 a11 a12 a13 a14 a15
  cases he
  exact g39_ok 28 [(N16.av (N16.mk a0 a1 a2 a3 a4 a5 a6 a7 a8 a9 a10 a11 a12 a13 a14 a15))] _ rfl
 ·cases he
def l33 (φ:Fl):List AVal→Option (EffA × Bool)
 | [.str a]=>some (.pure (N16.av (φ.ofN a)),φ.l32 a)
 | _=>none
theorem l33_ok:CSOk Tryd.prog (csP (psOne 22 (l33 realFl))):=csP_one fun args v he=>by
 unfold l33 at he
 split at he
 ·rename_i a
  simp only [Option.some.injEq,Prod.mk.injEq] at he
  obtain ⟨rfl,h⟩:=he
  have h2:realFl.l32 a=true:=h
  refine p33_ok 22 [(.str a)] _ ?_
  show cond (realFl.l32 a) _ _=_
  rw [h2]; rfl
 ·cases he
def l61 (φ:Fl):List AVal→Option (EffA × Bool)
 | [.str a]=>some (.pure (.tup [.str (φ.clamp a),.int .i64 0]),φ.l32 a)
 | _=>none
theorem l61_ok:CSOk Tryd.prog (csP (psOne 43 (l61 realFl))):=csP_one fun args v he=>by
 unfold l61 at he
 split at he
 ·rename_i a
  simp only [Option.some.injEq,Prod.mk.injEq] at he
  obtain ⟨rfl,h⟩:=he
  have h2:realFl.l32 a=true:=h
  refine p61_ok 43 [(.str a)] _ ?_
  show cond (realFl.l32 a) _ _=_
  rw [h2]; rfl
 ·cases he
def l32 (φ:Fl):List AVal→Option (EffA × Bool)
 | [.str a]=>some (.pure (.str (φ.clamp a)),φ.l32 a)
 | _=>none
theorem l32_ok:CSOk Tryd.prog (csP (psOne 21 (l32 realFl))):=csP_one fun args v he=>by
 unfold l32 at he
 split at he
 ·rename_i a
  simp only [Option.some.injEq,Prod.mk.injEq] at he
  obtain ⟨rfl,h⟩:=he
  have h2:realFl.l32 a=true:=h
  refine p32_ok 21 [(.str a)] _ ?_
  show cond (realFl.l32 a) _ _=_
  rw [h2]; rfl
 ·cases he
def l64 (φ:Fl):List AVal→Option EffA
 | [.agg [.u64 a0,.u64 a1,.u64 a2,.u64 a3,.u64 a4,.u64 a5,.u64 a6,.u64 a7,.u64 a8,.u64 a9],.agg [.u64 b0,.u64 b1,.u64 b2,.u64 b3,.u64 b4,.u64 b5,.u64 b6,.u64 b7,.u64 b8,.u64 b9],.agg [.u64 c0,.u64 c1,.u64 c2,.u64 c3,.u64 c4]]=>some (.pure (.tup [ptAv (φ.st1 (P2.mk (E5.mk a0 a1 a2 a3 a4) (E5.mk a5 a6 a7 a8 a9)) (P2.mk (E5.mk b0 b1 b2 b3 b4) (E5.mk b5 b6 b7 b8 b9)) (E5.mk c0 c1 c2 c3 c4)),ptAv (φ.st2 (P2.mk (E5.mk a0 a1 a2 a3 a4) (E5.mk a5 a6 a7 a8 a9)) (P2.mk (E5.mk b0 b1 b2 b3 b4) (E5.mk b5 b6 b7 b8 b9)) (E5.mk c0 c1 c2 c3 c4))]))
 | _=>none
theorem l64_ok:CSOk Tryd.prog (csOne 46 (l64 realFl)):=csOne_ok fun args e he=>by
 unfold l64 at he
 split at he
 ·rename_i a0 a1 a2 a3 a4 a5 a6 a7 a8 a9 b0 b1 b2 b3 b4 b5 b6 b7 b8 b9 c0 c1 c2 c3 c4
  cases he
  exact g64_ok 46 [(ptAv (P2.mk (E5.mk a0 a1 a2 a3 a4) (E5.mk a5 a6 a7 a8 a9))),(ptAv (P2.mk (E5.mk b0 b1 b2 b3 b4) (E5.mk b5 b6 b7 b8 b9))),(E5.av (E5.mk c0 c1 c2 c3 c4))] _ rfl
 ·cases he
def psnl (φ:Fl):PS:=(psAlt (psOne 24 (l35 φ)) (psAlt (psOne 26 (l37 φ)) (psAlt (psOne 25 (l36 φ)) (psAlt (psOne 27 (l38 φ)) (psAlt (psOne 22 (l33 φ)) (psAlt (psOne 43 (l61 φ)) (psOne 21 (l32 φ))))))))
theorem psnl_ok:CSOk Tryd.prog (csP (psnl realFl)):=(csP_alt l35_ok (csP_alt l37_ok (csP_alt l36_ok (csP_alt l38_ok (csP_alt l33_ok (csP_alt l61_ok l32_ok))))))
def chnl (φ:Fl):CS:=(csAlt (csOne 64 (l87 φ)) (csAlt (csOne 65 (l88 φ)) (csAlt (csOne 47 (l65 φ)) (csAlt (csOne 45 (l63 φ)) (csAlt (csOne 48 (l66 φ)) (csAlt (csOne 49 (l67 φ)) (csAlt (csOne 44 (l62 φ)) (csAlt (csOne 23 (l34 φ)) (csAlt (csOne 28 (l39 φ)) (csOne 46 (l64 φ)))))))))))
theorem chnl_ok:CSOk Tryd.prog (chnl realFl):=(csAlt_ok l87_ok (csAlt_ok l88_ok (csAlt_ok l65_ok (csAlt_ok l63_ok (csAlt_ok l66_ok (csAlt_ok l67_ok (csAlt_ok l62_ok (csAlt_ok l34_ok (csAlt_ok l39_ok l64_ok)))))))))
def nl (φ:Fl):CS:=csAlt (csP (psnl φ)) (chnl φ)
theorem nl_ok:CSOk Tryd.prog (nl realFl):=csAlt_ok psnl_ok chnl_ok
theorem nl_ps (φ:Fl):PSOk (psnl φ) (nl φ):=csP_ok
end Go.Proofs.YtcplgmgpagekfaaDoor
namespace Go.Proofs.YtcplgmgpagekfaaDoor
open Go Go.Eng Go.Num
def S14 (k u kk:List UInt8) (cb:List AVal) (x:E5) (p q:P2 E5) (i:Int):SA:=⟨[(0,.str k),(1,.str u),(4,.str []),(5,.str kk),(7,.slice 73 0 32 1),(8,.ptr 185 0),(10,.ptr 265 0),(11,.int .i64 i)],[(73,.cells false cb),(185,.cells false x.cells),(265,.cells false (ptCells p++ptCells q))],289⟩
noncomputable def cd14:List Code:=pieces (bodyOf Tryd.f30)
noncomputable def b14:Code:=loopOf (cd14.getD 7 .skip)
def S15 (k u kk:List UInt8) (cb:List AVal) (x:N16) (p q:P2 N16) (i:Int):SA:=⟨[(0,.str k),(1,.str u),(4,.str []),(5,.str kk),(6,.slice 41 0 32 1),(7,.ptr 137 0),(8,.ptr 161 0),(9,.ptr 185 0),(10,.ptr 209 0),(11,.ptr 233 0),(12,.int .i64 i)],[(41,.cells false cb),(137,.cells false x.cells),(161,.cells false p.x.cells),(185,.cells false p.z.cells),(209,.cells false q.x.cells),(233,.cells false q.z.cells)],257⟩
noncomputable def cd15:List Code:=pieces (bodyOf Tryd.f13)
noncomputable def b15:Code:=loopOf (cd15.getD 10 .skip)
end Go.Proofs.YtcplgmgpagekfaaDoor
namespace Go.Proofs.YtcplgmgpagekfaaDoor
open Go Go.Eng Go.Num
theorem bit_div (m:Nat) (hm:m < 1000000):IntKind.wrap .i64 (Int.tdiv (m:Int) 8)=((m / 8:Nat):Int):=by
 have e1:Int.tdiv (m:Int) 8=((m / 8:Nat):Int):=by rw [Int.tdiv_eq_ediv_of_nonneg (by omega)]; rfl
 rw [e1,wrapI _ (by omega) (by omega)]
theorem bit_rem (m:Nat) (hm:m < 1000000):UInt64.toNat (UInt64.ofInt (Int.tmod (m:Int) 8))=m % 8:=by
 have e2:Int.tmod (m:Int) 8=((m % 8:Nat):Int):=by rw [Int.tmod_eq_emod_of_nonneg (by omega)]; rfl
 rw [e2,ofInt_nat,UInt64.toNat_ofNat_of_lt']
 show _ < 18446744073709551616; omega
theorem bit_raw (kk:List UInt8) (m:Nat) (hm:m < 1000000):shr_u8 (List.getD kk (Int.toNat (IntKind.wrap IntKind.i64 (Int.tdiv (m:Int) 8))) 0) (UInt64.toNat (UInt64.ofInt (Int.tmod (m:Int) 8))) &&& 1=bitB kk m:=by
 rw [bit_div m hm,bit_rem m hm]; rfl
theorem bitB_cases (kk:List UInt8) (m:Nat):bitB kk m=0 ∨ bitB kk m=1:=by
 unfold bitB
 generalize shr_u8 (kk.getD (m / 8) 0) (m % 8)=x
 have h:(x &&& 1).toNat=x.toNat % 2:=by rw [UInt8.toNat_and]; exact Nat.and_one_is_mod _
 rcases Nat.mod_two_eq_zero_or_one x.toNat with e | e
 ·left; apply UInt8.toNat_inj.1; rw [h,e]; rfl
 ·right; apply UInt8.toNat_inj.1; rw [h,e]; rfl
theorem clamp_len {k:List UInt8}(h:isLen k 32=true):(clampL k).length=32:=by
 rw [isLen_eq] at h
 unfold clampL
 rw [List.length_set,List.length_set]; exact h
theorem pre14 (φ:Fl) (k:List UInt8) (u0 u1 u2 u3 u4 u5 u6 u7 u8 u9 u10 u11 u12 u13 u14 u15 u16 u17 u18 u19 u20 u21 u22 u23 u24 u25 u26 u27 u28 u29 u30 u31:UInt8):segO (evSO Tryd.prog (psnl φ) (nl φ) [15] 89 (mask 30) 1000 1 (cd14.take 7) ⟨startT [.str k,.str [u0,u1,u2,u3,u4,u5,u6,u7,u8,u9,u10,u11,u12,u13,u14,u15,u16,u17,u18,u19,u20,u21,u22,u23,u24,u25,u26,u27,u28,u29,u30,u31]] 0,[],1⟩ ⟨[],[],[]⟩)=some (S14 k [u0,u1,u2,u3,u4,u5,u6,u7,u8,u9,u10,u11,u12,u13,u14,u15,u16,u17,u18,u19,u20,u21,u22,u23,u24,u25,u26,u27,u28,u29,u30,u31] (φ.clamp k) [.u8 u0,.u8 u1,.u8 u2,.u8 u3,.u8 u4,.u8 u5,.u8 u6,.u8 u7,.u8 u8,.u8 u9,.u8 u10,.u8 u11,.u8 u12,.u8 u13,.u8 u14,.u8 u15,.u8 u16,.u8 u17,.u8 u18,.u8 u19,.u8 u20,.u8 u21,.u8 u22,.u8 u23,.u8 u24,.u8 u25,.u8 u26,.u8 u27,.u8 u28,.u8 u29,.u8 u30,.u8 (u31 &&& 127)] (φ.of [u0,u1,u2,u3,u4,u5,u6,u7,u8,u9,u10,u11,u12,u13,u14,u15,u16,u17,u18,u19,u20,u21,u22,u23,u24,u25,u26,u27,u28,u29,u30,u31 &&& 127]) ⟨φ.small 1,zeroE⟩ ⟨φ.of [u0,u1,u2,u3,u4,u5,u6,u7,u8,u9,u10,u11,u12,u13,u14,u15,u16,u17,u18,u19,u20,u21,u22,u23,u24,u25,u26,u27,u28,u29,u30,u31 &&& 127],φ.small 1⟩ 254,[φ.l32 k]):=by kernel_rfl
theorem end14 (φ:Fl) (k u kk:List UInt8) (cb:List AVal) (i:Int) (x:E5) (p q:P2 E5):endO Tryd.prog (psnl φ) (nl φ) [39] Tryd.f30 (mask 30) 1000 1 0 b14 (cd14.drop 8) (S14 k u kk cb x p q i) ⟨[false],[],[]⟩=some (.str (φ.bytes (φ.mul p.x (φ.inv p.z))),[!decide ((0:Int)≤i)]):=by kernel_rfl
theorem rnd14a (φ:Fl) (k u kk:List UInt8) (cb:List AVal) (i j:Int) (x:E5) (p p0 q q0:P2 E5):roundO2 Tryd.prog (psnl φ) (nl φ) [39,45,200050] [true] [.u8 0] 89 (mask 30) 1000 1 b14 (S14 k u kk cb x p0 q0 j) (S14 k u kk cb x p q i)=some (S14 k u kk cb x (φ.st1 p q x) (φ.st2 p q x) (IntKind.wrap .i64 (i - 1)),[eqS (.u8 (shr_u8 (List.getD kk (Int.toNat (IntKind.wrap IntKind.i64 (Int.tdiv i 8))) 0) (UInt64.toNat (UInt64.ofInt (Int.tmod i 8))) &&& 1)) (.u8 0),(decide ((0:Int)≤IntKind.wrap IntKind.i64 (Int.tdiv i 8)) && decide (IntKind.wrap IntKind.i64 (Int.tdiv i 8) < (kk.length:Int))),decide ((0:Int)≤i)]):=by kernel_rfl
theorem rnd14b (φ:Fl) (k u kk:List UInt8) (cb:List AVal) (i j:Int) (x:E5) (p p0 q q0:P2 E5):roundO2 Tryd.prog (psnl φ) (nl φ) [39,45,200050] [true] [.u8 1] 89 (mask 30) 1000 1 b14 (S14 k u kk cb x p0 q0 j) (S14 k u kk cb x p q i)=some (S14 k u kk cb x (φ.st2 q p x) (φ.st1 q p x) (IntKind.wrap .i64 (i - 1)),[eqS (.u8 (shr_u8 (List.getD kk (Int.toNat (IntKind.wrap IntKind.i64 (Int.tdiv i 8))) 0) (UInt64.toNat (UInt64.ofInt (Int.tmod i 8))) &&& 1)) (.u8 1),(decide ((0:Int)≤IntKind.wrap IntKind.i64 (Int.tdiv i 8)) && decide (IntKind.wrap IntKind.i64 (Int.tdiv i 8) < (kk.length:Int))),decide ((0:Int)≤i)]):=by kernel_rfl
theorem gl0:Tryd.prog.globals.size=1:=by kernel_rfl
theorem ok14 (k u kk c:List UInt8) (x:E5) (p q:P2 E5) (i:Int):okS Tryd.prog (S14 k u kk (c.map .u8) x p q i)=true:=by
 have h:∀ (m:Nat) (l:List UInt8),ltL m (l.map .u8)=true:=fun m l=>by
  induction l with
  | nil=>rfl
  | cons y l ih=>simp [ltL,ltS,ih]
 simp [okS,gl0,S14,ltT,ltH,ltV,ltS,ltL,h,E5.cells,ptCells,nble]
theorem stp14 (k u kk c:List UInt8) (hk:kk.length=32) (x:E5) (s s0:P2 E5 × P2 E5) (j:Int) (m:Nat) (hm:m≤254):roundA (evC Tryd.prog (nl realFl) 89 (mask 30) 1000 1 b14) (headA Tryd.prog 1 (S14 k u kk (c.map .u8) x s0.1 s0.2 j)) (S14 k u kk (c.map .u8) x s.1 s.2 m)=some (S14 k u kk (c.map .u8) x (rndO opsE x (bitK kk m) s).1 (rndO opsE x (bitK kk m) s).2 ((m:Int) - 1)):=by
 have hw:IntKind.wrap .i64 ((m:Int) - 1)=(m:Int) - 1:=wrapI _ (by omega) (by omega)
 have hb:=bit_raw kk m (by omega)
 have hd:=bit_div m (by omega)
 have h1:decide ((0:Int)≤((m / 8:Nat):Int))=true:=by rw [decide_eq_true_iff]; omega
 have h2:decide (((m / 8:Nat):Int) < (kk.length:Int))=true:=by rw [decide_eq_true_iff]; omega
 have h3:decide ((0:Int)≤(m:Int))=true:=by rw [decide_eq_true_iff]; omega
 rw [← hw]
 rcases bitB_cases kk m with e | e
 ·have hK:bitK kk m=false:=by unfold bitK; rw [e]; rfl
  rw [hK]
  exact roundO2_ok (nl_ps _) (rnd14a realFl k u kk (c.map .u8) m j x s.1 s0.1 s.2 s0.2) (by rw [hb,e,hd,h1,h2,h3]; rfl) (ok14 _ _ _ _ _ _ _ _)
 ·have hK:bitK kk m=true:=by unfold bitK; rw [e]; rfl
  rw [hK]
  exact roundO2_ok (nl_ps _) (rnd14b realFl k u kk (c.map .u8) m j x s.1 s0.1 s.2 s0.2) (by rw [hb,e,hd,h1,h2,h3]; rfl) (ok14 _ _ _ _ _ _ _ _)
theorem run41 (k u:List UInt8) (hk:isLen k 32=true) (hu:isLen u 32=true):(run1 Tryd.prog (nl realFl) (mask 30) 1000 30 [.str k,.str u] [] 1).map (·.1)=some (.str (ladE k u)):=by
 obtain ⟨u0,u1,u2,u3,u4,u5,u6,u7,u8,u9,u10,u11,u12,u13,u14,u15,u16,u17,u18,u19,u20,u21,u22,u23,u24,u25,u26,u27,u28,u29,u30,u31,rfl⟩:=len32 (isLen_eq.1 hu)
 refine run_loopO (nl_ps _) (fn:=Tryd.f30) (c:=bodyOf Tryd.f30) (by kernel_rfl) (by kernel_rfl) (by kernel_rfl) 7 (id:=0) (b:=b14) (by kernel_rfl) (fun j=>S14 k [u0,u1,u2,u3,u4,u5,u6,u7,u8,u9,u10,u11,u12,u13,u14,u15,u16,u17,u18,u19,u20,u21,u22,u23,u24,u25,u26,u27,u28,u29,u30,u31] (clampL k) ([u0,u1,u2,u3,u4,u5,u6,u7,u8,u9,u10,u11,u12,u13,u14,u15,u16,u17,u18,u19,u20,u21,u22,u23,u24,u25,u26,u27,u28,u29,u30,u31 &&& 127].map .u8) (ofEl [u0,u1,u2,u3,u4,u5,u6,u7,u8,u9,u10,u11,u12,u13,u14,u15,u16,u17,u18,u19,u20,u21,u22,u23,u24,u25,u26,u27,u28,u29,u30,u31 &&& 127]) (ladO opsE (clampL k) (ofEl [u0,u1,u2,u3,u4,u5,u6,u7,u8,u9,u10,u11,u12,u13,u14,u15,u16,u17,u18,u19,u20,u21,u22,u23,u24,u25,u26,u27,u28,u29,u30,u31 &&& 127]) j).1 (ladO opsE (clampL k) (ofEl [u0,u1,u2,u3,u4,u5,u6,u7,u8,u9,u10,u11,u12,u13,u14,u15,u16,u17,u18,u19,u20,u21,u22,u23,u24,u25,u26,u27,u28,u29,u30,u31 &&& 127]) j).2 (254 - (j:Int))) 255 (pre14 realFl k u0 u1 u2 u3 u4 u5 u6 u7 u8 u9 u10 u11 u12 u13 u14 u15 u16 u17 u18 u19 u20 u21 u22 u23 u24 u25 u26 u27 u28 u29 u30 u31) ?_ (fun j hj => ?_) (end14 realFl k [u0,u1,u2,u3,u4,u5,u6,u7,u8,u9,u10,u11,u12,u13,u14,u15,u16,u17,u18,u19,u20,u21,u22,u23,u24,u25,u26,u27,u28,u29,u30,u31] (clampL k) ([u0,u1,u2,u3,u4,u5,u6,u7,u8,u9,u10,u11,u12,u13,u14,u15,u16,u17,u18,u19,u20,u21,u22,u23,u24,u25,u26,u27,u28,u29,u30,u31 &&& 127].map .u8) _ (ofEl [u0,u1,u2,u3,u4,u5,u6,u7,u8,u9,u10,u11,u12,u13,u14,u15,u16,u17,u18,u19,u20,u21,u22,u23,u24,u25,u26,u27,u28,u29,u30,u31 &&& 127]) _ _) rfl (by omega)
 ·simp [allT,realFl,hk]
 ·have e1:(254:Int) - (j:Int)=((254 - j:Nat):Int):=by omega
  have e2:(254:Int) - ((j+1:Nat):Int)=((254 - j:Nat):Int) - 1:=by omega
  rw [e1,e2]
  exact stp14 k [u0,u1,u2,u3,u4,u5,u6,u7,u8,u9,u10,u11,u12,u13,u14,u15,u16,u17,u18,u19,u20,u21,u22,u23,u24,u25,u26,u27,u28,u29,u30,u31] (clampL k) [u0,u1,u2,u3,u4,u5,u6,u7,u8,u9,u10,u11,u12,u13,u14,u15,u16,u17,u18,u19,u20,u21,u22,u23,u24,u25,u26,u27,u28,u29,u30,u31 &&& 127] (clamp_len hk) (ofEl [u0,u1,u2,u3,u4,u5,u6,u7,u8,u9,u10,u11,u12,u13,u14,u15,u16,u17,u18,u19,u20,u21,u22,u23,u24,u25,u26,u27,u28,u29,u30,u31 &&& 127]) (ladO opsE (clampL k) (ofEl [u0,u1,u2,u3,u4,u5,u6,u7,u8,u9,u10,u11,u12,u13,u14,u15,u16,u17,u18,u19,u20,u21,u22,u23,u24,u25,u26,u27,u28,u29,u30,u31 &&& 127]) j) _ _ (254 - j) (by omega)
end Go.Proofs.YtcplgmgpagekfaaDoor
namespace Go.Proofs.YtcplgmgpagekfaaDoor
open Go Go.Eng Go.Num
theorem pre15 (φ:Fl) (k:List UInt8) (u0 u1 u2 u3 u4 u5 u6 u7 u8 u9 u10 u11 u12 u13 u14 u15 u16 u17 u18 u19 u20 u21 u22 u23 u24 u25 u26 u27 u28 u29 u30 u31:UInt8):segO (evSO Tryd.prog (psnl φ) (nl φ) [24,35] 118 (mask 13) 1000 1 (cd15.take 10) ⟨startT [.str k,.str [u0,u1,u2,u3,u4,u5,u6,u7,u8,u9,u10,u11,u12,u13,u14,u15,u16,u17,u18,u19,u20,u21,u22,u23,u24,u25,u26,u27,u28,u29,u30,u31]] 0,[],1⟩ ⟨[],[],[]⟩)=some (S15 k [u0,u1,u2,u3,u4,u5,u6,u7,u8,u9,u10,u11,u12,u13,u14,u15,u16,u17,u18,u19,u20,u21,u22,u23,u24,u25,u26,u27,u28,u29,u30,u31] (φ.clamp k) [.u8 u0,.u8 u1,.u8 u2,.u8 u3,.u8 u4,.u8 u5,.u8 u6,.u8 u7,.u8 u8,.u8 u9,.u8 u10,.u8 u11,.u8 u12,.u8 u13,.u8 u14,.u8 u15,.u8 u16,.u8 u17,.u8 u18,.u8 u19,.u8 u20,.u8 u21,.u8 u22,.u8 u23,.u8 u24,.u8 u25,.u8 u26,.u8 u27,.u8 u28,.u8 u29,.u8 u30,.u8 (u31 &&& 127)] (φ.ofN [u0,u1,u2,u3,u4,u5,u6,u7,u8,u9,u10,u11,u12,u13,u14,u15,u16,u17,u18,u19,u20,u21,u22,u23,u24,u25,u26,u27,u28,u29,u30,u31 &&& 127]) ⟨φ.smallN 1,zeroN⟩ ⟨φ.ofN [u0,u1,u2,u3,u4,u5,u6,u7,u8,u9,u10,u11,u12,u13,u14,u15,u16,u17,u18,u19,u20,u21,u22,u23,u24,u25,u26,u27,u28,u29,u30,u31 &&& 127],φ.smallN 1⟩ 254,[φ.l32 [u0,u1,u2,u3,u4,u5,u6,u7,u8,u9,u10,u11,u12,u13,u14,u15,u16,u17,u18,u19,u20,u21,u22,u23,u24,u25,u26,u27,u28,u29,u30,u31 &&& 127],φ.l32 k]):=by kernel_rfl
theorem end15 (φ:Fl) (k u kk:List UInt8) (cb:List AVal) (i:Int) (x:N16) (p q:P2 N16):endO Tryd.prog (psnl φ) (nl φ) [41,115,116] Tryd.f13 (mask 13) 1000 1 0 b15 (cd15.drop 11) (S15 k u kk cb x p q i) ⟨[false],[],[]⟩=some (.str (φ.bytesN (φ.mulN p.x (φ.invN p.z))),[φ.ok p.x && φ.ok (φ.invN p.z),φ.ok p.z,!decide ((0:Int)≤i)]):=by kernel_rfl
theorem rnd15a (φ:Fl) (k u kk:List UInt8) (cb:List AVal) (i j:Int) (x:N16) (p p0 q q0:P2 N16):roundO2 Tryd.prog (psnl φ) (nl φ) [41,47,53,61,64,67,70,73,76,78,81,83,86,89,92,96,97,100,105,106,107] [true,false] [] 118 (mask 13) 1000 1 b15 (S15 k u kk cb x p0 q0 j) (S15 k u kk cb x p q i)=some (S15 k u kk cb x ⟨φ.mulN (φ.mulN (φ.addN (p.x) (p.z)) (φ.addN (p.x) (p.z))) (φ.mulN (φ.subN (p.x) (p.z)) (φ.subN (p.x) (p.z))),φ.mulN (φ.subN (φ.mulN (φ.addN (p.x) (p.z)) (φ.addN (p.x) (p.z))) (φ.mulN (φ.subN (p.x) (p.z)) (φ.subN (p.x) (p.z)))) (φ.addN (φ.mulN (φ.addN (p.x) (p.z)) (φ.addN (p.x) (p.z))) (φ.mulN (φ.smallN 121665) (φ.subN (φ.mulN (φ.addN (p.x) (p.z)) (φ.addN (p.x) (p.z))) (φ.mulN (φ.subN (p.x) (p.z)) (φ.subN (p.x) (p.z))))))⟩ ⟨φ.mulN (φ.addN (φ.mulN (φ.subN (q.x) (q.z)) (φ.addN (p.x) (p.z))) (φ.mulN (φ.addN (q.x) (q.z)) (φ.subN (p.x) (p.z)))) (φ.addN (φ.mulN (φ.subN (q.x) (q.z)) (φ.addN (p.x) (p.z))) (φ.mulN (φ.addN (q.x) (q.z)) (φ.subN (p.x) (p.z)))),φ.mulN (x) (φ.mulN (φ.subN (φ.mulN (φ.subN (q.x) (q.z)) (φ.addN (p.x) (p.z))) (φ.mulN (φ.addN (q.x) (q.z)) (φ.subN (p.x) (p.z)))) (φ.subN (φ.mulN (φ.subN (q.x) (q.z)) (φ.addN (p.x) (p.z))) (φ.mulN (φ.addN (q.x) (q.z)) (φ.subN (p.x) (p.z)))))⟩ (IntKind.wrap .i64 (i - 1)),[φ.ok (φ.subN (φ.mulN (φ.addN (p.x) (p.z)) (φ.addN (p.x) (p.z))) (φ.mulN (φ.subN (p.x) (p.z)) (φ.subN (p.x) (p.z)))) && φ.ok (φ.addN (φ.mulN (φ.addN (p.x) (p.z)) (φ.addN (p.x) (p.z))) (φ.mulN (φ.smallN 121665) (φ.subN (φ.mulN (φ.addN (p.x) (p.z)) (φ.addN (p.x) (p.z))) (φ.mulN (φ.subN (p.x) (p.z)) (φ.subN (p.x) (p.z)))))),φ.ok (φ.mulN (φ.addN (p.x) (p.z)) (φ.addN (p.x) (p.z))) && φ.ok (φ.mulN (φ.smallN 121665) (φ.subN (φ.mulN (φ.addN (p.x) (p.z)) (φ.addN (p.x) (p.z))) (φ.mulN (φ.subN (p.x) (p.z)) (φ.subN (p.x) (p.z))))),φ.ok (φ.smallN 121665) && φ.ok (φ.subN (φ.mulN (φ.addN (p.x) (p.z)) (φ.addN (p.x) (p.z))) (φ.mulN (φ.subN (p.x) (p.z)) (φ.subN (p.x) (p.z)))),φ.ok (φ.mulN (φ.addN (p.x) (p.z)) (φ.addN (p.x) (p.z))) && φ.ok (φ.mulN (φ.subN (p.x) (p.z)) (φ.subN (p.x) (p.z))),φ.ok (x) && φ.ok (φ.mulN (φ.subN (φ.mulN (φ.subN (q.x) (q.z)) (φ.addN (p.x) (p.z))) (φ.mulN (φ.addN (q.x) (q.z)) (φ.subN (p.x) (p.z)))) (φ.subN (φ.mulN (φ.subN (q.x) (q.z)) (φ.addN (p.x) (p.z))) (φ.mulN (φ.addN (q.x) (q.z)) (φ.subN (p.x) (p.z))))),φ.ok (φ.subN (φ.mulN (φ.subN (q.x) (q.z)) (φ.addN (p.x) (p.z))) (φ.mulN (φ.addN (q.x) (q.z)) (φ.subN (p.x) (p.z)))) && φ.ok (φ.subN (φ.mulN (φ.subN (q.x) (q.z)) (φ.addN (p.x) (p.z))) (φ.mulN (φ.addN (q.x) (q.z)) (φ.subN (p.x) (p.z)))),φ.ok (φ.mulN (φ.subN (q.x) (q.z)) (φ.addN (p.x) (p.z))) && φ.ok (φ.mulN (φ.addN (q.x) (q.z)) (φ.subN (p.x) (p.z))),φ.ok (φ.addN (φ.mulN (φ.subN (q.x) (q.z)) (φ.addN (p.x) (p.z))) (φ.mulN (φ.addN (q.x) (q.z)) (φ.subN (p.x) (p.z)))) && φ.ok (φ.addN (φ.mulN (φ.subN (q.x) (q.z)) (φ.addN (p.x) (p.z))) (φ.mulN (φ.addN (q.x) (q.z)) (φ.subN (p.x) (p.z)))),φ.ok (φ.mulN (φ.subN (q.x) (q.z)) (φ.addN (p.x) (p.z))) && φ.ok (φ.mulN (φ.addN (q.x) (q.z)) (φ.subN (p.x) (p.z))),φ.ok (φ.addN (q.x) (q.z)) && φ.ok (φ.subN (p.x) (p.z)),φ.ok (q.x) && φ.ok (q.z),φ.ok (φ.subN (q.x) (q.z)) && φ.ok (φ.addN (p.x) (p.z)),φ.ok (q.x) && φ.ok (q.z),φ.ok (φ.mulN (φ.addN (p.x) (p.z)) (φ.addN (p.x) (p.z))) && φ.ok (φ.mulN (φ.subN (p.x) (p.z)) (φ.subN (p.x) (p.z))),φ.ok (φ.subN (p.x) (p.z)) && φ.ok (φ.subN (p.x) (p.z)),φ.ok (p.x) && φ.ok (p.z),φ.ok (φ.addN (p.x) (p.z)) && φ.ok (φ.addN (p.x) (p.z)),φ.ok (p.x) && φ.ok (p.z),!((shr_u8 (List.getD kk (Int.toNat (IntKind.wrap IntKind.i64 (Int.tdiv i 8))) 0) (UInt64.toNat (UInt64.ofInt (Int.tmod i 8))) &&& 1) == 1),(decide ((0:Int)≤IntKind.wrap IntKind.i64 (Int.tdiv i 8)) && decide (IntKind.wrap IntKind.i64 (Int.tdiv i 8) < (kk.length:Int))),decide ((0:Int)≤i)]):=by kernel_rfl
theorem rnd15b (φ:Fl) (k u kk:List UInt8) (cb:List AVal) (i j:Int) (x:N16) (p p0 q q0:P2 N16):roundO2 Tryd.prog (psnl φ) (nl φ) [41,47,53,61,64,67,70,73,76,78,81,83,86,89,92,96,97,100,105,106,107] [true,true] [] 118 (mask 13) 1000 1 b15 (S15 k u kk cb x p0 q0 j) (S15 k u kk cb x p q i)=some (S15 k u kk cb x ⟨φ.mulN (φ.addN (φ.mulN (φ.subN (p.x) (p.z)) (φ.addN (q.x) (q.z))) (φ.mulN (φ.addN (p.x) (p.z)) (φ.subN (q.x) (q.z)))) (φ.addN (φ.mulN (φ.subN (p.x) (p.z)) (φ.addN (q.x) (q.z))) (φ.mulN (φ.addN (p.x) (p.z)) (φ.subN (q.x) (q.z)))),φ.mulN (x) (φ.mulN (φ.subN (φ.mulN (φ.subN (p.x) (p.z)) (φ.addN (q.x) (q.z))) (φ.mulN (φ.addN (p.x) (p.z)) (φ.subN (q.x) (q.z)))) (φ.subN (φ.mulN (φ.subN (p.x) (p.z)) (φ.addN (q.x) (q.z))) (φ.mulN (φ.addN (p.x) (p.z)) (φ.subN (q.x) (q.z)))))⟩ ⟨φ.mulN (φ.mulN (φ.addN (q.x) (q.z)) (φ.addN (q.x) (q.z))) (φ.mulN (φ.subN (q.x) (q.z)) (φ.subN (q.x) (q.z))),φ.mulN (φ.subN (φ.mulN (φ.addN (q.x) (q.z)) (φ.addN (q.x) (q.z))) (φ.mulN (φ.subN (q.x) (q.z)) (φ.subN (q.x) (q.z)))) (φ.addN (φ.mulN (φ.addN (q.x) (q.z)) (φ.addN (q.x) (q.z))) (φ.mulN (φ.smallN 121665) (φ.subN (φ.mulN (φ.addN (q.x) (q.z)) (φ.addN (q.x) (q.z))) (φ.mulN (φ.subN (q.x) (q.z)) (φ.subN (q.x) (q.z))))))⟩ (IntKind.wrap .i64 (i - 1)),[φ.ok (φ.subN (φ.mulN (φ.addN (q.x) (q.z)) (φ.addN (q.x) (q.z))) (φ.mulN (φ.subN (q.x) (q.z)) (φ.subN (q.x) (q.z)))) && φ.ok (φ.addN (φ.mulN (φ.addN (q.x) (q.z)) (φ.addN (q.x) (q.z))) (φ.mulN (φ.smallN 121665) (φ.subN (φ.mulN (φ.addN (q.x) (q.z)) (φ.addN (q.x) (q.z))) (φ.mulN (φ.subN (q.x) (q.z)) (φ.subN (q.x) (q.z)))))),φ.ok (φ.mulN (φ.addN (q.x) (q.z)) (φ.addN (q.x) (q.z))) && φ.ok (φ.mulN (φ.smallN 121665) (φ.subN (φ.mulN (φ.addN (q.x) (q.z)) (φ.addN (q.x) (q.z))) (φ.mulN (φ.subN (q.x) (q.z)) (φ.subN (q.x) (q.z))))),φ.ok (φ.smallN 121665) && φ.ok (φ.subN (φ.mulN (φ.addN (q.x) (q.z)) (φ.addN (q.x) (q.z))) (φ.mulN (φ.subN (q.x) (q.z)) (φ.subN (q.x) (q.z)))),φ.ok (φ.mulN (φ.addN (q.x) (q.z)) (φ.addN (q.x) (q.z))) && φ.ok (φ.mulN (φ.subN (q.x) (q.z)) (φ.subN (q.x) (q.z))),φ.ok (x) && φ.ok (φ.mulN (φ.subN (φ.mulN (φ.subN (p.x) (p.z)) (φ.addN (q.x) (q.z))) (φ.mulN (φ.addN (p.x) (p.z)) (φ.subN (q.x) (q.z)))) (φ.subN (φ.mulN (φ.subN (p.x) (p.z)) (φ.addN (q.x) (q.z))) (φ.mulN (φ.addN (p.x) (p.z)) (φ.subN (q.x) (q.z))))),φ.ok (φ.subN (φ.mulN (φ.subN (p.x) (p.z)) (φ.addN (q.x) (q.z))) (φ.mulN (φ.addN (p.x) (p.z)) (φ.subN (q.x) (q.z)))) && φ.ok (φ.subN (φ.mulN (φ.subN (p.x) (p.z)) (φ.addN (q.x) (q.z))) (φ.mulN (φ.addN (p.x) (p.z)) (φ.subN (q.x) (q.z)))),φ.ok (φ.mulN (φ.subN (p.x) (p.z)) (φ.addN (q.x) (q.z))) && φ.ok (φ.mulN (φ.addN (p.x) (p.z)) (φ.subN (q.x) (q.z))),φ.ok (φ.addN (φ.mulN (φ.subN (p.x) (p.z)) (φ.addN (q.x) (q.z))) (φ.mulN (φ.addN (p.x) (p.z)) (φ.subN (q.x) (q.z)))) && φ.ok (φ.addN (φ.mulN (φ.subN (p.x) (p.z)) (φ.addN (q.x) (q.z))) (φ.mulN (φ.addN (p.x) (p.z)) (φ.subN (q.x) (q.z)))),φ.ok (φ.mulN (φ.subN (p.x) (p.z)) (φ.addN (q.x) (q.z))) && φ.ok (φ.mulN (φ.addN (p.x) (p.z)) (φ.subN (q.x) (q.z))),φ.ok (φ.addN (p.x) (p.z)) && φ.ok (φ.subN (q.x) (q.z)),φ.ok (p.x) && φ.ok (p.z),φ.ok (φ.subN (p.x) (p.z)) && φ.ok (φ.addN (q.x) (q.z)),φ.ok (p.x) && φ.ok (p.z),φ.ok (φ.mulN (φ.addN (q.x) (q.z)) (φ.addN (q.x) (q.z))) && φ.ok (φ.mulN (φ.subN (q.x) (q.z)) (φ.subN (q.x) (q.z))),φ.ok (φ.subN (q.x) (q.z)) && φ.ok (φ.subN (q.x) (q.z)),φ.ok (q.x) && φ.ok (q.z),φ.ok (φ.addN (q.x) (q.z)) && φ.ok (φ.addN (q.x) (q.z)),φ.ok (q.x) && φ.ok (q.z),((shr_u8 (List.getD kk (Int.toNat (IntKind.wrap IntKind.i64 (Int.tdiv i 8))) 0) (UInt64.toNat (UInt64.ofInt (Int.tmod i 8))) &&& 1) == 1),(decide ((0:Int)≤IntKind.wrap IntKind.i64 (Int.tdiv i 8)) && decide (IntKind.wrap IntKind.i64 (Int.tdiv i 8) < (kk.length:Int))),decide ((0:Int)≤i)]):=by kernel_rfl
theorem okB_add {a b:N16}(h:Num.okB a=true) (k:Num.okB b=true):Num.okB (addP a b)=true:=okB_iff.2 (addP_val a b (okB_iff.1 h) (okB_iff.1 k)).1
theorem okB_sub {a b:N16}(h:Num.okB a=true) (k:Num.okB b=true):Num.okB (subP a b)=true:=okB_add h (okB_iff.2 (negP_ok b (okB_iff.1 k)))
theorem okB_mul {a b:N16}(h:Num.okB a=true) (k:Num.okB b=true):Num.okB (mulP a b)=true:=okB_iff.2 (mulP_val a b (okB_iff.1 h) (okB_iff.1 k)).1
theorem okB_small (n:UInt32):Num.okB (smallN n)=true:=okB_iff.2 (smallN_val n).1
theorem okB_inv {a:N16}(h:Num.okB a=true):Num.okB (invP a)=true:=okB_iff.2 (powP_ok a (okB_iff.1 h) _)
theorem ok15 (k u kk c:List UInt8) (x:N16) (p q:P2 N16) (i:Int):okS Tryd.prog (S15 k u kk (c.map .u8) x p q i)=true:=by
 have h:∀ (m:Nat) (l:List UInt8),ltL m (l.map .u8)=true:=fun m l=>by
  induction l with
  | nil=>rfl
  | cons y l ih=>simp [ltL,ltS,ih]
 simp [okS,gl0,S15,ltT,ltH,ltV,ltS,ltL,h,N16.cells,nble]
def okP2 (s:P2 N16 × P2 N16):Prop:=(Num.okB s.1.x=true∧Num.okB s.1.z=true)∧(Num.okB s.2.x=true∧Num.okB s.2.z=true)
theorem ok_lad (k:List UInt8){u:List UInt8}(h:isLen u 32=true) (j:Nat):okP2 (ladO opsN k (ofP u) j):=by
 have r:=lad_keeps keeps_EN k (rel_of h) j
 exact ⟨⟨okB_iff.2 r.1.1.okP,okB_iff.2 r.1.2.okP⟩,⟨okB_iff.2 r.2.1.okP,okB_iff.2 r.2.2.okP⟩⟩
theorem stp15 (k u kk c:List UInt8) (hk:kk.length=32) (x:N16) (hx:Num.okB x=true) (s s0:P2 N16 × P2 N16) (hs:okP2 s) (j:Int) (m:Nat) (hm:m≤254):roundA (evC Tryd.prog (nl realFl) 118 (mask 13) 1000 1 b15) (headA Tryd.prog 1 (S15 k u kk (c.map .u8) x s0.1 s0.2 j)) (S15 k u kk (c.map .u8) x s.1 s.2 m)=some (S15 k u kk (c.map .u8) x (rndO opsN x (bitK kk m) s).1 (rndO opsN x (bitK kk m) s).2 ((m:Int) - 1)):=by
 have hw:IntKind.wrap .i64 ((m:Int) - 1)=(m:Int) - 1:=wrapI _ (by omega) (by omega)
 have hb:=bit_raw kk m (by omega)
 have hd:=bit_div m (by omega)
 have h1:decide ((0:Int)≤((m / 8:Nat):Int))=true:=by rw [decide_eq_true_iff]; omega
 have h2:decide (((m / 8:Nat):Int) < (kk.length:Int))=true:=by rw [decide_eq_true_iff]; omega
 have h3:decide ((0:Int)≤(m:Int))=true:=by rw [decide_eq_true_iff]; omega
 obtain ⟨p,q⟩:=s
 obtain ⟨⟨o1,o2⟩,⟨o3,o4⟩⟩:=hs
 simp only at o1 o2 o3 o4
 rw [← hw]
 cases hK:bitK kk m
 ·have hK2:(bitB kk m == 1)=false:=hK
  exact roundO2_ok (nl_ps _) (rnd15a realFl k u kk (c.map .u8) m j x p s0.1 q s0.2) (by
   rw [hb,hK2,hd,h1,h2,h3]
   simp (maxDischargeDepth:=30) only [allT,realFl,okB_add,okB_sub,okB_mul,okB_small,o1,o2,o3,o4,hx,Bool.and_self,Bool.not_false,cond_true]) (ok15 _ _ _ _ _ _ _ _)
 ·have hK2:(bitB kk m == 1)=true:=hK
  exact roundO2_ok (nl_ps _) (rnd15b realFl k u kk (c.map .u8) m j x p s0.1 q s0.2) (by
   rw [hb,hK2,hd,h1,h2,h3]
   simp (maxDischargeDepth:=30) only [allT,realFl,okB_add,okB_sub,okB_mul,okB_small,o1,o2,o3,o4,hx,Bool.and_self,Bool.not_false,cond_true]) (ok15 _ _ _ _ _ _ _ _)
theorem run18 (k u:List UInt8) (hk:isLen k 32=true) (hu:isLen u 32=true):(run1 Tryd.prog (nl realFl) (mask 13) 1000 13 [.str k,.str u] [] 1).map (·.1)=some (.str (ladP k u)):=by
 obtain ⟨u0,u1,u2,u3,u4,u5,u6,u7,u8,u9,u10,u11,u12,u13,u14,u15,u16,u17,u18,u19,u20,u21,u22,u23,u24,u25,u26,u27,u28,u29,u30,u31,rfl⟩:=len32 (isLen_eq.1 hu)
 have hl:isLen [u0,u1,u2,u3,u4,u5,u6,u7,u8,u9,u10,u11,u12,u13,u14,u15,u16,u17,u18,u19,u20,u21,u22,u23,u24,u25,u26,u27,u28,u29,u30,u31 &&& 127] 32=true:=rfl
 have ol:=ok_lad (clampL k) hl
 refine run_loopO (nl_ps _) (fn:=Tryd.f13) (c:=bodyOf Tryd.f13) (by kernel_rfl) (by kernel_rfl) (by kernel_rfl) 10 (id:=0) (b:=b15) (by kernel_rfl) (fun j=>S15 k [u0,u1,u2,u3,u4,u5,u6,u7,u8,u9,u10,u11,u12,u13,u14,u15,u16,u17,u18,u19,u20,u21,u22,u23,u24,u25,u26,u27,u28,u29,u30,u31] (clampL k) ([u0,u1,u2,u3,u4,u5,u6,u7,u8,u9,u10,u11,u12,u13,u14,u15,u16,u17,u18,u19,u20,u21,u22,u23,u24,u25,u26,u27,u28,u29,u30,u31 &&& 127].map .u8) (ofP [u0,u1,u2,u3,u4,u5,u6,u7,u8,u9,u10,u11,u12,u13,u14,u15,u16,u17,u18,u19,u20,u21,u22,u23,u24,u25,u26,u27,u28,u29,u30,u31 &&& 127]) (ladO opsN (clampL k) (ofP [u0,u1,u2,u3,u4,u5,u6,u7,u8,u9,u10,u11,u12,u13,u14,u15,u16,u17,u18,u19,u20,u21,u22,u23,u24,u25,u26,u27,u28,u29,u30,u31 &&& 127]) j).1 (ladO opsN (clampL k) (ofP [u0,u1,u2,u3,u4,u5,u6,u7,u8,u9,u10,u11,u12,u13,u14,u15,u16,u17,u18,u19,u20,u21,u22,u23,u24,u25,u26,u27,u28,u29,u30,u31 &&& 127]) j).2 (254 - (j:Int))) 255 (pre15 realFl k u0 u1 u2 u3 u4 u5 u6 u7 u8 u9 u10 u11 u12 u13 u14 u15 u16 u17 u18 u19 u20 u21 u22 u23 u24 u25 u26 u27 u28 u29 u30 u31) ?_ (fun j hj => ?_) (end15 realFl k [u0,u1,u2,u3,u4,u5,u6,u7,u8,u9,u10,u11,u12,u13,u14,u15,u16,u17,u18,u19,u20,u21,u22,u23,u24,u25,u26,u27,u28,u29,u30,u31] (clampL k) ([u0,u1,u2,u3,u4,u5,u6,u7,u8,u9,u10,u11,u12,u13,u14,u15,u16,u17,u18,u19,u20,u21,u22,u23,u24,u25,u26,u27,u28,u29,u30,u31 &&& 127].map .u8) _ (ofP [u0,u1,u2,u3,u4,u5,u6,u7,u8,u9,u10,u11,u12,u13,u14,u15,u16,u17,u18,u19,u20,u21,u22,u23,u24,u25,u26,u27,u28,u29,u30,u31 &&& 127]) _ _) ?_ (by omega)
 ·simp only [allT,realFl,hk,hl,cond_true]
 ·have e1:(254:Int) - (j:Int)=((254 - j:Nat):Int):=by omega
  have e2:(254:Int) - ((j+1:Nat):Int)=((254 - j:Nat):Int) - 1:=by omega
  rw [e1,e2]
  exact stp15 k [u0,u1,u2,u3,u4,u5,u6,u7,u8,u9,u10,u11,u12,u13,u14,u15,u16,u17,u18,u19,u20,u21,u22,u23,u24,u25,u26,u27,u28,u29,u30,u31] (clampL k) [u0,u1,u2,u3,u4,u5,u6,u7,u8,u9,u10,u11,u12,u13,u14,u15,u16,u17,u18,u19,u20,u21,u22,u23,u24,u25,u26,u27,u28,u29,u30,u31 &&& 127] (clamp_len hk) (ofP [u0,u1,u2,u3,u4,u5,u6,u7,u8,u9,u10,u11,u12,u13,u14,u15,u16,u17,u18,u19,u20,u21,u22,u23,u24,u25,u26,u27,u28,u29,u30,u31 &&& 127]) (okB_iff.2 (rel_of hl).okP) (ladO opsN (clampL k) (ofP [u0,u1,u2,u3,u4,u5,u6,u7,u8,u9,u10,u11,u12,u13,u14,u15,u16,u17,u18,u19,u20,u21,u22,u23,u24,u25,u26,u27,u28,u29,u30,u31 &&& 127]) j) _ (ol j) _ (254 - j) (by omega)
 ·have o:=ol 255
  simp only [allT,realFl,okB_inv,o.1.1,o.1.2,Bool.and_self,cond_true]
  rfl
end Go.Proofs.YtcplgmgpagekfaaDoor
namespace Go.Num
open Go Go.Eng
def zero32:List UInt8:=List.replicate 32 0
def nine32:List UInt8:=9::List.replicate 31 0
def p255:Nat:=57896044618658097711785492504343953926634992332820282019728792003956564819968
theorem leNat_app2:∀ (a b:List UInt8),leNat (a++b)=leNat a+256 ^ a.length * leNat b
 | [],b=>by simp [leNat]
 | x::a,b=>by
  have:=leNat_app2 a b
  simp only [List.cons_append,leNat,this,List.length_cons,Nat.pow_succ]
  rw [Nat.mul_add]
  have:256 * (256 ^ a.length * leNat b)=256 ^ a.length * 256 * leNat b:=by rw [← Nat.mul_assoc,Nat.mul_comm 256]
  omega
theorem leNat_bound:∀ (a:List UInt8),leNat a < 256 ^ a.length
 | []=>by simp [leNat]
 | x::a=>by
  have:=leNat_bound a
  have hx:=x.toNat_lt
  simp only [leNat,List.length_cons,Nat.pow_succ]
  omega
theorem and127 (x:UInt8):(x &&& 127).toNat=x.toNat % 128:=by
 rw [UInt8.toNat_and]
 exact Nat.and_two_pow_sub_one_eq_mod x.toNat 7
theorem topL_val {u:List UInt8}(h:isLen u 32=true):leNat (topL u)=leNat u % p255:=by
 rw [isLen_eq] at h
 have e:u=u.take 31++[u.getD 31 0]:=by
  have h1:u.drop 31=[u.getD 31 0]:=by
   rw [List.drop_eq_getElem_cons (by omega),List.drop_of_length_le (by omega)]
   rw [List.getD_eq_getElem?_getD,List.getElem?_eq_getElem (by omega)]; rfl
  rw [← h1,List.take_append_drop]
 have hl:(u.take 31).length=31:=by rw [List.length_take]; omega
 have e2:topL u=u.take 31++[u.getD 31 0 &&& 127]:=by
  unfold topL
  apply List.ext_getElem?
  intro i
  rw [List.getElem?_set]
  by_cases h1:31=i
  ·subst h1
   rw [if_pos rfl,if_pos (by omega),List.getElem?_append_right (by omega),hl]; rfl
  ·rw [if_neg h1]
   by_cases h2:i < 31
   ·rw [List.getElem?_append_left (by omega),List.getElem?_take_of_lt h2]
   ·rw [List.getElem?_eq_none (by omega),List.getElem?_eq_none (by rw [List.length_append,hl]; show 31+1≤i; omega)]
 have hb:=leNat_bound (u.take 31)
 rw [hl] at hb
 generalize hx:u.getD 31 0=x at e e2
 rw [e2]
 conv=>rhs; rw [e]
 rw [leNat_app2,leNat_app2,hl]
 have hx2:=x.toNat_lt
 have s1:∀ y:UInt8,leNat [y]=y.toNat:=fun y=>by simp [leNat]
 rw [s1,s1,and127]
 unfold p255
 simp only [Nat.reducePow] at hb ⊢
 omega
theorem ladE_nat (k:List UInt8){u:List UInt8}(h:isLen u 32=true):leNat (ladE k u)=quotM (ladM k (leNat u % p255 % Pq)):=by
 rw [ladE_val,ofEl_val (topL_len h),topL_val h]
theorem ladE_is (k:List UInt8){u:List UInt8}(h:isLen u 32=true){n m:Nat}(hn:leNat u=n) (hlt:n < Pq) (hm:quotM (ladM k n)=m):leNat (ladE k u)=m:=by
 rw [ladE_nat k h,hn]
 have hp:Pq < p255:=by decide
 rw [Nat.mod_eq_of_lt (show n < p255 by omega),Nat.mod_eq_of_lt hlt,hm]
theorem nine_val:leNat nine32=9:=by decide
end Go.Num
namespace Go.Proofs.YtcplgmgpagekfaaDoor
open Go Go.Eng Go.Num
def p41:List AVal→Option (EffA × Bool)
 | [.str k,.str u]=>some (.pure (.str (ladE k u)),isLen k 32 && isLen u 32)
 | _=>none
theorem p41_ok:CSOk Tryd.prog (csP (psOne 30 p41)):=csP_one fun args v he=>by
 unfold p41 at he
 split at he
 ·simp only [Option.some.injEq,Prod.mk.injEq,Bool.and_eq_true] at he
  obtain ⟨rfl,h⟩:=he
  exact callOk_val nl_ok hmix (run41 _ _ h.1 h.2) rfl rfl
 ·cases he
def p18:List AVal→Option (EffA × Bool)
 | [.str k,.str u]=>some (.pure (.str (ladP k u)),isLen k 32 && isLen u 32)
 | _=>none
theorem p18_ok:CSOk Tryd.prog (csP (psOne 13 p18)):=csP_one fun args v he=>by
 unfold p18 at he
 split at he
 ·simp only [Option.some.injEq,Prod.mk.injEq,Bool.and_eq_true] at he
  obtain ⟨rfl,h⟩:=he
  exact callOk_val nl_ok hmix (run18 _ _ h.1 h.2) rfl rfl
 ·cases he
structure Fh where
 ladE:List UInt8→List UInt8→List UInt8
 ladP:List UInt8→List UInt8→List UInt8
 l32:List UInt8→Bool
def realFh:Fh:=⟨ladE,ladP,fun s=>isLen s 32⟩
def q41 (φ:Fh):List AVal→Option (EffA × Bool)
 | [.str a,.str b]=>some (.pure (.str (φ.ladE a b)),(φ.l32 a && φ.l32 b))
 | _=>none
theorem q41_ok:CSOk Tryd.prog (csP (psOne 30 (q41 realFh))):=csP_one fun args v he=>by
 unfold q41 at he
 split at he
 ·rename_i a b
  simp only [Option.some.injEq,Prod.mk.injEq] at he
  obtain ⟨rfl,h⟩:=he
  have h2:(realFh.l32 a && realFh.l32 b)=true:=h
  refine p41_ok 30 [(.str a),(.str b)] _ ?_
  show cond ((realFh.l32 a && realFh.l32 b)) _ _=_
  rw [h2]; rfl
 ·cases he
def q18 (φ:Fh):List AVal→Option (EffA × Bool)
 | [.str a,.str b]=>some (.pure (.str (φ.ladP a b)),(φ.l32 a && φ.l32 b))
 | _=>none
theorem q18_ok:CSOk Tryd.prog (csP (psOne 13 (q18 realFh))):=csP_one fun args v he=>by
 unfold q18 at he
 split at he
 ·rename_i a b
  simp only [Option.some.injEq,Prod.mk.injEq] at he
  obtain ⟨rfl,h⟩:=he
  have h2:(realFh.l32 a && realFh.l32 b)=true:=h
  refine p18_ok 13 [(.str a),(.str b)] _ ?_
  show cond ((realFh.l32 a && realFh.l32 b)) _ _=_
  rw [h2]; rfl
 ·cases he
def psnh (φ:Fh):PS:=(psAlt (psOne 30 (q41 φ)) (psOne 13 (q18 φ)))
theorem psnh_ok:CSOk Tryd.prog (csP (psnh realFh)):=(csP_alt q41_ok q18_ok)
def chnh (φ:Fh):CS:=cs0
theorem chnh_ok:CSOk Tryd.prog (chnh realFh):=cs0_ok
def nh (φ:Fh):CS:=csAlt (csP (psnh φ)) (chnh φ)
theorem nh_ok:CSOk Tryd.prog (nh realFh):=csAlt_ok psnh_ok chnh_ok
theorem nh_ps (φ:Fh):PSOk (psnh φ) (nh φ):=csP_ok
def shV (l:List UInt8→List UInt8→List UInt8) (k u:List UInt8):List UInt8:=cond (isLen k 32 && isLen u 32) (cond (l k u == zero32) [] (l k u)) []
def shR (l:List UInt8→List UInt8→List UInt8) (k u:List UInt8):Int:=cond (isLen k 32 && isLen u 32) (cond (l k u == zero32) 30 0) 2
def puV (l:List UInt8→List UInt8→List UInt8) (k:List UInt8):List UInt8:=cond (isLen k 32) (l k nine32) []
def puR (k:List UInt8):Int:=cond (isLen k 32) 0 2
theorem v42a (φ:Fh) (k u:List UInt8):ansO (run1O Tryd.prog (psnh φ) (nh φ) [9] [true] [] (mask 31) 200 31 [.str k,.str u] [] Tryd.prog.globals.size)=some (.tup [.str [],.int .i64 2],[((k.length:Int) != 32)]):=by kernel_rfl
theorem v42b (φ:Fh) (k u:List UInt8):ansO (run1O Tryd.prog (psnh φ) (nh φ) [9,13] [false,true] [] (mask 31) 200 31 [.str k,.str u] [] Tryd.prog.globals.size)=some (.tup [.str [],.int .i64 2],[((u.length:Int) != 32),!(((k.length:Int) != 32))]):=by kernel_rfl
theorem v42c (φ:Fh) (k u:List UInt8):ansO (run1O Tryd.prog (psnh φ) (nh φ) [9,13,17,21] [false,false,true] [] (mask 31) 200 31 [.str k,.str u] [] Tryd.prog.globals.size)=some (.tup [.str [],.int .i64 30],[φ.ladE k u == zero32,(φ.l32 k && φ.l32 u),!(((u.length:Int) != 32)),!(((k.length:Int) != 32))]):=by kernel_rfl
theorem v42d (φ:Fh) (k u:List UInt8):ansO (run1O Tryd.prog (psnh φ) (nh φ) [9,13,17,21] [false,false,false] [] (mask 31) 200 31 [.str k,.str u] [] Tryd.prog.globals.size)=some (.tup [.str (φ.ladE k u),.int .i64 0],[!(φ.ladE k u == zero32),(φ.l32 k && φ.l32 u),!(((u.length:Int) != 32)),!(((k.length:Int) != 32))]):=by kernel_rfl
theorem run42 (k u:List UInt8):(run1 Tryd.prog (nh realFh) (mask 31) 200 31 [.str k,.str u] [] Tryd.prog.globals.size).map (·.1)=some (.tup [.str (shV ladE k u),.int .i64 (shR ladE k u)]):=by
 unfold shV shR
 cases hk:isLen k 32
 ·exact ansO_run (nh_ps _) (v42a realFh k u) (by simp [allT,ne32 hk])
 cases hu:isLen u 32
 ·exact ansO_run (nh_ps _) (v42b realFh k u) (by simp [allT,to32 hk,ne32 hu])
 cases hz:(ladE k u == zero32)
 ·exact ansO_run (nh_ps _) (v42d realFh k u) (by simp only [allT,realFh,hk,hu,hz,to32 hk,to32 hu]; rfl)
 ·exact ansO_run (nh_ps _) (v42c realFh k u) (by simp only [allT,realFh,hk,hu,hz,to32 hk,to32 hu]; rfl)
def g42:List AVal→Option EffA
 | [.str a,.str b]=>some (.pure (.tup [.str (shV ladE a b),.int .i64 (shR ladE a b)]))
 | _=>none
theorem g42_ok:CSOk Tryd.prog (csOne 31 g42):=csOne_ok fun args e he=>by
 unfold g42 at he
 split at he
 ·rename_i a b
  cases he
  exact callOk_val nh_ok hmix (run42 a b) rfl rfl
 ·cases he
theorem v20a (φ:Fh) (k:List UInt8):ansO (run1O Tryd.prog (psnh φ) (nh φ) [7] [true] [] (mask 15) 200 15 [.str k] [] Tryd.prog.globals.size)=some (.tup [.str [],.int .i64 2],[((k.length:Int) != 32)]):=by kernel_rfl
theorem v20b (φ:Fh) (k:List UInt8):ansO (run1O Tryd.prog (psnh φ) (nh φ) [7,12] [false] [] (mask 15) 200 15 [.str k] [] Tryd.prog.globals.size)=some (.tup [.str (φ.ladE k nine32),.int .i64 0],[(φ.l32 k && φ.l32 nine32),!(((k.length:Int) != 32))]):=by kernel_rfl
theorem run20 (k:List UInt8):(run1 Tryd.prog (nh realFh) (mask 15) 200 15 [.str k] [] Tryd.prog.globals.size).map (·.1)=some (.tup [.str (puV ladE k),.int .i64 (puR k)]):=by
 unfold puV puR
 cases hk:isLen k 32
 ·exact ansO_run (nh_ps _) (v20a realFh k) (by simp [allT,ne32 hk])
 ·exact ansO_run (nh_ps _) (v20b realFh k) (by simp only [allT,realFh,hk,to32 hk]; rfl)
def g20:List AVal→Option EffA
 | [.str a]=>some (.pure (.tup [.str (puV ladE a),.int .i64 (puR a)]))
 | _=>none
theorem g20_ok:CSOk Tryd.prog (csOne 15 g20):=csOne_ok fun args e he=>by
 unfold g20 at he
 split at he
 ·rename_i a
  cases he
  exact callOk_val nh_ok hmix (run20 a) rfl rfl
 ·cases he
theorem v7a (φ:Fh) (k:List UInt8):ansO (run1O Tryd.prog (psnh φ) (nh φ) [7] [true] [] (mask 7) 200 7 [.str k] [] Tryd.prog.globals.size)=some (.tup [.str [],.int .i64 2],[((k.length:Int) != 32)]):=by kernel_rfl
theorem v7b (φ:Fh) (k:List UInt8):ansO (run1O Tryd.prog (psnh φ) (nh φ) [7,14] [false] [] (mask 7) 200 7 [.str k] [] Tryd.prog.globals.size)=some (.tup [.str (φ.ladP k nine32),.int .i64 0],[(φ.l32 k && φ.l32 nine32),!(((k.length:Int) != 32))]):=by kernel_rfl
theorem run7 (k:List UInt8):(run1 Tryd.prog (nh realFh) (mask 7) 200 7 [.str k] [] Tryd.prog.globals.size).map (·.1)=some (.tup [.str (puV ladP k),.int .i64 (puR k)]):=by
 unfold puV puR
 cases hk:isLen k 32
 ·exact ansO_run (nh_ps _) (v7a realFh k) (by simp [allT,ne32 hk])
 ·exact ansO_run (nh_ps _) (v7b realFh k) (by simp only [allT,realFh,hk,to32 hk]; rfl)
def g7:List AVal→Option EffA
 | [.str a]=>some (.pure (.tup [.str (puV ladP a),.int .i64 (puR a)]))
 | _=>none
theorem g7_ok:CSOk Tryd.prog (csOne 7 g7):=csOne_ok fun args e he=>by
 unfold g7 at he
 split at he
 ·rename_i a
  cases he
  exact callOk_val nh_ok hmix (run7 a) rfl rfl
 ·cases he
end Go.Proofs.YtcplgmgpagekfaaDoor
namespace Go.Proofs.YtcplgmgpagekfaaDoor
open Go Go.Eng Go.Num
structure Fk where
 shV:List UInt8→List UInt8→List UInt8
 shR:List UInt8→List UInt8→Int
 shVd:List UInt8→List UInt8→List UInt8
 shRd:List UInt8→List UInt8→Int
 puV:List UInt8→List UInt8
 puVd:List UInt8→List UInt8
 puR:List UInt8→Int
 l32:List UInt8→Bool
 ofN:List UInt8→N16
 bytesN:N16→List UInt8
def realFk:Fk:=⟨shV ladE,shR ladE,shV ladP,shR ladP,puV ladE,puV ladP,puR,fun s=>isLen s 32,ofP,bytesN⟩
def k42 (φ:Fk):List AVal→Option EffA
 | [.str a,.str b]=>some (.pure (.tup [.str (φ.shV a b),.int .i64 (φ.shR a b)]))
 | _=>none
theorem k42_ok:CSOk Tryd.prog (csOne 31 (k42 realFk)):=csOne_ok fun args e he=>by
 unfold k42 at he
 split at he
 ·rename_i a b
  cases he
  exact g42_ok 31 [(.str a),(.str b)] _ rfl
 ·cases he
def k20 (φ:Fk):List AVal→Option EffA
 | [.str a]=>some (.pure (.tup [.str (φ.puV a),.int .i64 (φ.puR a)]))
 | _=>none
theorem k20_ok:CSOk Tryd.prog (csOne 15 (k20 realFk)):=csOne_ok fun args e he=>by
 unfold k20 at he
 split at he
 ·rename_i a
  cases he
  exact g20_ok 15 [(.str a)] _ rfl
 ·cases he
def k7 (φ:Fk):List AVal→Option EffA
 | [.str a]=>some (.pure (.tup [.str (φ.puVd a),.int .i64 (φ.puR a)]))
 | _=>none
theorem k7_ok:CSOk Tryd.prog (csOne 7 (k7 realFk)):=csOne_ok fun args e he=>by
 unfold k7 at he
 split at he
 ·rename_i a
  cases he
  exact g7_ok 7 [(.str a)] _ rfl
 ·cases he
end Go.Proofs.YtcplgmgpagekfaaDoor
namespace Go.Eng
open Go
theorem nmV_plain {v:AVal}(h:ltS 0 v=true):nmV v=[]:=by
 have h0:∀ n:Nat,Nat.ble (n+1) 0=false:=fun n=>rfl
 cases v <;> first | rfl | (simp only [ltS,h0] at h; done) | skip
 all_goals simp only [ltS,h0] at h
 all_goals first | cases h | skip
 all_goals (rename_i cs; cases cs <;> first | rfl | cases h)
theorem nmL_plain:∀ {c:List AVal},ltL 0 c=true→c.flatMap nmV=[]
 | [],_=>rfl
 | v::c,h=>by
  simp only [ltL] at h
  cases hv:ltS 0 v <;> rw [hv] at h <;> simp only [cond_true,cond_false] at h
  ·cases h
  ·rw [List.flatMap_cons,nmV_plain hv,nmL_plain h]; rfl
theorem cnV_plain {G:Nat}{ns:List Nat}{v:AVal}(h:ltS 0 v=true):cnV G ns v=some v:=by
 have h0:∀ n:Nat,Nat.ble (n+1) 0=false:=fun n=>rfl
 cases v <;> first | rfl | (simp only [ltS,h0] at h; done) | skip
 all_goals simp only [ltS,h0] at h
 all_goals first | cases h | skip
 all_goals (rename_i cs; cases cs <;> first | rfl | cases h)
theorem cnW_plain {G:Nat}{ns:List Nat}:∀ {c:List AVal},ltL 0 c=true→cnW G ns c=some c
 | [],_=>rfl
 | v::c,h=>by
  simp only [ltL] at h
  cases hv:ltS 0 v <;> rw [hv] at h <;> simp only [cond_true,cond_false] at h
  ·cases h
  ·simp only [cnW,cnV_plain hv,cnW_plain h]
theorem unS_plain {G:Nat}{ns:List Nat}{v:AVal}(h:ltS 0 v=true):unS G ns v=some v:=by
 have h0:∀ n:Nat,Nat.ble (n+1) 0=false:=fun n=>rfl
 cases v <;> first | rfl | (simp only [ltS,h0] at h; done) | skip
 all_goals simp only [ltS,h0] at h
 all_goals first | cases h | skip
 all_goals (rename_i cs; cases cs <;> first | rfl | cases h)
theorem unW_plain {G:Nat}{ns:List Nat}:∀ {c:List AVal},ltL 0 c=true→unW G ns c=some c
 | [],_=>rfl
 | v::c,h=>by
  simp only [ltL] at h
  cases hv:ltS 0 v <;> rw [hv] at h <;> simp only [cond_true,cond_false] at h
  ·cases h
  ·simp only [unW,unS_plain hv,unW_plain h]
theorem one_app {P:Program}{cs:CS}{g nn F:Nat}{f:FuncId}{n base G:Nat}{xs c c' ct:List AVal}{v:AVal}{H:HL}(hG:P.globals.size=G)
  (hr:ansR [G] (run1 P cs nn F f (.ptr G 0::xs) [(g,.cells true ct),(G,.cells false c)] (G+1))=some (v,[some (.cells false c')]))
  (h0:aget H g=some (.cells true ct)) (hn:aget H n=some (.cells false c)) (hct:ltL 0 ct=true) (hx:ltL 0 xs=true) (hc:ltL 0 c=true) (hc':ltL 0 c'=true) (hv:unS G [n] v=some v) :
  (inlS P cs g nn F f 1 1 (.ptr n 0::xs)).app base H=some (v,aset H n (.cells false c')):=by
 have hns:reach (aget H) (.ptr n 0::xs)=[n]:=by
  unfold reach
  simp only [List.flatMap_cons,nmL_plain hx]
  have e1:addN [] (nmV (.ptr n 0)++[])=[n]:=rfl
  rw [e1]
  have e2:[n].flatMap (lead (aget H))=[]:=by
   simp only [List.flatMap_cons,List.flatMap_nil,lead,hn,nmL_plain hc,List.append_nil]
  rw [e2]
  show addN [n] ([n].flatMap (lead (aget H)))=[n]
  rw [e2]; rfl
 have hb:blD G (aget H) [n] [n] 0=some [(G,.cells false c)]:=by
  unfold blD
  rw [hn]
  simp only [blD,cnW_plain hc,Nat.add_zero]
 have hcn:cnW G [n] (.ptr n 0::xs)=some (.ptr G 0::xs):=by
  have e:cnV G [n] (.ptr n 0)=some (.ptr G 0):=by
   have:posN n [n] 0=some 0:=by
    unfold posN
    simp
   unfold cnV cnS
   simp only [this,Nat.add_zero]
  unfold cnW
  rw [e,cnW_plain hx]
 have hk:bkL G [n] [n] [some (.cells false c')]=some [(n,some (.cells false c'))]:=by
  simp only [bkL,unW_plain hc']
 exact inlS_run (ns:=[n]) (m:=1) (k:=1) hr h0 hct rfl hG hns rfl hcn hb hv hk
end Go.Eng
namespace Go.Proofs.YtcplgmgpagekfaaDoor
open Go Go.Eng Go.Num Go.Bla
abbrev L8:=List UInt8
structure Fz where
 w:WF
 sh:L8→L8→L8
 sr:L8→L8→Int
 pu:L8→L8
 pr:L8→Int
 sv:L8→L8→L8→L8→L8
 se:L8→L8→L8→L8→Int
 ov:L8→L8→L8→L8→L8
 oe:L8→L8→L8→L8→Int
 no:L8
noncomputable def c42 (φ:Fz):List AVal→Option EffA
 | [.str a,.str b]=>some (.pure (.tup [.str (φ.sh a b),.int .i64 (φ.sr a b)]))
 | _=>none
noncomputable def c20 (φ:Fz):List AVal→Option EffA
 | [.str a]=>some (.pure (.tup [.str (φ.pu a),.int .i64 (φ.pr a)]))
 | _=>none
noncomputable def c44 (φ:Fz):List AVal→Option EffA
 | [.str k,.str n,.str a,.str s]=>some (.pure (.tup [.str (φ.sv k n a s),.int .i64 (φ.se k n a s)]))
 | _=>none
noncomputable def c45 (φ:Fz):List AVal→Option EffA
 | [.u64 0]=>some (.pure (.str φ.no))
 | _=>none
def slO (s:L8):Bool:=Nat.ble s.length 1000000000
noncomputable def q50 (φ:Fz):List AVal→Option (EffA × Bool)
 | [.str k,.str n,.str a,.str s]=>some (.pure (.tup [.str (φ.ov k n a s),.int .i64 (φ.oe k n a s)]),slO s)
 | _=>none
noncomputable def psN (φ:Fz):PS:=psAlt (psOne 29 (q40 φ.w)) (psAlt (psOne 32 (q43 φ.w)) (psOne 35 (q50 φ)))
noncomputable def csC (φ:Fz):CS:=csAlt (csOne 31 (c42 φ)) (csAlt (csOne 15 (c20 φ)) (csAlt (csOne 33 (c44 φ)) (csOne 34 (c45 φ))))
noncomputable def csN (φ:Fz):CS:=csAlt (csP (psN φ)) (csC φ)
structure St where
 h:L8
 ck:L8
 k:L8
 f:Int
def exC (e:Nat) (x y z:L8):List AVal:=match e with
 | 0=>[]
 | 1=>[.str x,.str y]
 | _=>[.str x,.str y,.str z]
def stC (s:St):List AVal:=[.str s.h,.str s.ck,.str s.k,.int .i64 s.f]
def mixS (φ:Fz) (b:L8) (s:St):St:=⟨outC (φ.w (s.h++b)),s.ck,s.k,s.f⟩
def eI (x y:Int):Bool:=x == y
section
variable (φ:Fz) (s:St) (x y z b:L8)
theorem r21:(e:Nat)→e < 3→ansM [1] (run1O Tryd.prog (psN φ) (csN φ) [10,11] [] [] (mask 16) 200 16 [.ptr 1 0,.str b] [(0,.cells true ordC),(1,.cells false (stC s++exC e x y z))] 2)=some (.tup [],[some (.cells false (stC (mixS φ b s)++exC e x y z))],[gd (s.h++b),cB s.h b])
 | 0,_=>by kernel_rfl
 | 1,_=>by kernel_rfl
 | 2,_=>by kernel_rfl
end
noncomputable def mxM (φ:Fz) (args:List AVal):EffA:=inlS Tryd.prog (csN φ) 0 (mask 16) 200 16 1 1 args
noncomputable def c21 (φ:Fz):List AVal→Option EffA
 | [.ptr n 0,.str b]=>some (mxM φ [.ptr n 0,.str b])
 | _=>none
noncomputable def csN2 (φ:Fz):CS:=csAlt (csN φ) (csOne 16 (c21 φ))
def addS (φ:Fz) (a b:L8) (s:St):St:=cond (eI s.f 0) (cond (eI (φ.sr a b) 0) ⟨s.h,kc0 φ.w s.ck (φ.sh a b),kc1 φ.w s.ck (φ.sh a b),φ.sr a b⟩ ⟨s.h,s.ck,s.k,φ.sr a b⟩) s
noncomputable def chO (φ:Fz) (e:Nat) (s:St) (f:Int) (x y z:L8) (t:L8) (base:Nat):Bool:=oB (mkT 0 ordC [.str (kc0 φ.w s.ck t),.str (kc1 φ.w s.ck t)] fun b=>.tup [.slice b 0 2 1,.int .i64 0]) base [(0,.cells true ordC),(1,.cells false (stC ⟨s.h,s.ck,s.k,f⟩++exC e x y z))] (.tup [.slice base 0 2 1,.int .i64 0]) [(0,.cells true ordC),(1,.cells false (stC ⟨s.h,s.ck,s.k,f⟩++exC e x y z)),(base,.cells false [.str (kc0 φ.w s.ck t),.str (kc1 φ.w s.ck t)])]
section
variable (φ:Fz) (s:St) (x y z a b:L8)
theorem r22a:(e:Nat)→e < 3→ansM [1] (run1O Tryd.prog (psN φ) (csN φ) [14] [true] [] (mask 17) 200 17 [.ptr 1 0,.str a,.str b] [(0,.cells true ordC),(1,.cells false (stC s++exC e x y z))] 2)=some (.tup [],[some (.cells false (stC s++exC e x y z))],[!(eI s.f 0)])
 | 0,_=>by kernel_rfl
 | 1,_=>by kernel_rfl
 | 2,_=>by kernel_rfl
theorem r22b:(e:Nat)→e < 3→ansM [1] (run1O Tryd.prog (psN φ) (csN φ) [14,26] [false,false] [] (mask 17) 200 17 [.ptr 1 0,.str a,.str b] [(0,.cells true ordC),(1,.cells false (stC s++exC e x y z))] 2)=some (.tup [],[some (.cells false (stC ⟨s.h,s.ck,s.k,φ.sr a b⟩++exC e x y z))],[!(eI (φ.sr a b) 0),!(!(eI s.f 0))])
 | 0,_=>by kernel_rfl
 | 1,_=>by kernel_rfl
 | 2,_=>by kernel_rfl
theorem r22c:(e:Nat)→e < 3→ansM [1] (run1O Tryd.prog (psN φ) (csN φ) [14,26,33,300033] [false,true] [.tup [.slice 202 0 2 1,.int .i64 0],.tup [.ptr 202 0,.agg [.str (kc0 φ.w s.ck (φ.sh a b)),.str (kc1 φ.w s.ck (φ.sh a b))]]] (mask 17) 200 17 [.ptr 1 0,.str a,.str b] [(0,.cells true ordC),(1,.cells false (stC s++exC e x y z))] 2)=some (.tup [],[some (.cells false (stC ⟨s.h,kc0 φ.w s.ck (φ.sh a b),kc1 φ.w s.ck (φ.sh a b),φ.sr a b⟩++exC e x y z))],[chO φ e s (φ.sr a b) x y z (φ.sh a b) 202,Nat.beq s.ck.length 32 && gdS (φ.sh a b),eI (φ.sr a b) 0,!(!(eI s.f 0))])
 | 0,_=>by kernel_rfl
 | 1,_=>by kernel_rfl
 | 2,_=>by kernel_rfl
end
end Go.Proofs.YtcplgmgpagekfaaDoor
namespace Go.Proofs.YtcplgmgpagekfaaDoor
open Go Go.Eng Go.Num Go.Bla
def setF (s:St) (f:Int):St:=⟨s.h,s.ck,s.k,f⟩
def seC (φ:Fz) (t:L8) (s:St):L8:=cond (eI s.f 0) (φ.sv s.k φ.no s.h t) []
def sealS (φ:Fz) (t:L8) (s:St):St:=cond (eI s.f 0) (mixS φ (φ.sv s.k φ.no s.h t) (setF s (φ.se s.k φ.no s.h t))) s
def opC (φ:Fz) (c:L8) (s:St):L8:=cond (eI s.f 0) (φ.ov s.k φ.no s.h c) []
def openS (φ:Fz) (c:L8) (s:St):St:=cond (eI s.f 0) (mixS φ c (setF s (φ.oe s.k φ.no s.h c))) s
def HS (s:St) (e:Nat) (x y z:L8):HL:=[(0,.cells true ordC),(1,.cells false (stC s++exC e x y z))]
noncomputable def mxO (φ:Fz) (s:St) (e:Nat) (x y z b:L8) (base:Nat):Bool:=oB (mxM φ [.ptr 1 0,.str b]) base (HS s e x y z) (.tup []) (HS (mixS φ b s) e x y z)
section
variable (φ:Fz) (s:St) (x y z t:L8)
theorem r23a:(e:Nat)→e < 3→ansM [1] (run1O Tryd.prog (psN φ) (csN2 φ) [11] [true] [] (mask 18) 200 18 [.ptr 1 0,.str t] (HS s e x y z) 2)=some (.str [],[some (.cells false (stC s++exC e x y z))],[!(eI s.f 0)])
 | 0,_=>by kernel_rfl
 | 1,_=>by kernel_rfl
 | 2,_=>by kernel_rfl
theorem r23b:(e:Nat)→e < 3→ansM [1] (run1O Tryd.prog (psN φ) (csN2 φ) [11,300032] [false] [.tup [],.tup [.ptr 1 0,.agg (stC (mixS φ (φ.sv s.k φ.no s.h t) (setF s (φ.se s.k φ.no s.h t)))++exC e x y z)]] (mask 18) 200 18 [.ptr 1 0,.str t] (HS s e x y z) 2)=some (.str (φ.sv s.k φ.no s.h t),[some (.cells false (stC (mixS φ (φ.sv s.k φ.no s.h t) (setF s (φ.se s.k φ.no s.h t)))++exC e x y z))],[mxO φ (setF s (φ.se s.k φ.no s.h t)) e x y z (φ.sv s.k φ.no s.h t) 234,!(!(eI s.f 0))])
 | 0,_=>by kernel_rfl
 | 1,_=>by kernel_rfl
 | 2,_=>by kernel_rfl
theorem r28a:(e:Nat)→e < 3→ansM [1] (run1O Tryd.prog (psN φ) (csN2 φ) [11] [true] [] (mask 19) 200 19 [.ptr 1 0,.str t] (HS s e x y z) 2)=some (.str [],[some (.cells false (stC s++exC e x y z))],[!(eI s.f 0)])
 | 0,_=>by kernel_rfl
 | 1,_=>by kernel_rfl
 | 2,_=>by kernel_rfl
theorem r28b:(e:Nat)→e < 3→ansM [1] (run1O Tryd.prog (psN φ) (csN2 φ) [11,23,300032] [false] [.tup [],.tup [.ptr 1 0,.agg (stC (mixS φ t (setF s (φ.oe s.k φ.no s.h t)))++exC e x y z)]] (mask 19) 200 19 [.ptr 1 0,.str t] (HS s e x y z) 2)=some (.str (φ.ov s.k φ.no s.h t),[some (.cells false (stC (mixS φ t (setF s (φ.oe s.k φ.no s.h t)))++exC e x y z))],[mxO φ (setF s (φ.oe s.k φ.no s.h t)) e x y z t 234,slO t,!(!(eI s.f 0))])
 | 0,_=>by kernel_rfl
 | 1,_=>by kernel_rfl
 | 2,_=>by kernel_rfl
theorem r30:(e:Nat)→e < 3→ansM [1] (run1O Tryd.prog (psN φ) (csN2 φ) [11,300011] [] [.tup [.slice 50 0 2 1,.int .i64 0],.tup [.ptr 50 0,.agg [.str (kc0 φ.w s.ck []),.str (kc1 φ.w s.ck [])]]] (mask 20) 200 20 [.ptr 1 0] (HS s e x y z) 2)=some (.tup [.str (kc0 φ.w s.ck []),.str (kc1 φ.w s.ck [])],[some (.cells false (stC s++exC e x y z))],[chO φ e s s.f x y z [] 50,Nat.beq s.ck.length 32 && gdS []])
 | 0,_=>by kernel_rfl
 | 1,_=>by kernel_rfl
 | 2,_=>by kernel_rfl
end
noncomputable def adM (φ:Fz) (args:List AVal):EffA:=inlS Tryd.prog (csN φ) 0 (mask 17) 200 17 1 1 args
noncomputable def slM (φ:Fz) (args:List AVal):EffA:=inlS Tryd.prog (csN2 φ) 0 (mask 18) 200 18 1 1 args
noncomputable def opM (φ:Fz) (args:List AVal):EffA:=inlS Tryd.prog (csN2 φ) 0 (mask 19) 200 19 1 1 args
noncomputable def kyM (φ:Fz) (args:List AVal):EffA:=inlS Tryd.prog (csN2 φ) 0 (mask 20) 200 20 1 1 args
noncomputable def c22 (φ:Fz):List AVal→Option EffA
 | [.ptr n 0,.str a,.str b]=>some (adM φ [.ptr n 0,.str a,.str b])
 | _=>none
noncomputable def c23 (φ:Fz):List AVal→Option EffA
 | [.ptr n 0,.str b]=>some (slM φ [.ptr n 0,.str b])
 | _=>none
noncomputable def c28 (φ:Fz):List AVal→Option EffA
 | [.ptr n 0,.str b]=>some (opM φ [.ptr n 0,.str b])
 | _=>none
noncomputable def c30 (φ:Fz):List AVal→Option EffA
 | [.ptr n 0]=>some (kyM φ [.ptr n 0])
 | _=>none
noncomputable def csN3 (φ:Fz):CS:=csAlt (csN2 φ) (csAlt (csOne 17 (c22 φ)) (csAlt (csOne 18 (c23 φ)) (csAlt (csOne 19 (c28 φ)) (csOne 20 (c30 φ)))))
theorem psN_ok (φ:Fz):PSOk (psN φ) (csN φ):=csP_ok
theorem psN_ok2 (φ:Fz):PSOk (psN φ) (csN2 φ):=fun f args e h=>by
 unfold csN2 csAlt
 rw [psN_ok φ f args e h]
theorem lt_ex (s:St) (x y z:L8):(e:Nat)→e < 3→ltL 0 (stC s++exC e x y z)=true
 | 0,_=>rfl
 | 1,_=>rfl
 | 2,_=>rfl
section
variable (φ:Fz) (s:St) (e:Nat) (he:e < 3) (x y z:L8){H:HL}{n base:Nat}(h0:aget H 0=some (.cells true ordC)) (hn:aget H n=some (.cells false (stC s++exC e x y z)))
include he h0 hn
theorem mix_app (b:L8) (hb:s.h.length+b.length≤12000) (hh:0 < s.h.length):(mxM φ [.ptr n 0,.str b]).app base H=some (.tup [],aset H n (.cells false (stC (mixS φ b s)++exC e x y z))):=by
 refine one_app gl1 (ansM_R (psN_ok φ) (r21 φ s x y z b e he) (allM (gd_of ?_ ?_) (allM (cB_of ?_) rfl))) h0 hn ordC_lt rfl (lt_ex _ _ _ _ e he) (lt_ex _ _ _ _ e he) rfl
 all_goals (try rw [List.length_append]) <;> omega
theorem add_app (a b:L8) (hk:s.ck.length=32) (hs:(φ.sh a b).length≤11900):(adM φ [.ptr n 0,.str a,.str b]).app base H=some (.tup [],aset H n (.cells false (stC (addS φ a b s)++exC e x y z))):=by
 unfold addS
 cases h1:eI s.f 0 with
 | false =>
  simp only [cond_false]
  exact one_app gl1 (ansM_R (psN_ok φ) (r22a φ s x y z a b e he) (allM (by rw [h1]; rfl) rfl)) h0 hn ordC_lt rfl (lt_ex _ _ _ _ e he) (lt_ex _ _ _ _ e he) rfl
 | true =>
  simp only [cond_true]
  cases h2:eI (φ.sr a b) 0 with
  | false =>
   simp only [cond_false]
   exact one_app gl1 (ansM_R (psN_ok φ) (r22b φ s x y z a b e he) (allM (by rw [h2]; rfl) (allM (by rw [h1]; rfl) rfl))) h0 hn ordC_lt rfl (lt_ex _ _ _ _ e he) (lt_ex _ _ _ _ e he) rfl
  | true =>
   simp only [cond_true]
   refine one_app gl1 (ansM_R (psN_ok φ) (r22c φ s x y z a b e he) (allM (oB_of ?_) (allM ?_ (allM h2 (allM (by rw [h1]; rfl) rfl))))) h0 hn ordC_lt rfl (lt_ex _ _ _ _ e he) (lt_ex _ _ _ _ e he) rfl
   ·exact mkT_app rfl
   ·rw [hk]; exact Nat.ble_eq_true_of_le hs
end
theorem mxO_ok (φ:Fz) (e:Nat) (he:e < 3) (x y z:L8) (s:St) (b:L8) (base:Nat) (hb:s.h.length+b.length≤12000) (hh:0 < s.h.length):mxO φ s e x y z b base=true:=
 oB_of (mix_app φ s e he x y z (H:=HS s e x y z) (n:=1) rfl rfl b hb hh)
section
variable (φ:Fz) (s:St) (e:Nat) (he:e < 3) (x y z:L8){H:HL}{n base:Nat}(h0:aget H 0=some (.cells true ordC)) (hn:aget H n=some (.cells false (stC s++exC e x y z)))
include he h0 hn
theorem seal_app (t:L8) (hs:s.h.length+(φ.sv s.k φ.no s.h t).length≤12000) (hh:0 < s.h.length):(slM φ [.ptr n 0,.str t]).app base H=some (.str (seC φ t s),aset H n (.cells false (stC (sealS φ t s)++exC e x y z))):=by
 unfold seC sealS
 cases h1:eI s.f 0 with
 | false =>
  simp only [cond_false]
  exact one_app gl1 (ansM_R (psN_ok2 φ) (r23a φ s x y z t e he) (allM (by rw [h1]; rfl) rfl)) h0 hn ordC_lt rfl (lt_ex _ _ _ _ e he) (lt_ex _ _ _ _ e he) rfl
 | true =>
  simp only [cond_true]
  exact one_app gl1 (ansM_R (psN_ok2 φ) (r23b φ s x y z t e he) (allM (mxO_ok φ e he x y z _ _ _ hs hh) (allM (by rw [h1]; rfl) rfl))) h0 hn ordC_lt rfl (lt_ex _ _ _ _ e he) (lt_ex _ _ _ _ e he) rfl
theorem open_app (t:L8) (hs:s.h.length+t.length≤12000) (hh:0 < s.h.length):(opM φ [.ptr n 0,.str t]).app base H=some (.str (opC φ t s),aset H n (.cells false (stC (openS φ t s)++exC e x y z))):=by
 unfold opC openS
 cases h1:eI s.f 0 with
 | false =>
  simp only [cond_false]
  exact one_app gl1 (ansM_R (psN_ok2 φ) (r28a φ s x y z t e he) (allM (by rw [h1]; rfl) rfl)) h0 hn ordC_lt rfl (lt_ex _ _ _ _ e he) (lt_ex _ _ _ _ e he) rfl
 | true =>
  simp only [cond_true]
  exact one_app gl1 (ansM_R (psN_ok2 φ) (r28b φ s x y z t e he) (allM (mxO_ok φ e he x y z _ _ _ hs hh) (allM (Nat.ble_eq_true_of_le (by omega)) (allM (by rw [h1]; rfl) rfl)))) h0 hn ordC_lt rfl (lt_ex _ _ _ _ e he) (lt_ex _ _ _ _ e he) rfl
theorem keys_app (hk:s.ck.length=32):(kyM φ [.ptr n 0]).app base H=some (.tup [.str (kc0 φ.w s.ck []),.str (kc1 φ.w s.ck [])],aset H n (.cells false (stC s++exC e x y z))):=by
 refine one_app gl1 (ansM_R (psN_ok2 φ) (r30 φ s x y z e he) (allM (oB_of (mkT_app rfl)) (allM (by rw [hk]; rfl) rfl))) h0 hn ordC_lt rfl (lt_ex _ _ _ _ e he) (lt_ex _ _ _ _ e he) ?_
 rfl
end
end Go.Proofs.YtcplgmgpagekfaaDoor
namespace Go.Proofs.YtcplgmgpagekfaaDoor
open Go Go.Eng Go.Num Go.Bla
def nmL:L8:=[78,111,105,115,101,95,73,75,95,50,53,53,49,57,95,67,104,97,67,104,97,80,111,108,121,95,66,76,65,75,69,50,115]
def st0 (φ:Fz):St:=⟨outC (φ.w nmL),outC (φ.w nmL),[],0⟩
def bgS (φ:Fz) (p o:L8):St:=mixS φ o (mixS φ p (st0 φ))
noncomputable def mB (φ:Fz) (n:Nat) (s:St) (e:Nat) (x y z b:L8) (base:Nat) (hs:HL):Bool:=oB (mxM φ [.ptr n 0,.str b]) base ((0,.cells true ordC)::hs++[(n,.cells false (stC s++exC e x y z))]) (.tup []) ((0,.cells true ordC)::hs++[(n,.cells false (stC (mixS φ b s)++exC e x y z))])
noncomputable def aB (φ:Fz) (n:Nat) (s:St) (e:Nat) (x y z a b:L8) (base:Nat) (hs:HL):Bool:=oB (adM φ [.ptr n 0,.str a,.str b]) base ((0,.cells true ordC)::hs++[(n,.cells false (stC s++exC e x y z))]) (.tup []) ((0,.cells true ordC)::hs++[(n,.cells false (stC (addS φ a b s)++exC e x y z))])
noncomputable def sB (φ:Fz) (n:Nat) (s:St) (e:Nat) (x y z t:L8) (base:Nat) (hs:HL):Bool:=oB (slM φ [.ptr n 0,.str t]) base ((0,.cells true ordC)::hs++[(n,.cells false (stC s++exC e x y z))]) (.str (seC φ t s)) ((0,.cells true ordC)::hs++[(n,.cells false (stC (sealS φ t s)++exC e x y z))])
noncomputable def pB (φ:Fz) (n:Nat) (s:St) (e:Nat) (x y z t:L8) (base:Nat) (hs:HL):Bool:=oB (opM φ [.ptr n 0,.str t]) base ((0,.cells true ordC)::hs++[(n,.cells false (stC s++exC e x y z))]) (.str (opC φ t s)) ((0,.cells true ordC)::hs++[(n,.cells false (stC (openS φ t s)++exC e x y z))])
def bk (n:Nat) (s:St) (e:Nat) (x y z:L8):AVal:=.tup [.ptr n 0,.agg (stC s++exC e x y z)]
theorem run19 (φ:Fz) (p o:L8):ansO (run1O Tryd.prog (psN φ) (csN2 φ) [7,300012,300014] [] [.tup [],bk 49 (mixS φ p (st0 φ)) 0 [] [] [],.tup [],bk 49 (bgS φ p o) 0 [] [] []] (mask 14) 200 14 [.str p,.str o] H0 1)=some (.agg (stC (bgS φ p o)),[mB φ 49 (mixS φ p (st0 φ)) 0 [] [] [] o 89 [(1,.cells false [.str [],.str [],.str [],.int .i64 0])],mB φ 49 (st0 φ) 0 [] [] [] p 73 [(1,.cells false [.str [],.str [],.str [],.int .i64 0])],gd nmL]):=by kernel_rfl
def g19 (p o:L8):Bool:=Nat.ble p.length 4096 && Nat.ble o.length 4096
noncomputable def q19 (φ:Fz):List AVal→Option (EffA × Bool)
 | [.str p,.str o]=>some (tL (some (.agg (stC (bgS φ p o)))),g19 p o)
 | _=>none
noncomputable def ps4 (φ:Fz):PS:=psAlt (psOne 14 (q19 φ)) (psN φ)
noncomputable def csN4 (φ:Fz):CS:=csAlt (csP (ps4 φ)) (csN3 φ)
def neB (s:L8) (n:Int):Bool:=!(eI (s.length:Int) n)
def gtB (s:L8) (n:Int):Bool:=decide (n < (s.length:Int))
def b1 (φ:Fz) (a o e p t:L8):St:=mixS φ (φ.pu e) (bgS φ p o)
def b2 (φ:Fz) (a o e p t:L8):St:=addS φ e o (b1 φ a o e p t)
def b3 (φ:Fz) (a o e p t:L8):St:=sealS φ (φ.pu a) (b2 φ a o e p t)
def b4 (φ:Fz) (a o e p t:L8):St:=addS φ a o (b3 φ a o e p t)
def b5 (φ:Fz) (a o e p t:L8):St:=sealS φ t (b4 φ a o e p t)
def m1 (φ:Fz) (a o e p t:L8):L8:=φ.pu e++seC φ (φ.pu a) (b2 φ a o e p t)
def m2 (φ:Fz) (a o e p t:L8):L8:=m1 φ a o e p t++seC φ t (b4 φ a o e p t)
def sy8:List Nat:=[21,25,30,35,39,43,300063,300069,300075,76,300082,300088,89,95]
section
variable (φ:Fz) (a o e p t:L8)
noncomputable def run8 (os:List Bool):Option (AVal × List (Option AObj) × List Bool):=ansM [265] (run1O Tryd.prog (ps4 φ) (csN4 φ) sy8 os [.tup [],bk 265 (b1 φ a o e p t) 2 a e o,.tup [],bk 265 (b2 φ a o e p t) 2 a e o,.str (seC φ (φ.pu a) (b2 φ a o e p t)),bk 265 (b3 φ a o e p t) 2 a e o,.tup [],bk 265 (b4 φ a o e p t) 2 a e o,.str (seC φ t (b4 φ a o e p t)),bk 265 (b5 φ a o e p t) 2 a e o] (mask 8) 200 8 [.str a,.str o,.str e,.str p,.str t] H0 1)
noncomputable def ob8:List Bool:=[cB (m1 φ a o e p t) (seC φ t (b4 φ a o e p t)),sB φ 265 (b4 φ a o e p t) 2 a e o t 633 [],aB φ 265 (b3 φ a o e p t) 2 a e o a o 585 [],cB (φ.pu e) (seC φ (φ.pu a) (b2 φ a o e p t)),sB φ 265 (b2 φ a o e p t) 2 a e o (φ.pu a) 521 [],aB φ 265 (b1 φ a o e p t) 2 a e o e o 473 [],mB φ 265 (bgS φ p o) 2 a e o (φ.pu e) 425 [],g19 p o,!(gtB t 4096),!(gtB p 4096),!(neB e 32),!(neB o 32),!(neB a 32)]
theorem run8a:run8 φ a o e p t [true]=some (.tup [.nilPtr,.str [],.int .i64 2],[none],[neB a 32]):=by kernel_rfl
theorem run8b:run8 φ a o e p t [false,true]=some (.tup [.nilPtr,.str [],.int .i64 2],[none],[neB o 32,!(neB a 32)]):=by kernel_rfl
theorem run8c:run8 φ a o e p t [false,false,true]=some (.tup [.nilPtr,.str [],.int .i64 2],[none],[neB e 32,!(neB o 32),!(neB a 32)]):=by kernel_rfl
theorem run8d:run8 φ a o e p t [false,false,false,true]=some (.tup [.nilPtr,.str [],.int .i64 4],[none],[gtB p 4096,!(neB e 32),!(neB o 32),!(neB a 32)]):=by kernel_rfl
theorem run8e:run8 φ a o e p t [false,false,false,false,true]=some (.tup [.nilPtr,.str [],.int .i64 4],[none],[gtB t 4096,!(gtB p 4096),!(neB e 32),!(neB o 32),!(neB a 32)]):=by kernel_rfl
theorem run8f:run8 φ a o e p t [false,false,false,false,false,true]=some (.tup [.nilPtr,.str [],.int .i64 (b5 φ a o e p t).f],[some (.cells false (stC (b5 φ a o e p t)++exC 2 a e o))],(!(eI (b5 φ a o e p t).f 0))::ob8 φ a o e p t):=by kernel_rfl
theorem run8g:run8 φ a o e p t [false,false,false,false,false,false]=some (.tup [.ptr 265 0,.str (m2 φ a o e p t),.int .i64 0],[some (.cells false (stC (b5 φ a o e p t)++exC 2 a e o))],(!(!(eI (b5 φ a o e p t).f 0)))::ob8 φ a o e p t):=by kernel_rfl
end
end Go.Proofs.YtcplgmgpagekfaaDoor
namespace Go.Proofs.YtcplgmgpagekfaaDoor
open Go Go.Eng Go.Num Go.Bla
structure OkZ (φ:Fz):Prop where
 hpu:∀ a,(φ.pu a).length≤32
 hsh:∀ a b,(φ.sh a b).length≤32
 hsv:∀ k n a t,(φ.sv k n a t).length≤t.length+16
def Inv (s:St):Prop:=s.h.length=32∧s.ck.length=32
theorem inv_st0 (φ:Fz):Inv (st0 φ):=⟨outC_len _,outC_len _⟩
theorem inv_mix {φ:Fz}{s:St}(b:L8) (h:Inv s):Inv (mixS φ b s):=⟨outC_len _,h.2⟩
theorem inv_add {φ:Fz}{s:St}(a b:L8) (h:Inv s):Inv (addS φ a b s):=by
 unfold addS
 cases eI s.f 0
 ·exact h
 ·cases eI (φ.sr a b) 0
  ·exact h
  ·exact ⟨h.1,outC_len _⟩
theorem inv_seal {φ:Fz}{s:St}(t:L8) (h:Inv s):Inv (sealS φ t s):=by
 unfold sealS
 cases eI s.f 0
 ·exact h
 ·exact inv_mix _ h
theorem inv_open {φ:Fz}{s:St}(t:L8) (h:Inv s):Inv (openS φ t s):=by
 unfold openS
 cases eI s.f 0
 ·exact h
 ·exact inv_mix _ h
theorem inv_bg (φ:Fz) (p o:L8):Inv (bgS φ p o):=inv_mix _ (inv_mix _ (inv_st0 φ))
section
variable {φ:Fz}(hφ:OkZ φ){n:Nat}{s:St}(hi:Inv s){e:Nat}(he:e < 3){x y z:L8}{base:Nat}{hs:HL}(h0:aget ((0,.cells true ordC)::hs++[(n,.cells false (stC s++exC e x y z))]) 0=some (.cells true ordC)) (hn:aget ((0,.cells true ordC)::hs++[(n,.cells false (stC s++exC e x y z))]) n=some (.cells false (stC s++exC e x y z)))
 (hc:∀ c,aset ((0,.cells true ordC)::hs++[(n,.cells false (stC s++exC e x y z))]) n (.cells false c)=(0,.cells true ordC)::hs++[(n,.cells false c)])
include hi he h0 hn hc
theorem mB_ok (b:L8) (hb:b.length≤11000):mB φ n s e x y z b base hs=true:=by
 refine oB_of ?_
 rw [mix_app φ s e he x y z h0 hn b (by rw [hi.1]; omega) (by rw [hi.1]; omega),hc]
include hφ in
theorem aB_ok (a b:L8):aB φ n s e x y z a b base hs=true:=by
 refine oB_of ?_
 rw [add_app φ s e he x y z h0 hn a b hi.2 (by have:=hφ.hsh a b; omega),hc]
include hφ in
theorem sB_ok (t:L8) (ht:t.length≤11000):sB φ n s e x y z t base hs=true:=by
 refine oB_of ?_
 rw [seal_app φ s e he x y z h0 hn t (by rw [hi.1]; have:=hφ.hsv s.k φ.no s.h t; omega) (by rw [hi.1]; omega),hc]
theorem pB_ok (t:L8) (ht:t.length≤11000):pB φ n s e x y z t base hs=true:=by
 refine oB_of ?_
 rw [open_app φ s e he x y z h0 hn t (by rw [hi.1]; omega) (by rw [hi.1]; omega),hc]
end
theorem seC_len {φ:Fz}(hφ:OkZ φ) (t:L8) (s:St):(seC φ t s).length≤t.length+16:=by
 unfold seC
 cases eI s.f 0
 ·simp
 ·exact hφ.hsv _ _ _ _
theorem ansM_val {P:Program}{ps:PS}{cs:CS}(hps:PSOk ps cs){sy:List Nat}{os:List Bool}{vs:List AVal}{nn F:Nat}{f:FuncId}{args:List AVal}{H:HL}{fr:Nat}{ns:List Nat}{v:AVal}{L:List (Option AObj)}{ob:List Bool}(h:ansM ns (run1O P ps cs sy os vs nn F f args H fr)=some (v,L,ob)) (ha:allT ob=true):∃ F nn H' fr',run1 P cs nn F f args H fr=some (v,H',fr'):=by
 have:=ansM_R hps h ha
 unfold ansR at this
 split at this
 ·rename_i v' H' fr' hx
  simp only [Option.some.injEq,Prod.mk.injEq] at this
  obtain ⟨rfl,_⟩:=this
  exact ⟨_,_,_,_,hx⟩
 ·cases this
theorem call19 {φ:Fz}(hcs:CSOk Tryd.prog (csN2 φ)):CSOk Tryd.prog (csP (psOne 14 (q19 φ))):=psOne_ok fun args e he=>by
 unfold q19 at he
 split at he
 ·rename_i p o
  simp only [Option.some.injEq,Prod.mk.injEq] at he
  obtain ⟨rfl,hg⟩:=he
  unfold g19 at hg
  rw [Bool.and_eq_true] at hg
  have h1:=Nat.le_of_ble_eq_true hg.1
  have h2:=Nat.le_of_ble_eq_true hg.2
  refine callOk_tL hcs rfl fun x hx => ?_
  cases hx
  exact ⟨rfl,200,mask 14,run_of (ansO_run (psN_ok2 φ) (run19 φ p o) (allM (mB_ok (inv_mix _ (inv_st0 φ)) (by decide) rfl rfl (fun _=>rfl) _ (by omega)) (allM (mB_ok (inv_st0 φ) (by decide) rfl rfl (fun _=>rfl) _ (by omega)) (allM rfl rfl))))⟩
 ·cases he
noncomputable def lkE (v:AVal):EffA:=tL (some v)
noncomputable def bgE (φ:Fz) (a o e p t:L8):EffA:=cond (neB a 32 || (neB o 32 || neB e 32)) (lkE (.tup [.nilPtr,.str [],.int .i64 2])) (cond (gtB p 4096 || gtB t 4096) (lkE (.tup [.nilPtr,.str [],.int .i64 4])) (cond (eI (b5 φ a o e p t).f 0) (mkT 0 ordC (stC (b5 φ a o e p t)++exC 2 a e o) fun b=>.tup [.ptr b 0,.str (m2 φ a o e p t),.int .i64 0]) (lkE (.tup [.nilPtr,.str [],.int .i64 (b5 φ a o e p t).f]))))
noncomputable def c8 (φ:Fz):List AVal→Option EffA
 | [.str a,.str o,.str e,.str p,.str t]=>some (bgE φ a o e p t)
 | _=>none
theorem lk_ok {cs:CS}(hcs:CSOk Tryd.prog cs){f:FuncId}{args:List AVal}(hcan:canL Tryd.prog.globals.size [] args=some (args,[])){v:AVal}(hv:ltV 0 v=true) (h:∃ F nn H' fr',run1 Tryd.prog cs nn F f args H0 1=some (v,H',fr')):CallOk Tryd.prog f args (lkE v):=
 callOk_tL hcs hcan fun x hx=>by cases hx; exact ⟨hv,h⟩
theorem len_eq {a:L8}(h:neB a 32=false):a.length=32:=by
 unfold neB eI at h
 simp at h
 omega
theorem len_le {a:L8}(h:gtB a 4096=false):a.length≤4096:=by
 unfold gtB at h
 simp at h
 omega
theorem ob8_ok {φ:Fz}(hφ:OkZ φ){a o e p t:L8}(ha:neB a 32=false) (ho:neB o 32=false) (he:neB e 32=false) (hp:gtB p 4096=false) (ht:gtB t 4096=false):allT (ob8 φ a o e p t)=true:=by
 have l1:=len_eq ho
 have l2:=len_le hp
 have l3:=len_le ht
 have i0:=inv_bg φ p o
 have i1:Inv (b1 φ a o e p t):=inv_mix _ i0
 have i2:Inv (b2 φ a o e p t):=inv_add _ _ i1
 have i3:Inv (b3 φ a o e p t):=inv_seal _ i2
 have i4:Inv (b4 φ a o e p t):=inv_add _ _ i3
 have p1:=hφ.hpu e
 have p2:=hφ.hpu a
 have s1:=seC_len hφ (φ.pu a) (b2 φ a o e p t)
 have s2:=seC_len hφ t (b4 φ a o e p t)
 unfold ob8
 refine allM (cB_of ?_) (allM (sB_ok hφ i4 (by decide) rfl rfl (fun _=>rfl) _ (by omega)) (allM (aB_ok hφ i3 (by decide) rfl rfl (fun _=>rfl) _ _) (allM (cB_of ?_) (allM (sB_ok hφ i2 (by decide) rfl rfl (fun _=>rfl) _ (by omega)) (allM (aB_ok hφ i1 (by decide) rfl rfl (fun _=>rfl) _ _) (allM (mB_ok i0 (by decide) rfl rfl (fun _=>rfl) _ (by omega)) (allM ?_ (allM (by rw [ht]; rfl) (allM (by rw [hp]; rfl) (allM (by rw [he]; rfl) (allM (by rw [ho]; rfl) (allM (by rw [ha]; rfl) rfl))))))))))))
 ·unfold m1; rw [List.length_append]; omega
 ·omega
 ·unfold g19
  rw [Bool.and_eq_true]
  exact ⟨Nat.ble_eq_true_of_le l2,Nat.ble_eq_true_of_le (by omega)⟩
theorem call8 {φ:Fz}(hφ:OkZ φ) (hcs:CSOk Tryd.prog (csN4 φ)):CSOk Tryd.prog (csOne 8 (c8 φ)):=csOne_ok fun args ef hef=>by
 have hps:PSOk (ps4 φ) (csN4 φ):=csP_ok
 unfold c8 at hef
 split at hef
 ·rename_i a o e p t
  cases hef
  unfold bgE
  cases ha:neB a 32 with
  | true=>exact lk_ok hcs rfl rfl (ansM_val hps (run8a φ a o e p t) (allM ha rfl))
  | false =>
  cases ho:neB o 32 with
  | true=>exact lk_ok hcs rfl rfl (ansM_val hps (run8b φ a o e p t) (allM ho (allM (by rw [ha]; rfl) rfl)))
  | false =>
  cases he:neB e 32 with
  | true=>exact lk_ok hcs rfl rfl (ansM_val hps (run8c φ a o e p t) (allM he (allM (by rw [ho]; rfl) (allM (by rw [ha]; rfl) rfl))))
  | false =>
  cases hp:gtB p 4096 with
  | true=>exact lk_ok hcs rfl rfl (ansM_val hps (run8d φ a o e p t) (allM hp (allM (by rw [he]; rfl) (allM (by rw [ho]; rfl) (allM (by rw [ha]; rfl) rfl)))))
  | false =>
  cases ht:gtB t 4096 with
  | true=>exact lk_ok hcs rfl rfl (ansM_val hps (run8e φ a o e p t) (allM ht (allM (by rw [hp]; rfl) (allM (by rw [he]; rfl) (allM (by rw [ho]; rfl) (allM (by rw [ha]; rfl) rfl))))))
  | false =>
  have hob:=ob8_ok hφ ha ho he hp ht
  cases hf:eI (b5 φ a o e p t).f 0 with
  | false=>exact lk_ok hcs rfl rfl (ansM_val hps (run8f φ a o e p t) (allM (by rw [hf]; rfl) hob))
  | true=>exact callOk_mkT hcs hmix gl1 (by decide) ordC_lt rfl (lt_ex _ _ _ _ 2 (by decide)) (fun ρ a b h=>.tupL (RL.cons (.ptr h) (RL.same rfl))) (ansM_R hps (run8g φ a o e p t) (allM (by rw [hf]; rfl) hob)) (by decide)
 ·cases hef
end Go.Proofs.YtcplgmgpagekfaaDoor
namespace Go.Proofs.YtcplgmgpagekfaaDoor
open Go Go.Eng Go.Num Go.Bla
def sl (s:L8) (a b:Int):L8:=(s.take b.toNat).drop a.toNat
def inS (s:L8) (a b:Int):Bool:=decide (0≤a) && (decide (a≤b) && decide (b≤(s.length:Int)))
def gotC (a b c d e:L8):List AVal:=[.str a,.str b,.str c,.str d,.str e]
def got0:List AVal:=gotC [] [] [] [] []
section
variable (φ:Fz) (sec p m:L8)
def e1:L8:=sl m 0 32
def d1:L8:=sl m 32 80
def d2:L8:=sl m 80 (m.length:Int)
def g0:St:=bgS φ p (φ.pu sec)
def g1:St:=mixS φ (e1 m) (g0 φ sec p)
def g2:St:=addS φ sec (e1 m) (g1 φ sec p m)
def sta:L8:=opC φ (d1 m) (g2 φ sec p m)
def g3:St:=openS φ (d1 m) (g2 φ sec p m)
def g4:St:=addS φ sec (sta φ sec p m) (g3 φ sec p m)
def pay:L8:=opC φ (d2 m) (g4 φ sec p m)
def g5:St:=openS φ (d2 m) (g4 φ sec p m)
def ltB2 (s:L8) (n:Int):Bool:=decide ((s.length:Int) < n)
def hG0:HL:=[(9,.cells false got0)]
noncomputable def run11 (os:List Bool):Option (AVal × List (Option AObj) × List Bool):=ansM [265] (run1O Tryd.prog (ps4 φ) (csN4 φ) [16,21,25,31,40,42,300052,300061,67,300068,300079,84,300085,91] os [.tup [],bk 265 (g1 φ sec p m) 1 [] (e1 m) [],.tup [],bk 265 (g2 φ sec p m) 1 [] (e1 m) [],.str (sta φ sec p m),bk 265 (g3 φ sec p m) 1 [] (e1 m) [],.tup [],bk 265 (g4 φ sec p m) 1 (sta φ sec p m) (e1 m) [],.str (pay φ sec p m),bk 265 (g5 φ sec p m) 1 (sta φ sec p m) (e1 m) []] (mask 9) 200 9 [.str sec,.str p,.str m] H0 1)
noncomputable def ob11:List Bool:=[pB φ 265 (g4 φ sec p m) 1 (sta φ sec p m) (e1 m) [] (d2 m) 609 hG0,inS m 80 (m.length:Int),aB φ 265 (g3 φ sec p m) 1 (sta φ sec p m) (e1 m) [] sec (sta φ sec p m) 561 hG0,pB φ 265 (g2 φ sec p m) 1 [] (e1 m) [] (d1 m) 465 hG0,inS m 32 80,aB φ 265 (g1 φ sec p m) 1 [] (e1 m) [] sec (e1 m) 409 hG0,mB φ 265 (g0 φ sec p) 1 [] (e1 m) [] (e1 m) 337 hG0,inS m 0 32,g19 p (φ.pu sec),!(ltB2 m 96),!(gtB m 4192),!(gtB p 4096),!(neB sec 32)]
theorem run11a:run11 φ sec p m [true]=some (.tup [.nilPtr,.agg got0,.int .i64 2],[none],[neB sec 32]):=by kernel_rfl
theorem run11b:run11 φ sec p m [false,true]=some (.tup [.nilPtr,.agg got0,.int .i64 4],[none],[gtB p 4096,!(neB sec 32)]):=by kernel_rfl
theorem run11c:run11 φ sec p m [false,false,true]=some (.tup [.nilPtr,.agg got0,.int .i64 4],[none],[gtB m 4192,!(gtB p 4096),!(neB sec 32)]):=by kernel_rfl
theorem run11d:run11 φ sec p m [false,false,false,true]=some (.tup [.nilPtr,.agg got0,.int .i64 7],[none],[ltB2 m 96,!(gtB m 4192),!(gtB p 4096),!(neB sec 32)]):=by kernel_rfl
theorem run11e:run11 φ sec p m [false,false,false,false,true]=some (.tup [.nilPtr,.agg got0,.int .i64 (g5 φ sec p m).f],[some (.cells false (stC (g5 φ sec p m)++exC 1 (sta φ sec p m) (e1 m) []))],(!(eI (g5 φ sec p m).f 0))::ob11 φ sec p m):=by kernel_rfl
theorem run11f:run11 φ sec p m [false,false,false,false,false]=some (.tup [.ptr 265 0,.agg (gotC (sta φ sec p m) (pay φ sec p m) [] [] []),.int .i64 0],[some (.cells false (stC (g5 φ sec p m)++exC 1 (sta φ sec p m) (e1 m) []))],(!(!(eI (g5 φ sec p m).f 0)))::ob11 φ sec p m):=by kernel_rfl
end
end Go.Proofs.YtcplgmgpagekfaaDoor
namespace Go.Proofs.YtcplgmgpagekfaaDoor
open Go Go.Eng Go.Num Go.Bla
def noB (s:L8):Bool:=s == []
noncomputable def kB (φ:Fz) (n:Nat) (s:St) (e:Nat) (x y z:L8) (base:Nat) (hs:HL):Bool:=oB (kyM φ [.ptr n 0]) base ((0,.cells true ordC)::hs++[(n,.cells false (stC s++exC e x y z))]) (.tup [.str (kc0 φ.w s.ck []),.str (kc1 φ.w s.ck [])]) ((0,.cells true ordC)::hs++[(n,.cells false (stC s++exC e x y z))])
section
variable (φ:Fz) (s:St) (sa ep e t:L8)
def u1:St:=mixS φ (φ.pu e) s
def u2:St:=addS φ e ep (u1 φ s e)
def u3:St:=addS φ e sa (u2 φ s ep e)
def u4:St:=sealS φ t (u3 φ s sa ep e)
def uc:L8:=seC φ t (u3 φ s sa ep e)
def um:L8:=φ.pu e++uc φ s sa ep e t
def uh:HL:=[(1,.cells false (stC s++exC 1 sa ep [])),(10,.cells false got0)]
noncomputable def run13 (os:List Bool):Option (AVal × List (Option AObj) × List Bool):=ansM [1] (run1O Tryd.prog (ps4 φ) (csN4 φ) [23,29,34,300046,300052,300058,300061,62,65,300070] os [.tup [],bk 210 (u1 φ s e) 0 [] [] [],.tup [],bk 210 (u2 φ s ep e) 0 [] [] [],.tup [],bk 210 (u3 φ s sa ep e) 0 [] [] [],.str (uc φ s sa ep e t),bk 210 (u4 φ s sa ep e t) 0 [] [] [],.tup [.str (kc0 φ.w (u4 φ s sa ep e t).ck []),.str (kc1 φ.w (u4 φ s sa ep e t).ck [])],bk 210 (u4 φ s sa ep e t) 0 [] [] []] (mask 10) 200 10 [.ptr 1 0,.str e,.str t] [(0,.cells true ordC),(1,.cells false (stC s++exC 1 sa ep []))] 2)
noncomputable def ob13:List Bool:=[cB (φ.pu e) (uc φ s sa ep e t),sB φ 210 (u3 φ s sa ep e) 0 [] [] [] t 410 (uh s sa ep),aB φ 210 (u2 φ s ep e) 0 [] [] [] e sa 386 (uh s sa ep),aB φ 210 (u1 φ s e) 0 [] [] [] e ep 338 (uh s sa ep),mB φ 210 s 0 [] [] [] (φ.pu e) 290 (uh s sa ep),!(gtB t 4096),!(neB e 32),!(noB s.h)]
def uo:List (Option AObj):=[some (.cells false (stC s++exC 1 sa ep []))]
theorem run13a:run13 φ s sa ep e t [true]=some (.tup [.str [],.agg got0,.int .i64 1],uo s sa ep,[noB s.h]):=by kernel_rfl
theorem run13b:run13 φ s sa ep e t [false,true]=some (.tup [.str [],.agg got0,.int .i64 2],uo s sa ep,[neB e 32,!(noB s.h)]):=by kernel_rfl
theorem run13c:run13 φ s sa ep e t [false,false,true]=some (.tup [.str [],.agg got0,.int .i64 4],uo s sa ep,[gtB t 4096,!(neB e 32),!(noB s.h)]):=by kernel_rfl
theorem run13d:run13 φ s sa ep e t [false,false,false,true]=some (.tup [.str [],.agg got0,.int .i64 (u4 φ s sa ep e t).f],uo s sa ep,(!(eI (u4 φ s sa ep e t).f 0))::ob13 φ s sa ep e t):=by kernel_rfl
theorem run13e:run13 φ s sa ep e t [false,false,false,false]=some (.tup [.str (um φ s sa ep e t),.agg (gotC sa [] (kc1 φ.w (u4 φ s sa ep e t).ck []) (kc0 φ.w (u4 φ s sa ep e t).ck []) (u4 φ s sa ep e t).h),.int .i64 0],uo s sa ep,kB φ 210 (u4 φ s sa ep e t) 0 [] [] [] 458 (uh s sa ep)::(!(!(eI (u4 φ s sa ep e t).f 0)))::ob13 φ s sa ep e t):=by kernel_rfl
theorem run13n:(run1 Tryd.prog (csN4 φ) (mask 10) 200 10 [.nilPtr,.str e,.str t] [] 1).map (·.1)=some (.tup [.str [],.agg got0,.int .i64 1]):=by kernel_rfl
end
section
variable (φ:Fz) (s:St) (se ep ot m:L8)
def v1:St:=mixS φ (sl m 0 32) s
def v2:St:=addS φ ep (sl m 0 32) (v1 φ s m)
def v3:St:=addS φ se (sl m 0 32) (v2 φ s ep m)
def vc:L8:=opC φ (sl m 32 (m.length:Int)) (v3 φ s se ep m)
def v4:St:=openS φ (sl m 32 (m.length:Int)) (v3 φ s se ep m)
def vh:HL:=[(1,.cells false (stC s++exC 2 se ep ot)),(2,.cells false got0)]
def vo:List (Option AObj):=[some (.cells false (stC s++exC 2 se ep ot))]
noncomputable def run15 (os:List Bool):Option (AVal × List (Option AObj) × List Bool):=ansM [1] (run1O Tryd.prog (ps4 φ) (csN4 φ) [19,25,30,37,300038,44,300045,51,300052,54,300055,58,300063] os [.tup [],bk 202 (v1 φ s m) 0 [] [] [],.tup [],bk 202 (v2 φ s ep m) 0 [] [] [],.tup [],bk 202 (v3 φ s se ep m) 0 [] [] [],.str (vc φ s se ep m),bk 202 (v4 φ s se ep m) 0 [] [] [],.tup [.str (kc0 φ.w (v4 φ s se ep m).ck []),.str (kc1 φ.w (v4 φ s se ep m).ck [])],bk 202 (v4 φ s se ep m) 0 [] [] []] (mask 11) 200 11 [.ptr 1 0,.str m] [(0,.cells true ordC),(1,.cells false (stC s++exC 2 se ep ot))] 2)
noncomputable def ob15:List Bool:=[pB φ 202 (v3 φ s se ep m) 0 [] [] [] (sl m 32 (m.length:Int)) 370 (vh s se ep ot),inS m 32 (m.length:Int),aB φ 202 (v2 φ s ep m) 0 [] [] [] se (sl m 0 32) 346 (vh s se ep ot),inS m 0 32,aB φ 202 (v1 φ s m) 0 [] [] [] ep (sl m 0 32) 290 (vh s se ep ot),inS m 0 32,mB φ 202 s 0 [] [] [] (sl m 0 32) 234 (vh s se ep ot),inS m 0 32,!(ltB2 m 48),!(gtB m 4144),!(noB s.h)]
theorem run15a:run15 φ s se ep ot m [true]=some (.tup [.agg got0,.int .i64 1],vo s se ep ot,[noB s.h]):=by kernel_rfl
theorem run15b:run15 φ s se ep ot m [false,true]=some (.tup [.agg got0,.int .i64 4],vo s se ep ot,[gtB m 4144,!(noB s.h)]):=by kernel_rfl
theorem run15c:run15 φ s se ep ot m [false,false,true]=some (.tup [.agg got0,.int .i64 7],vo s se ep ot,[ltB2 m 48,!(gtB m 4144),!(noB s.h)]):=by kernel_rfl
theorem run15d:run15 φ s se ep ot m [false,false,false,true]=some (.tup [.agg got0,.int .i64 (v4 φ s se ep m).f],vo s se ep ot,(!(eI (v4 φ s se ep m).f 0))::ob15 φ s se ep ot m):=by kernel_rfl
theorem run15e:run15 φ s se ep ot m [false,false,false,false]=some (.tup [.agg (gotC ot (vc φ s se ep m) (kc0 φ.w (v4 φ s se ep m).ck []) (kc1 φ.w (v4 φ s se ep m).ck []) (v4 φ s se ep m).h),.int .i64 0],vo s se ep ot,kB φ 202 (v4 φ s se ep m) 0 [] [] [] 410 (vh s se ep ot)::(!(!(eI (v4 φ s se ep m).f 0)))::ob15 φ s se ep ot m):=by kernel_rfl
theorem run15n:(run1 Tryd.prog (csN4 φ) (mask 11) 200 11 [.nilPtr,.str m] [] 1).map (·.1)=some (.tup [.agg got0,.int .i64 1]):=by kernel_rfl
end
end Go.Proofs.YtcplgmgpagekfaaDoor
