/- Texts Ed1, Eng30, GeA, GeB, GeD, GeE, GeC, GeF, Ed2, GeG, Gsh: what they show that this claim uses. -/
import Derived.Test.YtcjkbimdmcfppaaGreatDoorS7
import Derived.Test.YtcjkbimdmcfppaaGreatDoorS4
import Derived.Test.YtcjkbimdmcfppaaGreatDoorS5
import Derived.Test.YtcjkbimdmcfppaaGreatDoorS6
import Derived.Shelf.Strings.Repeat
set_option maxRecDepth 100000
set_option maxHeartbeats 1000000
set_option linter.unusedVariables false
set_option linter.unusedSimpArgs false
namespace Go.Num
open Go Go.Eng
structure Fe where
 add:E5→E5→E5
 sub:E5→E5→E5
 mul:E5→E5→E5
 neg:E5→E5
 inv:E5→E5
 same:E5→E5→Bool
 odd:E5→Bool
 small:UInt32→E5
 root:E5→E5
 has:E5→Bool
 of:List UInt8→E5
 ofR:List UInt8→Int
 canon:List UInt8→Bool
 byE:E5→Nat→UInt8
 addN:N16→N16→N16
 subN:N16→N16→N16
 mulN:N16→N16→N16
 negN:N16→N16
 invN:N16→N16
 rootN:N16→N16
 hasN:N16→Bool
 smallN:UInt32→N16
 ofN:List UInt8→N16
 canonN:List UInt8→Bool
 byN:N16→Nat→UInt8
 ok:N16→Bool
 l32:List UInt8→Bool
 sby:W4→Nat→UInt8
def realFe:Fe:=⟨addE,subE,mulE,negE,invE,sameE,oddE,smallE,rootE,hasE,ofEl,ofEr,canonE,fun a i=>byteE (reducedE a) i,addP,subP,mulP,negP,invP,rootP,hasP,smallN,ofP,canonP,fun a i=>(shr_u64 (a.list.getD (i / 2) 0) (i % 2 * 8)).toUInt8,okB,fun s=>isLen s 32,fun a i=>(shr_u64 (wordAt a (i / 8)) (i % 8 * 8)).toUInt8⟩
def opsφ (φ:Fe):Ops E5:=⟨φ.add,φ.sub,φ.mul,φ.small,zeroE⟩
def opsφN (φ:Fe):Ops N16:=⟨φ.addN,φ.subN,φ.mulN,φ.smallN,zeroN⟩
def dBytes:List UInt8:=[0xa3,0x78,0x59,0x13,0xca,0x4d,0xeb,0x75,0xab,0xd8,0x41,0x41,0x4d,0x0a,0x70,0x00,0x98,0xe8,0x79,0x77,0x79,0x40,0xc7,0x8c,0x73,0xfe,0x6f,0x2b,0xee,0x6c,0x03,0x52]
def pCells (p:P4 E5):List AVal:=[.u64 p.x.x0,.u64 p.x.x1,.u64 p.x.x2,.u64 p.x.x3,.u64 p.x.x4,.u64 p.y.x0,.u64 p.y.x1,.u64 p.y.x2,.u64 p.y.x3,.u64 p.y.x4,.u64 p.z.x0,.u64 p.z.x1,.u64 p.z.x2,.u64 p.z.x3,.u64 p.z.x4,.u64 p.t.x0,.u64 p.t.x1,.u64 p.t.x2,.u64 p.t.x3,.u64 p.t.x4]
def qCells (p:P4 N16):List AVal:=[.u64 p.x.x0,.u64 p.x.x1,.u64 p.x.x2,.u64 p.x.x3,.u64 p.x.x4,.u64 p.x.x5,.u64 p.x.x6,.u64 p.x.x7,.u64 p.x.x8,.u64 p.x.x9,.u64 p.x.x10,.u64 p.x.x11,.u64 p.x.x12,.u64 p.x.x13,.u64 p.x.x14,.u64 p.x.x15,.u64 p.y.x0,.u64 p.y.x1,.u64 p.y.x2,.u64 p.y.x3,.u64 p.y.x4,.u64 p.y.x5,.u64 p.y.x6,.u64 p.y.x7,.u64 p.y.x8,.u64 p.y.x9,.u64 p.y.x10,.u64 p.y.x11,.u64 p.y.x12,.u64 p.y.x13,.u64 p.y.x14,.u64 p.y.x15,.u64 p.z.x0,.u64 p.z.x1,.u64 p.z.x2,.u64 p.z.x3,.u64 p.z.x4,.u64 p.z.x5,.u64 p.z.x6,.u64 p.z.x7,.u64 p.z.x8,.u64 p.z.x9,.u64 p.z.x10,.u64 p.z.x11,.u64 p.z.x12,.u64 p.z.x13,.u64 p.z.x14,.u64 p.z.x15,.u64 p.t.x0,.u64 p.t.x1,.u64 p.t.x2,.u64 p.t.x3,.u64 p.t.x4,.u64 p.t.x5,.u64 p.t.x6,.u64 p.t.x7,.u64 p.t.x8,.u64 p.t.x9,.u64 p.t.x10,.u64 p.t.x11,.u64 p.t.x12,.u64 p.t.x13,.u64 p.t.x14,.u64 p.t.x15]
def pAv (p:P4 E5):AVal:=.agg (pCells p)
def qAv (p:P4 N16):AVal:=.agg (qCells p)
section
variable (φ:Fe)
def emptyE:P4 E5:=⟨zeroE,zeroE,zeroE,zeroE⟩
def zeroφ:P4 E5:=⟨zeroE,φ.small 1,φ.small 1,zeroE⟩
def noneφ (p:P4 E5):Bool:=φ.same p.z zeroE
def curveφ:E5:=φ.of dBytes
def addφ (p q:P4 E5):P4 E5:=cond (noneφ φ p) emptyE (cond (noneφ φ q) emptyE (addO (opsφ φ) (curveφ φ) p q))
def negφ (p:P4 E5):P4 E5:=cond (noneφ φ p) emptyE (negO φ.neg p)
def sameφ (p q:P4 E5):Bool:=cond (noneφ φ p) false (cond (noneφ φ q) false (cond (φ.same (φ.mul p.x q.z) (φ.mul q.x p.z)) (φ.same (φ.mul p.y q.z) (φ.mul q.y p.z)) false))
def byLφ (a:E5):List UInt8:=(List.range 32).map (φ.byE a)
def top128 (l:List UInt8):List UInt8:=l.set 31 (l.getD 31 0 ||| 128)
def bytesφ (p:P4 E5):List UInt8:=cond (noneφ φ p) [] (cond (φ.odd (φ.mul p.x (φ.inv p.z))) (top128 (byLφ φ (φ.mul p.y (φ.inv p.z)))) (byLφ φ (φ.mul p.y (φ.inv p.z))))
def yφ (s:List UInt8):E5:=φ.of (topL s)
def vφ (s:List UInt8):E5:=φ.add (φ.mul (curveφ φ) (φ.mul (yφ φ s) (yφ φ s))) (φ.small 1)
def uφ (s:List UInt8):E5:=φ.mul (φ.sub (φ.mul (yφ φ s) (yφ φ s)) (φ.small 1)) (φ.inv (vφ φ s))
def decOdd (s:List UInt8):Bool:=shr_u8 (s.getD 31 0) 7 == 1
def xφ (s:List UInt8):E5:=cond (decOdd s) (φ.neg (φ.root (uφ φ s))) (φ.root (uφ φ s))
def okφ (s:List UInt8):Bool:=cond (φ.canon (topL s)) (cond (φ.has (uφ φ s)) (cond (decOdd s) (!φ.same (φ.root (uφ φ s)) zeroE) true) false) false
def decPφ (s:List UInt8):P4 E5:=⟨xφ φ s,yφ φ s,φ.small 1,φ.mul (xφ φ s) (yφ φ s)⟩
def decφ (s:List UInt8):P4 E5:=cond (isLen s 32) (cond (okφ φ s) (decPφ φ s) emptyE) emptyE
def decRφ (s:List UInt8):Int:=cond (isLen s 32) (cond (okφ φ s) 0 40) 2
def emptyN:P4 N16:=⟨zeroN,zeroN,zeroN,zeroN⟩
def zeroψ:P4 N16:=⟨zeroN,φ.smallN 1,φ.smallN 1,zeroN⟩
def givenφ:N16:=φ.ofN dBytes
def dφ:N16:=φ.mulN (φ.negN (φ.smallN 121665)) (φ.invN (φ.smallN 121666))
def teesφ (p q:P4 N16):N16:=φ.mulN (φ.mulN (givenφ φ) p.t) q.t
def addψ (p q:P4 N16):P4 N16:=addO (opsφN φ) (givenφ φ) p q
def negψ (p:P4 N16):P4 N16:=negO φ.negN p
def sameψ (p q:P4 N16):Bool:=cond (samP (φ.mulN p.x q.z) (φ.mulN q.x p.z)) (samP (φ.mulN p.y q.z) (φ.mulN q.y p.z)) false
def byLψ (a:N16):List UInt8:=(List.range 32).map (φ.byN a)
def bytesψ (p:P4 N16):List UInt8:=(byLψ φ (φ.mulN p.y (φ.invN p.z))).set 31 ((byLψ φ (φ.mulN p.y (φ.invN p.z))).getD 31 0 ||| shl_u8 ((φ.mulN p.x (φ.invN p.z)).x0 &&& 1).toUInt8 7)
def onψ (p:P4 N16):Bool:=samP (φ.mulN (φ.subN (φ.mulN p.y p.y) (φ.mulN p.x p.x)) (φ.mulN p.z p.z)) (φ.addN (φ.mulN (φ.mulN p.z p.z) (φ.mulN p.z p.z)) (φ.mulN (φ.mulN (givenφ φ) (φ.mulN p.x p.x)) (φ.mulN p.y p.y)))
def yψ (s:List UInt8):N16:=φ.ofN (topL s)
def vψ (s:List UInt8):N16:=φ.addN (φ.mulN (dφ φ) (φ.mulN (yψ φ s) (yψ φ s))) (φ.smallN 1)
def uψ (s:List UInt8):N16:=φ.mulN (φ.subN (φ.mulN (yψ φ s) (yψ φ s)) (φ.smallN 1)) (φ.invN (vψ φ s))
def xψ (s:List UInt8):N16:=cond (decOdd s) (φ.negN (φ.rootN (uψ φ s))) (φ.rootN (uψ φ s))
def okψ (s:List UInt8):Bool:=cond (φ.canonN (topL s)) (cond (φ.hasN (uψ φ s)) (cond (samP (φ.rootN (uψ φ s)) zeroN) (!decOdd s) true) false) false
def ofXYψ (x y:N16):P4 N16:=⟨x,y,φ.smallN 1,φ.mulN x y⟩
def decψ (s:List UInt8):P4 N16:=cond (isLen s 32) (cond (okψ φ s) (ofXYψ φ (xψ φ s) (yψ φ s)) emptyN) emptyN
def decRψ (s:List UInt8):Int:=cond (isLen s 32) (cond (okψ φ s) 0 40) 2
end
def okQ0 (φ:Fe) (p:P4 N16):Bool:=φ.ok p.x && (φ.ok p.y && (φ.ok p.z && φ.ok p.t))
def baseL:List UInt8:=0x58::List.replicate 31 0x66
def partN (n:N16) (k:Nat):UInt64:=n.list.getD k 0
def bitN16 (n:N16) (i:Nat):Bool:=(shr_u64 (partN n (i / 16)) (i % 16) &&& 1) == 1
def iterG {R:Type}(add:R→R→R) (zero p:R) (bit:Nat→Bool):Nat→R
 | 0=>zero
 | j+1=>cond (bit (255 - j)) (add (add (iterG add zero p bit j) (iterG add zero p bit j)) p) (add (iterG add zero p bit j) (iterG add zero p bit j))
theorem eq_range {α:Type}(d:α) (l:List α) (n:Nat) (h:l.length=n):l=(List.range n).map fun i=>l.getD i d:=by
 subst h
 apply List.ext_getElem?
 intro i
 by_cases hi:i < l.length
 ·simp [hi,List.getD]
 ·simp [hi]
def wordsN (n:Nat) (v:AVal):Option (List UInt64):=match v with
 | .agg cs=>match words64 cs with
  | some l=>cond (Nat.beq l.length n) (some l) none
  | none=>none
 | _=>none
theorem wordsN_eq {n:Nat}{v:AVal}{l:List UInt64}(h:wordsN n v=some l):v=.agg (((List.range n).map fun i=>l.getD i 0).map .u64):=by
 unfold wordsN at h
 split at h
 ·split at h
  ·rename_i cs l' hl
   cases hb:Nat.beq l'.length n with
   | false=>rw [hb] at h; cases h
   | true =>
    rw [hb] at h
    cases h
    rw [← eq_range 0 l n (Nat.eq_of_beq_eq_true hb),words64_eq hl]
  ·cases h
 ·cases h
def qOf (v:AVal):Option (P4 N16):=match wordsN 64 v with
 | some l=>some ⟨⟨l.getD 0 0,l.getD 1 0,l.getD 2 0,l.getD 3 0,l.getD 4 0,l.getD 5 0,l.getD 6 0,l.getD 7 0,l.getD 8 0,l.getD 9 0,l.getD 10 0,l.getD 11 0,l.getD 12 0,l.getD 13 0,l.getD 14 0,l.getD 15 0⟩,⟨l.getD 16 0,l.getD 17 0,l.getD 18 0,l.getD 19 0,l.getD 20 0,l.getD 21 0,l.getD 22 0,l.getD 23 0,l.getD 24 0,l.getD 25 0,l.getD 26 0,l.getD 27 0,l.getD 28 0,l.getD 29 0,l.getD 30 0,l.getD 31 0⟩,⟨l.getD 32 0,l.getD 33 0,l.getD 34 0,l.getD 35 0,l.getD 36 0,l.getD 37 0,l.getD 38 0,l.getD 39 0,l.getD 40 0,l.getD 41 0,l.getD 42 0,l.getD 43 0,l.getD 44 0,l.getD 45 0,l.getD 46 0,l.getD 47 0⟩,⟨l.getD 48 0,l.getD 49 0,l.getD 50 0,l.getD 51 0,l.getD 52 0,l.getD 53 0,l.getD 54 0,l.getD 55 0,l.getD 56 0,l.getD 57 0,l.getD 58 0,l.getD 59 0,l.getD 60 0,l.getD 61 0,l.getD 62 0,l.getD 63 0⟩⟩
 | none=>none
theorem qOf_eq {v:AVal}{p:P4 N16}(h:qOf v=some p):v=qAv p:=by
 unfold qOf at h
 split at h
 ·rename_i l hl
  cases h
  exact wordsN_eq hl
 ·cases h
def pOf (v:AVal):Option (P4 E5):=match wordsN 20 v with
 | some l=>some ⟨⟨l.getD 0 0,l.getD 1 0,l.getD 2 0,l.getD 3 0,l.getD 4 0⟩,⟨l.getD 5 0,l.getD 6 0,l.getD 7 0,l.getD 8 0,l.getD 9 0⟩,⟨l.getD 10 0,l.getD 11 0,l.getD 12 0,l.getD 13 0,l.getD 14 0⟩,⟨l.getD 15 0,l.getD 16 0,l.getD 17 0,l.getD 18 0,l.getD 19 0⟩⟩
 | none=>none
theorem pOf_eq {v:AVal}{p:P4 E5}(h:pOf v=some p):v=pAv p:=by
 unfold pOf at h
 split at h
 ·rename_i l hl
  cases h
  exact wordsN_eq hl
 ·cases h
def nOf (v:AVal):Option N16:=match wordsN 16 v with
 | some l=>some ⟨l.getD 0 0,l.getD 1 0,l.getD 2 0,l.getD 3 0,l.getD 4 0,l.getD 5 0,l.getD 6 0,l.getD 7 0,l.getD 8 0,l.getD 9 0,l.getD 10 0,l.getD 11 0,l.getD 12 0,l.getD 13 0,l.getD 14 0,l.getD 15 0⟩
 | none=>none
theorem nOf_eq {v:AVal}{p:N16}(h:nOf v=some p):v=p.av:=by
 unfold nOf at h
 split at h
 ·rename_i l hl
  cases h
  exact wordsN_eq hl
 ·cases h
def wOf (v:AVal):Option W4:=match wordsN 4 v with
 | some l=>some ⟨l.getD 0 0,l.getD 1 0,l.getD 2 0,l.getD 3 0⟩
 | none=>none
theorem wOf_eq {v:AVal}{p:W4}(h:wOf v=some p):v=p.av:=by
 unfold wOf at h
 split at h
 ·rename_i l hl
  cases h
  exact wordsN_eq hl
 ·cases h
def sOf (v:AVal):Option (List UInt8):=match v with
 | .str s=>some s
 | _=>none
theorem sOf_eq {v:AVal}{p:List UInt8}(h:sOf v=some p):v=.str p:=by
 unfold sOf at h
 split at h
 ·cases h; rfl
 ·cases h
end Go.Num
namespace Go.Eng
open Go
noncomputable def endO (P:Program) (ps:PS) (cs:CS) (sy:List Nat) (fn:Func) (nn F bs id:Nat) (b:Code) (l:List Code) (s:SA) (q:OS):Option (AVal × List Bool):=
 match evT P ps cs sy fn.ntmps nn F bs b s q with
 | some (.exit id',s1,q1)=>cond (Nat.beq id' id) (ansF P fn (evSO P ps cs sy fn.ntmps nn F bs l s1 q1)) none
 | _=>none
theorem ansF_ok2 {P:Program}{ps:PS}{cs:CS}(hps:PSOk ps cs){sy:List Nat}{fn:Func}{nt nn F bs:Nat}{l:List Code}{s:SA}{q:OS}{v:AVal}{ob:List Bool}(h:ansF P fn (evSO P ps cs sy nt nn F bs l s q)=some (v,ob)) (ha:allT ob=true):finV P fn (evS P cs nt nn F bs l s)=some v∧allT q.ob=true:=by
 cases hx:evSO P ps cs sy nt nn F bs l s q with
 | none=>rw [hx] at h; cases h
 | some r =>
  obtain ⟨x,s',q'⟩:=r
  rw [hx] at h
  have hq:q'.ob=ob:=by
   unfold ansF at h
   cases hv:finV P fn (some (x,s')) with
   | none=>simp only [hv] at h; cases h
   | some u =>
    simp only [hv,Option.some.injEq,Prod.mk.injEq] at h
    exact h.2
  have h2:=evSO_ok hps l s q x s' q' hx (by rw [hq]; exact ha)
  refine ⟨?_,h2.2⟩
  rw [h2.1]
  unfold ansF at h
  cases hv:finV P fn (some (x,s')) with
  | none=>simp only [hv] at h; cases h
  | some u =>
   simp only [hv,Option.some.injEq,Prod.mk.injEq] at h
   rw [h.1]
theorem endO_ok {P:Program}{ps:PS}{cs:CS}(hps:PSOk ps cs){sy:List Nat}{fn:Func}{nn F bs id:Nat}{b:Code}{l:List Code}{s:SA}{os:List Bool}{vs:List AVal}{v:AVal}{ob:List Bool}(h:endO P ps cs sy fn nn F bs id b l s ⟨os,vs,[]⟩=some (v,ob)) (ha:allT ob=true) :
  ∃ s1,evC P cs fn.ntmps nn F bs b s=some (.exit id,s1)∧finV P fn (evS P cs fn.ntmps nn F bs l s1)=some v:=by
 unfold endO at h
 split at h
 ·rename_i id' s1 q1 he
  cases hb:Nat.beq id' id with
  | false=>rw [hb] at h; cases h
  | true =>
   rw [hb,cond_true] at h
   have:=Nat.eq_of_beq_eq_true hb
   subst this
   obtain ⟨h1,h2⟩:=ansF_ok2 hps h ha
   exact ⟨s1,(evT_ok hps b _ _ _ _ _ he h2).1,h1⟩
 ·cases h
theorem segO_pre {P:Program}{ps:PS}{cs:CS}(hps:PSOk ps cs){sy:List Nat}{nt nn F bs:Nat}{l:List Code}{s s':SA}{os:List Bool}{vs:List AVal}{ob:List Bool}(h:segO (evSO P ps cs sy nt nn F bs l s ⟨os,vs,[]⟩)=some (s',ob)) (ha:allT ob=true):evS P cs nt nn F bs l s=some (.normal,s'):=by
 unfold segO at h
 split at h
 ·rename_i s1 q he
  simp only [Option.some.injEq,Prod.mk.injEq] at h
  obtain ⟨rfl,rfl⟩:=h
  exact (evSO_ok hps _ _ _ _ _ _ he ha).1
 ·cases h
theorem run_loopO {P:Program}{ps:PS}{cs:CS}(hps:PSOk ps cs){nn F:Nat}{f:FuncId}{fn:Func}{c:Code}{args:List AVal}{H:HL}{fr:Nat}(hf:P.funcs[f]? = some fn) (hb:fn.body=some c) (hn:Nat.ble args.length fn.ntmps=true)
  (k:Nat) {id:Nat} {b:Code} (hk:(pieces c)[k]? = some (.block id (.loop b))) (I:Nat→SA) (N:Nat) {sy0 sy1:List Nat} {os0 os1:List Bool} {vs0 vs1:List AVal} {ob0 ob1:List Bool}
  (hpre:segO (evSO P ps cs sy0 fn.ntmps nn F fr ((pieces c).take k) ⟨startT args 0,H,fr⟩ ⟨os0,vs0,[]⟩)=some (I 0,ob0)) (ha0:allT ob0=true)
  (hstep:∀ j,j < N→roundA (evC P cs fn.ntmps nn F fr b) (headA P fr (I 0)) (I j)=some (I (j+1)))
  {v:AVal} (hend:endO P ps cs sy1 fn nn F fr id b ((pieces c).drop (k+1)) (I N) ⟨os1,vs1,[]⟩=some (v,ob1)) (ha1:allT ob1=true) (hF:N < F):(run1 P cs nn F f args H fr).map (·.1)=some v:=by
 obtain ⟨s1,h1,h2⟩:=endO_ok hps hend ha1
 exact run_loop hf hb hn k hk I N (segO_pre hps hpre ha0) hstep h1 hF h2
theorem isAt_of {c:List AVal}{off:Nat}{v:AVal}(h:c[off]? = some v) (hv:eqS v v=true):isAt c off v=true:=by
 unfold isAt
 rw [h]; exact hv
end Go.Eng
namespace Go.Proofs.YtcjkbimdmcfppaaGreatDoor
open Go Go.Eng Go.Num
def q71 (φ:Fe):List AVal→Option EffA
 | [.agg [.u64 a0,.u64 a1,.u64 a2,.u64 a3,.u64 a4],.agg [.u64 b0,.u64 b1,.u64 b2,.u64 b3,.u64 b4]]=>some (.pure (E5.av (φ.add (E5.mk a0 a1 a2 a3 a4) (E5.mk b0 b1 b2 b3 b4))))
 | _=>none
theorem q71_ok:CSOk Tryz.prog (csOne 71 (q71 realFe)):=csOne_ok fun args e he=>by
 unfold q71 at he
 split at he
 ·rename_i a0 a1 a2 a3 a4 b0 b1 b2 b3 b4
  cases he
  exact g71_ok 71 [(E5.av (E5.mk a0 a1 a2 a3 a4)),(E5.av (E5.mk b0 b1 b2 b3 b4))] _ rfl
 ·cases he
def q84 (φ:Fe):List AVal→Option (EffA × Bool)
 | [.agg [.u64 a0,.u64 a1,.u64 a2,.u64 a3,.u64 a4,.u64 a5,.u64 a6,.u64 a7,.u64 a8,.u64 a9,.u64 a10,.u64 a11,.u64 a12,.u64 a13,.u64 a14,.u64 a15],.agg [.u64 b0,.u64 b1,.u64 b2,.u64 b3,.u64 b4,.u64 b5,.u64 b6,.u64 b7,.u64 b8,.u64 b9,.u64 b10,.u64 b11,.u64 b12,.u64 b13,.u64 b14,.u64 b15]]=>some (.pure (N16.av (φ.addN (N16.mk a0 a1 a2 a3 a4 a5 a6 a7 a8 a9 a10 a11 a12 a13 a14 a15) (N16.mk b0 b1 b2 b3 b4 b5 b6 b7 b8 b9 b10 b11 b12 b13 b14 b15))),(φ.ok (N16.mk a0 a1 a2 a3 a4 a5 a6 a7 a8 a9 a10 a11 a12 a13 a14 a15) && φ.ok (N16.mk b0 b1 b2 b3 b4 b5 b6 b7 b8 b9 b10 b11 b12 b13 b14 b15)))
 | _=>none
theorem q84_ok:CSOk Tryz.prog (csP (psOne 84 (q84 realFe))):=csP_one fun args v he=>by
 unfold q84 at he
 split at he
 ·rename_i a0 a1 a2 a3 a4 a5 a6 a7 a8 a9 a10 a11 a12 a13 a14 a15 b0 b1 b2 b3 b4 b5 b6 b7 b8 b9 b10 b11 b12 b13 b14 b15
  simp only [Option.some.injEq,Prod.mk.injEq] at he
  obtain ⟨rfl,h⟩:=he
  have h2:(realFe.ok (N16.mk a0 a1 a2 a3 a4 a5 a6 a7 a8 a9 a10 a11 a12 a13 a14 a15) && realFe.ok (N16.mk b0 b1 b2 b3 b4 b5 b6 b7 b8 b9 b10 b11 b12 b13 b14 b15))=true:=h
  refine p84_ok 84 [(N16.av (N16.mk a0 a1 a2 a3 a4 a5 a6 a7 a8 a9 a10 a11 a12 a13 a14 a15)),(N16.av (N16.mk b0 b1 b2 b3 b4 b5 b6 b7 b8 b9 b10 b11 b12 b13 b14 b15))] _ ?_
  show cond ((realFe.ok (N16.mk a0 a1 a2 a3 a4 a5 a6 a7 a8 a9 a10 a11 a12 a13 a14 a15) && realFe.ok (N16.mk b0 b1 b2 b3 b4 b5 b6 b7 b8 b9 b10 b11 b12 b13 b14 b15))) _ _=_
  rw [h2]; rfl
 ·cases he
def q73 (φ:Fe):List AVal→Option EffA
 | [.agg [.u64 a0,.u64 a1,.u64 a2,.u64 a3,.u64 a4],.agg [.u64 b0,.u64 b1,.u64 b2,.u64 b3,.u64 b4]]=>some (.pure (E5.av (φ.sub (E5.mk a0 a1 a2 a3 a4) (E5.mk b0 b1 b2 b3 b4))))
 | _=>none
theorem q73_ok:CSOk Tryz.prog (csOne 73 (q73 realFe)):=csOne_ok fun args e he=>by
 unfold q73 at he
 split at he
 ·rename_i a0 a1 a2 a3 a4 b0 b1 b2 b3 b4
  cases he
  exact g73_ok 73 [(E5.av (E5.mk a0 a1 a2 a3 a4)),(E5.av (E5.mk b0 b1 b2 b3 b4))] _ rfl
 ·cases he
def q81 (φ:Fe):List AVal→Option (EffA × Bool)
 | [.agg [.u64 a0,.u64 a1,.u64 a2,.u64 a3,.u64 a4,.u64 a5,.u64 a6,.u64 a7,.u64 a8,.u64 a9,.u64 a10,.u64 a11,.u64 a12,.u64 a13,.u64 a14,.u64 a15],.agg [.u64 b0,.u64 b1,.u64 b2,.u64 b3,.u64 b4,.u64 b5,.u64 b6,.u64 b7,.u64 b8,.u64 b9,.u64 b10,.u64 b11,.u64 b12,.u64 b13,.u64 b14,.u64 b15]]=>some (.pure (N16.av (φ.subN (N16.mk a0 a1 a2 a3 a4 a5 a6 a7 a8 a9 a10 a11 a12 a13 a14 a15) (N16.mk b0 b1 b2 b3 b4 b5 b6 b7 b8 b9 b10 b11 b12 b13 b14 b15))),(φ.ok (N16.mk a0 a1 a2 a3 a4 a5 a6 a7 a8 a9 a10 a11 a12 a13 a14 a15) && φ.ok (N16.mk b0 b1 b2 b3 b4 b5 b6 b7 b8 b9 b10 b11 b12 b13 b14 b15)))
 | _=>none
theorem q81_ok:CSOk Tryz.prog (csP (psOne 81 (q81 realFe))):=csP_one fun args v he=>by
 unfold q81 at he
 split at he
 ·rename_i a0 a1 a2 a3 a4 a5 a6 a7 a8 a9 a10 a11 a12 a13 a14 a15 b0 b1 b2 b3 b4 b5 b6 b7 b8 b9 b10 b11 b12 b13 b14 b15
  simp only [Option.some.injEq,Prod.mk.injEq] at he
  obtain ⟨rfl,h⟩:=he
  have h2:(realFe.ok (N16.mk a0 a1 a2 a3 a4 a5 a6 a7 a8 a9 a10 a11 a12 a13 a14 a15) && realFe.ok (N16.mk b0 b1 b2 b3 b4 b5 b6 b7 b8 b9 b10 b11 b12 b13 b14 b15))=true:=h
  refine p81_ok 81 [(N16.av (N16.mk a0 a1 a2 a3 a4 a5 a6 a7 a8 a9 a10 a11 a12 a13 a14 a15)),(N16.av (N16.mk b0 b1 b2 b3 b4 b5 b6 b7 b8 b9 b10 b11 b12 b13 b14 b15))] _ ?_
  show cond ((realFe.ok (N16.mk a0 a1 a2 a3 a4 a5 a6 a7 a8 a9 a10 a11 a12 a13 a14 a15) && realFe.ok (N16.mk b0 b1 b2 b3 b4 b5 b6 b7 b8 b9 b10 b11 b12 b13 b14 b15))) _ _=_
  rw [h2]; rfl
 ·cases he
def q58 (φ:Fe):List AVal→Option EffA
 | [.agg [.u64 a0,.u64 a1,.u64 a2,.u64 a3,.u64 a4],.agg [.u64 b0,.u64 b1,.u64 b2,.u64 b3,.u64 b4]]=>some (.pure (E5.av (φ.mul (E5.mk a0 a1 a2 a3 a4) (E5.mk b0 b1 b2 b3 b4))))
 | _=>none
theorem q58_ok:CSOk Tryz.prog (csOne 58 (q58 realFe)):=csOne_ok fun args e he=>by
 unfold q58 at he
 split at he
 ·rename_i a0 a1 a2 a3 a4 b0 b1 b2 b3 b4
  cases he
  exact g58_ok 58 [(E5.av (E5.mk a0 a1 a2 a3 a4)),(E5.av (E5.mk b0 b1 b2 b3 b4))] _ rfl
 ·cases he
def q50 (φ:Fe):List AVal→Option (EffA × Bool)
 | [.agg [.u64 a0,.u64 a1,.u64 a2,.u64 a3,.u64 a4,.u64 a5,.u64 a6,.u64 a7,.u64 a8,.u64 a9,.u64 a10,.u64 a11,.u64 a12,.u64 a13,.u64 a14,.u64 a15],.agg [.u64 b0,.u64 b1,.u64 b2,.u64 b3,.u64 b4,.u64 b5,.u64 b6,.u64 b7,.u64 b8,.u64 b9,.u64 b10,.u64 b11,.u64 b12,.u64 b13,.u64 b14,.u64 b15]]=>some (.pure (N16.av (φ.mulN (N16.mk a0 a1 a2 a3 a4 a5 a6 a7 a8 a9 a10 a11 a12 a13 a14 a15) (N16.mk b0 b1 b2 b3 b4 b5 b6 b7 b8 b9 b10 b11 b12 b13 b14 b15))),(φ.ok (N16.mk a0 a1 a2 a3 a4 a5 a6 a7 a8 a9 a10 a11 a12 a13 a14 a15) && φ.ok (N16.mk b0 b1 b2 b3 b4 b5 b6 b7 b8 b9 b10 b11 b12 b13 b14 b15)))
 | _=>none
theorem q50_ok:CSOk Tryz.prog (csP (psOne 50 (q50 realFe))):=csP_one fun args v he=>by
 unfold q50 at he
 split at he
 ·rename_i a0 a1 a2 a3 a4 a5 a6 a7 a8 a9 a10 a11 a12 a13 a14 a15 b0 b1 b2 b3 b4 b5 b6 b7 b8 b9 b10 b11 b12 b13 b14 b15
  simp only [Option.some.injEq,Prod.mk.injEq] at he
  obtain ⟨rfl,h⟩:=he
  have h2:(realFe.ok (N16.mk a0 a1 a2 a3 a4 a5 a6 a7 a8 a9 a10 a11 a12 a13 a14 a15) && realFe.ok (N16.mk b0 b1 b2 b3 b4 b5 b6 b7 b8 b9 b10 b11 b12 b13 b14 b15))=true:=h
  refine p50_ok 50 [(N16.av (N16.mk a0 a1 a2 a3 a4 a5 a6 a7 a8 a9 a10 a11 a12 a13 a14 a15)),(N16.av (N16.mk b0 b1 b2 b3 b4 b5 b6 b7 b8 b9 b10 b11 b12 b13 b14 b15))] _ ?_
  show cond ((realFe.ok (N16.mk a0 a1 a2 a3 a4 a5 a6 a7 a8 a9 a10 a11 a12 a13 a14 a15) && realFe.ok (N16.mk b0 b1 b2 b3 b4 b5 b6 b7 b8 b9 b10 b11 b12 b13 b14 b15))) _ _=_
  rw [h2]; rfl
 ·cases he
def q76 (φ:Fe):List AVal→Option EffA
 | [.agg [.u64 a0,.u64 a1,.u64 a2,.u64 a3,.u64 a4]]=>some (.pure (E5.av (φ.neg (E5.mk a0 a1 a2 a3 a4))))
 | _=>none
theorem q76_ok:CSOk Tryz.prog (csOne 76 (q76 realFe)):=csOne_ok fun args e he=>by
 unfold q76 at he
 split at he
 ·rename_i a0 a1 a2 a3 a4
  cases he
  exact g76_ok 76 [(E5.av (E5.mk a0 a1 a2 a3 a4))] _ rfl
 ·cases he
def q57 (φ:Fe):List AVal→Option EffA
 | [.agg [.u64 a0,.u64 a1,.u64 a2,.u64 a3,.u64 a4]]=>some (.pure (E5.av (φ.inv (E5.mk a0 a1 a2 a3 a4))))
 | _=>none
theorem q57_ok:CSOk Tryz.prog (csOne 57 (q57 realFe)):=csOne_ok fun args e he=>by
 unfold q57 at he
 split at he
 ·rename_i a0 a1 a2 a3 a4
  cases he
  exact g57_ok 57 [(E5.av (E5.mk a0 a1 a2 a3 a4))] _ rfl
 ·cases he
def q75 (φ:Fe):List AVal→Option EffA
 | [.agg [.u64 a0,.u64 a1,.u64 a2,.u64 a3,.u64 a4],.agg [.u64 b0,.u64 b1,.u64 b2,.u64 b3,.u64 b4]]=>some (.pure (.bool (φ.same (E5.mk a0 a1 a2 a3 a4) (E5.mk b0 b1 b2 b3 b4))))
 | _=>none
theorem q75_ok:CSOk Tryz.prog (csOne 75 (q75 realFe)):=csOne_ok fun args e he=>by
 unfold q75 at he
 split at he
 ·rename_i a0 a1 a2 a3 a4 b0 b1 b2 b3 b4
  cases he
  exact g75_ok 75 [(E5.av (E5.mk a0 a1 a2 a3 a4)),(E5.av (E5.mk b0 b1 b2 b3 b4))] _ rfl
 ·cases he
def q60 (φ:Fe):List AVal→Option EffA
 | [.agg [.u64 a0,.u64 a1,.u64 a2,.u64 a3,.u64 a4]]=>some (.pure (.bool (φ.odd (E5.mk a0 a1 a2 a3 a4))))
 | _=>none
theorem q60_ok:CSOk Tryz.prog (csOne 60 (q60 realFe)):=csOne_ok fun args e he=>by
 unfold q60 at he
 split at he
 ·rename_i a0 a1 a2 a3 a4
  cases he
  exact g60_ok 60 [(E5.av (E5.mk a0 a1 a2 a3 a4))] _ rfl
 ·cases he
def q72 (φ:Fe):List AVal→Option EffA
 | [.u32 a]=>some (.pure (E5.av (φ.small a)))
 | _=>none
theorem q72_ok:CSOk Tryz.prog (csOne 72 (q72 realFe)):=csOne_ok fun args e he=>by
 unfold q72 at he
 split at he
 ·rename_i a
  cases he
  exact g72_ok 72 [(.u32 a)] _ rfl
 ·cases he
def q74 (φ:Fe):List AVal→Option EffA
 | [.agg [.u64 a0,.u64 a1,.u64 a2,.u64 a3,.u64 a4]]=>some (.pure (.tup [(E5.av (φ.root (E5.mk a0 a1 a2 a3 a4))),.bool (φ.has (E5.mk a0 a1 a2 a3 a4))]))
 | _=>none
theorem q74_ok:CSOk Tryz.prog (csOne 74 (q74 realFe)):=csOne_ok fun args e he=>by
 unfold q74 at he
 split at he
 ·rename_i a0 a1 a2 a3 a4
  cases he
  exact g74_ok 74 [(E5.av (E5.mk a0 a1 a2 a3 a4))] _ rfl
 ·cases he
def q69 (φ:Fe):List AVal→Option EffA
 | [.str a]=>some (.pure (.tup [(E5.av (φ.of a)),.int .i64 (φ.ofR a)]))
 | _=>none
theorem q69_ok:CSOk Tryz.prog (csOne 69 (q69 realFe)):=csOne_ok fun args e he=>by
 unfold q69 at he
 split at he
 ·rename_i a
  cases he
  exact g69_ok 69 [(.str a)] _ rfl
 ·cases he
def q68 (φ:Fe):List AVal→Option EffA
 | [.str a]=>some (.pure (.bool (φ.canon a)))
 | _=>none
theorem q68_ok:CSOk Tryz.prog (csOne 68 (q68 realFe)):=csOne_ok fun args e he=>by
 unfold q68 at he
 split at he
 ·rename_i a
  cases he
  exact g68_ok 68 [(.str a)] _ rfl
 ·cases he
def q59 (φ:Fe):List AVal→Option EffA
 | [.agg [.u64 a0,.u64 a1,.u64 a2,.u64 a3,.u64 a4]]=>some (.pure (.str ((List.range 32).map (φ.byE (E5.mk a0 a1 a2 a3 a4)))))
 | _=>none
theorem q59_ok:CSOk Tryz.prog (csOne 59 (q59 realFe)):=csOne_ok fun args e he=>by
 unfold q59 at he
 split at he
 ·rename_i a0 a1 a2 a3 a4
  cases he
  exact g59_ok 59 [(E5.av (E5.mk a0 a1 a2 a3 a4))] _ rfl
 ·cases he
def q86 (φ:Fe):List AVal→Option EffA
 | [.agg [.u64 a0,.u64 a1,.u64 a2,.u64 a3,.u64 a4,.u64 a5,.u64 a6,.u64 a7,.u64 a8,.u64 a9,.u64 a10,.u64 a11,.u64 a12,.u64 a13,.u64 a14,.u64 a15]]=>some (.pure (N16.av (φ.negN (N16.mk a0 a1 a2 a3 a4 a5 a6 a7 a8 a9 a10 a11 a12 a13 a14 a15))))
 | _=>none
theorem q86_ok:CSOk Tryz.prog (csOne 86 (q86 realFe)):=csOne_ok fun args e he=>by
 unfold q86 at he
 split at he
 ·rename_i a0 a1 a2 a3 a4 a5 a6 a7 a8 a9 a10 a11 a12 a13 a14 a15
  cases he
  exact g86_ok 86 [(N16.av (N16.mk a0 a1 a2 a3 a4 a5 a6 a7 a8 a9 a10 a11 a12 a13 a14 a15))] _ rfl
 ·cases he
def q49 (φ:Fe):List AVal→Option (EffA × Bool)
 | [.agg [.u64 a0,.u64 a1,.u64 a2,.u64 a3,.u64 a4,.u64 a5,.u64 a6,.u64 a7,.u64 a8,.u64 a9,.u64 a10,.u64 a11,.u64 a12,.u64 a13,.u64 a14,.u64 a15]]=>some (.pure (N16.av (φ.invN (N16.mk a0 a1 a2 a3 a4 a5 a6 a7 a8 a9 a10 a11 a12 a13 a14 a15))),φ.ok (N16.mk a0 a1 a2 a3 a4 a5 a6 a7 a8 a9 a10 a11 a12 a13 a14 a15))
 | _=>none
theorem q49_ok:CSOk Tryz.prog (csP (psOne 49 (q49 realFe))):=csP_one fun args v he=>by
 unfold q49 at he
 split at he
 ·rename_i a0 a1 a2 a3 a4 a5 a6 a7 a8 a9 a10 a11 a12 a13 a14 a15
  simp only [Option.some.injEq,Prod.mk.injEq] at he
  obtain ⟨rfl,h⟩:=he
  have h2:realFe.ok (N16.mk a0 a1 a2 a3 a4 a5 a6 a7 a8 a9 a10 a11 a12 a13 a14 a15)=true:=h
  refine p49_ok 49 [(N16.av (N16.mk a0 a1 a2 a3 a4 a5 a6 a7 a8 a9 a10 a11 a12 a13 a14 a15))] _ ?_
  show cond (realFe.ok (N16.mk a0 a1 a2 a3 a4 a5 a6 a7 a8 a9 a10 a11 a12 a13 a14 a15)) _ _=_
  rw [h2]; rfl
 ·cases he
def q85 (φ:Fe):List AVal→Option (EffA × Bool)
 | [.agg [.u64 a0,.u64 a1,.u64 a2,.u64 a3,.u64 a4,.u64 a5,.u64 a6,.u64 a7,.u64 a8,.u64 a9,.u64 a10,.u64 a11,.u64 a12,.u64 a13,.u64 a14,.u64 a15]]=>some (.pure (.tup [(N16.av (φ.rootN (N16.mk a0 a1 a2 a3 a4 a5 a6 a7 a8 a9 a10 a11 a12 a13 a14 a15))),.bool (φ.hasN (N16.mk a0 a1 a2 a3 a4 a5 a6 a7 a8 a9 a10 a11 a12 a13 a14 a15))]),φ.ok (N16.mk a0 a1 a2 a3 a4 a5 a6 a7 a8 a9 a10 a11 a12 a13 a14 a15))
 | _=>none
theorem q85_ok:CSOk Tryz.prog (csP (psOne 85 (q85 realFe))):=csP_one fun args v he=>by
 unfold q85 at he
 split at he
 ·rename_i a0 a1 a2 a3 a4 a5 a6 a7 a8 a9 a10 a11 a12 a13 a14 a15
  simp only [Option.some.injEq,Prod.mk.injEq] at he
  obtain ⟨rfl,h⟩:=he
  have h2:realFe.ok (N16.mk a0 a1 a2 a3 a4 a5 a6 a7 a8 a9 a10 a11 a12 a13 a14 a15)=true:=h
  refine p85_ok 85 [(N16.av (N16.mk a0 a1 a2 a3 a4 a5 a6 a7 a8 a9 a10 a11 a12 a13 a14 a15))] _ ?_
  show cond (realFe.ok (N16.mk a0 a1 a2 a3 a4 a5 a6 a7 a8 a9 a10 a11 a12 a13 a14 a15)) _ _=_
  rw [h2]; rfl
 ·cases he
def q82 (φ:Fe):List AVal→Option EffA
 | [.u32 a]=>some (.pure (N16.av (φ.smallN a)))
 | _=>none
theorem q82_ok:CSOk Tryz.prog (csOne 82 (q82 realFe)):=csOne_ok fun args e he=>by
 unfold q82 at he
 split at he
 ·rename_i a
  cases he
  exact g82_ok 82 [(.u32 a)] _ rfl
 ·cases he
def q80 (φ:Fe):List AVal→Option (EffA × Bool)
 | [.str a]=>some (.pure (N16.av (φ.ofN a)),φ.l32 a)
 | _=>none
theorem q80_ok:CSOk Tryz.prog (csP (psOne 80 (q80 realFe))):=csP_one fun args v he=>by
 unfold q80 at he
 split at he
 ·rename_i a
  simp only [Option.some.injEq,Prod.mk.injEq] at he
  obtain ⟨rfl,h⟩:=he
  have h2:realFe.l32 a=true:=h
  refine p80_ok 80 [(.str a)] _ ?_
  show cond (realFe.l32 a) _ _=_
  rw [h2]; rfl
 ·cases he
def q79 (φ:Fe):List AVal→Option EffA
 | [.str a]=>some (.pure (.bool (φ.canonN a)))
 | _=>none
theorem q79_ok:CSOk Tryz.prog (csOne 79 (q79 realFe)):=csOne_ok fun args e he=>by
 unfold q79 at he
 split at he
 ·rename_i a
  cases he
  exact g79_ok 79 [(.str a)] _ rfl
 ·cases he
def q29 (φ:Fe):List AVal→Option EffA
 | [.agg [.u64 a0,.u64 a1,.u64 a2,.u64 a3,.u64 a4,.u64 a5,.u64 a6,.u64 a7,.u64 a8,.u64 a9,.u64 a10,.u64 a11,.u64 a12,.u64 a13,.u64 a14,.u64 a15]]=>some (.pure (.str ((List.range 32).map (φ.byN (N16.mk a0 a1 a2 a3 a4 a5 a6 a7 a8 a9 a10 a11 a12 a13 a14 a15)))))
 | _=>none
theorem q29_ok:CSOk Tryz.prog (csOne 29 (q29 realFe)):=csOne_ok fun args e he=>by
 unfold q29 at he
 split at he
 ·rename_i a0 a1 a2 a3 a4 a5 a6 a7 a8 a9 a10 a11 a12 a13 a14 a15
  cases he
  exact g29_ok 29 [(N16.av (N16.mk a0 a1 a2 a3 a4 a5 a6 a7 a8 a9 a10 a11 a12 a13 a14 a15))] _ rfl
 ·cases he
def q25 (φ:Fe):List AVal→Option EffA
 | [.agg [.u64 a0,.u64 a1,.u64 a2,.u64 a3]]=>some (.pure (.str ((List.range 32).map (φ.sby (W4.mk a0 a1 a2 a3)))))
 | _=>none
theorem q25_ok:CSOk Tryz.prog (csOne 25 (q25 realFe)):=csOne_ok fun args e he=>by
 unfold q25 at he
 split at he
 ·rename_i a0 a1 a2 a3
  cases he
  exact g25_ok 25 [(W4.av (W4.mk a0 a1 a2 a3))] _ rfl
 ·cases he
def psne (φ:Fe):PS:=(psAlt (psOne 84 (q84 φ)) (psAlt (psOne 81 (q81 φ)) (psAlt (psOne 50 (q50 φ)) (psAlt (psOne 49 (q49 φ)) (psAlt (psOne 85 (q85 φ)) (psOne 80 (q80 φ)))))))
theorem psne_ok:CSOk Tryz.prog (csP (psne realFe)):=(csP_alt q84_ok (csP_alt q81_ok (csP_alt q50_ok (csP_alt q49_ok (csP_alt q85_ok q80_ok)))))
def chne (φ:Fe):CS:=(csAlt (csOne 71 (q71 φ)) (csAlt (csOne 73 (q73 φ)) (csAlt (csOne 58 (q58 φ)) (csAlt (csOne 76 (q76 φ)) (csAlt (csOne 57 (q57 φ)) (csAlt (csOne 75 (q75 φ)) (csAlt (csOne 60 (q60 φ)) (csAlt (csOne 72 (q72 φ)) (csAlt (csOne 74 (q74 φ)) (csAlt (csOne 69 (q69 φ)) (csAlt (csOne 68 (q68 φ)) (csAlt (csOne 59 (q59 φ)) (csAlt (csOne 86 (q86 φ)) (csAlt (csOne 82 (q82 φ)) (csAlt (csOne 79 (q79 φ)) (csAlt (csOne 29 (q29 φ)) (csOne 25 (q25 φ))))))))))))))))))
theorem chne_ok:CSOk Tryz.prog (chne realFe):=(csAlt_ok q71_ok (csAlt_ok q73_ok (csAlt_ok q58_ok (csAlt_ok q76_ok (csAlt_ok q57_ok (csAlt_ok q75_ok (csAlt_ok q60_ok (csAlt_ok q72_ok (csAlt_ok q74_ok (csAlt_ok q69_ok (csAlt_ok q68_ok (csAlt_ok q59_ok (csAlt_ok q86_ok (csAlt_ok q82_ok (csAlt_ok q79_ok (csAlt_ok q29_ok q25_ok))))))))))))))))
def ne (φ:Fe):CS:=csAlt (csP (psne φ)) (chne φ)
theorem ne_ok:CSOk Tryz.prog (ne realFe):=csAlt_ok psne_ok chne_ok
theorem ne_ps (φ:Fe):PSOk (psne φ) (ne φ):=csP_ok
end Go.Proofs.YtcjkbimdmcfppaaGreatDoor
namespace Go.Proofs.YtcjkbimdmcfppaaGreatDoor
open Go Go.Eng Go.Num
noncomputable def nei (φ:Fe):CS:=inlW Tryz.prog mask 200 (ne φ) 2
theorem nei_ok:CSOk Tryz.prog (nei realFe):=inlW_ok hmix ne_ok 2
def psnei (φ:Fe):PS:=psne φ
theorem nei_ps (φ:Fe):PSOk (psnei φ) (nei φ):=fun f args e h=>inlW_has (ne_ps φ f args e h)
theorem okB_add {a b:N16}(h:okB a=true) (k:okB b=true):okB (addP a b)=true:=okB_iff.2 (addP_val a b (okB_iff.1 h) (okB_iff.1 k)).1
theorem okB_neg {a:N16}(h:okB a=true):okB (negP a)=true:=okB_iff.2 (negP_ok a (okB_iff.1 h))
theorem okB_sub {a b:N16}(h:okB a=true) (k:okB b=true):okB (subP a b)=true:=okB_add h (okB_neg k)
theorem okB_mul {a b:N16}(h:okB a=true) (k:okB b=true):okB (mulP a b)=true:=okB_iff.2 (mulP_val a b (okB_iff.1 h) (okB_iff.1 k)).1
theorem okB_small (n:UInt32):okB (smallN n)=true:=okB_iff.2 (smallN_val n).1
theorem okB_inv {a:N16}(h:okB a=true):okB (invP a)=true:=okB_iff.2 (powP_ok a (okB_iff.1 h) _)
theorem okB_zero:okB zeroN=true:=okB_iff.2 zeroN_ok
theorem okB_of {s:List UInt8}(h:isLen s 32=true):okB (ofP s)=true:=okB_iff.2 (rel_of h).okP
theorem okB_root {a:N16}(h:okB a=true):okB (rootP a)=true:=by
 have h0:okB (powP a (bitsL 252 2))=true:=okB_iff.2 (powP_ok a (okB_iff.1 h) (bitsL 252 2))
 have hi:okB iN=true:=okB_iff.2 iN_ok
 have e0:root0P a=powP a (bitsL 252 2):=by unfold root0P; exact Eq.refl _
 rw [← e0] at h0
 have h1:okB (root1P a)=true:=by
  rw [root1P_eq]
  split
  ·exact h0
  ·exact okB_mul h0 hi
 rw [rootP_eq]
 split
 ·split
  ·exact okB_neg h1
  ·exact h1
 ·exact okB_zero
structure OkF (φ:Fe):Prop where
 add:∀ {a b},φ.ok a=true→φ.ok b=true→φ.ok (φ.addN a b)=true
 sub:∀ {a b},φ.ok a=true→φ.ok b=true→φ.ok (φ.subN a b)=true
 mul:∀ {a b},φ.ok a=true→φ.ok b=true→φ.ok (φ.mulN a b)=true
 neg:∀ {a},φ.ok a=true→φ.ok (φ.negN a)=true
 inv:∀ {a},φ.ok a=true→φ.ok (φ.invN a)=true
 root:∀ {a},φ.ok a=true→φ.ok (φ.rootN a)=true
 small:∀ n,φ.ok (φ.smallN n)=true
 of:∀ {s},φ.l32 s=true→φ.ok (φ.ofN s)=true
 len:∀ {s},isLen s 32=true→φ.l32 s=true
 d32:φ.l32 dBytes=true
theorem okF:OkF realFe:=⟨okB_add,okB_sub,okB_mul,okB_neg,okB_inv,okB_root,okB_small,okB_of,fun h=>h,by kernel_rfl⟩
theorem okGiven {φ:Fe}(h:OkF φ):φ.ok (φ.ofN dBytes)=true:=h.of h.d32
theorem xgiven (φ:Fe)  : ansO (run1O Tryz.prog (psne φ) (ne φ) [1] [] [] (mask 115) 200 115 [] [] Tryz.prog.globals.size)=some ((givenφ φ).av,[(φ.l32 dBytes)]):=by kernel_rfl
theorem xdd (φ:Fe)  : ansO (run1O Tryz.prog (psne φ) (ne φ) [4,5] [] [] (mask 83) 200 83 [] [] Tryz.prog.globals.size)=some ((dφ φ).av,[((φ.ok (φ.negN (φ.smallN (UInt32.ofNat (Int.toNat 121665))))) && (φ.ok (φ.invN (φ.smallN (UInt32.ofNat (Int.toNat 121666)))))),(φ.ok (φ.smallN (UInt32.ofNat (Int.toNat 121666))))]):=by kernel_rfl
theorem xof (φ:Fe) (x y:N16):ansO (run1O Tryz.prog (psne φ) (ne φ) [10] [] [] (mask 87) 200 87 [x.av,y.av] [] Tryz.prog.globals.size)=some (qAv (ofXYψ φ x y),[((φ.ok x) && (φ.ok y))]):=by kernel_rfl
theorem rgiven {φ:Fe}(h:OkF φ):(run1 Tryz.prog (ne φ) (mask 115) 200 115 [] [] Tryz.prog.globals.size).map (·.1)=some (givenφ φ).av:=ansO_run (ne_ps _) (xgiven φ) (by simp only [allT,h.d32,cond_true])
theorem rdd {φ:Fe}(h:OkF φ):(run1 Tryz.prog (ne φ) (mask 83) 200 83 [] [] Tryz.prog.globals.size).map (·.1)=some (dφ φ).av:=ansO_run (ne_ps _) (xdd φ) (by simp (maxDischargeDepth:=30) only [allT,h.add,h.sub,h.mul,h.neg,h.inv,h.root,h.small,h.of,h.d32,okGiven h,Bool.and_self,cond_true])
theorem rof {φ:Fe}(h:OkF φ) (x y:N16) (hx:(φ.ok x && φ.ok y)=true):(run1 Tryz.prog (ne φ) (mask 87) 200 87 [x.av,y.av] [] Tryz.prog.globals.size).map (·.1)=some (qAv (ofXYψ φ x y)):=ansO_run (ne_ps _) (xof φ x y) (by
 simp only [allT]
 rw [hx]; rfl)
def g115:List AVal→Option EffA
 | []=>some (.pure (givenφ realFe).av)
 | _=>none
theorem g115_ok:CSOk Tryz.prog (csOne 115 g115):=csOne_ok fun args e he=>by
 unfold g115 at he
 split at he
 ·skip
  cases he
  exact callOk_val ne_ok hmix (rgiven okF) rfl rfl
 ·cases he
def g83:List AVal→Option EffA
 | []=>some (.pure (dφ realFe).av)
 | _=>none
theorem g83_ok:CSOk Tryz.prog (csOne 83 g83):=csOne_ok fun args e he=>by
 unfold g83 at he
 split at he
 ·skip
  cases he
  exact callOk_val ne_ok hmix (rdd okF) rfl rfl
 ·cases he
def p87:List AVal→Option (EffA × Bool)
 | [.agg [.u64 a0,.u64 a1,.u64 a2,.u64 a3,.u64 a4,.u64 a5,.u64 a6,.u64 a7,.u64 a8,.u64 a9,.u64 a10,.u64 a11,.u64 a12,.u64 a13,.u64 a14,.u64 a15],.agg [.u64 b0,.u64 b1,.u64 b2,.u64 b3,.u64 b4,.u64 b5,.u64 b6,.u64 b7,.u64 b8,.u64 b9,.u64 b10,.u64 b11,.u64 b12,.u64 b13,.u64 b14,.u64 b15]]=>some (.pure (qAv (ofXYψ realFe (N16.mk a0 a1 a2 a3 a4 a5 a6 a7 a8 a9 a10 a11 a12 a13 a14 a15) (N16.mk b0 b1 b2 b3 b4 b5 b6 b7 b8 b9 b10 b11 b12 b13 b14 b15))),realFe.ok (N16.mk a0 a1 a2 a3 a4 a5 a6 a7 a8 a9 a10 a11 a12 a13 a14 a15) && realFe.ok (N16.mk b0 b1 b2 b3 b4 b5 b6 b7 b8 b9 b10 b11 b12 b13 b14 b15))
 | _=>none
theorem p87_ok:CSOk Tryz.prog (csP (psOne 87 p87)):=csP_one fun args v he=>by
 unfold p87 at he
 split at he
 ·rename_i a0 a1 a2 a3 a4 a5 a6 a7 a8 a9 a10 a11 a12 a13 a14 a15 b0 b1 b2 b3 b4 b5 b6 b7 b8 b9 b10 b11 b12 b13 b14 b15
  simp only [Option.some.injEq,Prod.mk.injEq] at he
  obtain ⟨rfl,h⟩:=he
  exact callOk_val ne_ok hmix (rof okF (N16.mk a0 a1 a2 a3 a4 a5 a6 a7 a8 a9 a10 a11 a12 a13 a14 a15) (N16.mk b0 b1 b2 b3 b4 b5 b6 b7 b8 b9 b10 b11 b12 b13 b14 b15) h) rfl rfl
 ·cases he
def q115 (φ:Fe):List AVal→Option EffA
 | []=>some (.pure (givenφ φ).av)
 | _=>none
theorem q115_ok:CSOk Tryz.prog (csOne 115 (q115 realFe)):=csOne_ok fun args e he=>by
 unfold q115 at he
 split at he
 ·skip
  cases he
  exact g115_ok 115 [] _ rfl
 ·cases he
def q83 (φ:Fe):List AVal→Option EffA
 | []=>some (.pure (dφ φ).av)
 | _=>none
theorem q83_ok:CSOk Tryz.prog (csOne 83 (q83 realFe)):=csOne_ok fun args e he=>by
 unfold q83 at he
 split at he
 ·skip
  cases he
  exact g83_ok 83 [] _ rfl
 ·cases he
def q87 (φ:Fe):List AVal→Option (EffA × Bool)
 | [.agg [.u64 a0,.u64 a1,.u64 a2,.u64 a3,.u64 a4,.u64 a5,.u64 a6,.u64 a7,.u64 a8,.u64 a9,.u64 a10,.u64 a11,.u64 a12,.u64 a13,.u64 a14,.u64 a15],.agg [.u64 b0,.u64 b1,.u64 b2,.u64 b3,.u64 b4,.u64 b5,.u64 b6,.u64 b7,.u64 b8,.u64 b9,.u64 b10,.u64 b11,.u64 b12,.u64 b13,.u64 b14,.u64 b15]]=>some (.pure (qAv (ofXYψ φ (N16.mk a0 a1 a2 a3 a4 a5 a6 a7 a8 a9 a10 a11 a12 a13 a14 a15) (N16.mk b0 b1 b2 b3 b4 b5 b6 b7 b8 b9 b10 b11 b12 b13 b14 b15))),(φ.ok (N16.mk a0 a1 a2 a3 a4 a5 a6 a7 a8 a9 a10 a11 a12 a13 a14 a15) && φ.ok (N16.mk b0 b1 b2 b3 b4 b5 b6 b7 b8 b9 b10 b11 b12 b13 b14 b15)))
 | _=>none
theorem q87_ok:CSOk Tryz.prog (csP (psOne 87 (q87 realFe))):=csP_one fun args v he=>by
 unfold q87 at he
 split at he
 ·rename_i a0 a1 a2 a3 a4 a5 a6 a7 a8 a9 a10 a11 a12 a13 a14 a15 b0 b1 b2 b3 b4 b5 b6 b7 b8 b9 b10 b11 b12 b13 b14 b15
  simp only [Option.some.injEq,Prod.mk.injEq] at he
  obtain ⟨rfl,h⟩:=he
  have h2:(realFe.ok (N16.mk a0 a1 a2 a3 a4 a5 a6 a7 a8 a9 a10 a11 a12 a13 a14 a15) && realFe.ok (N16.mk b0 b1 b2 b3 b4 b5 b6 b7 b8 b9 b10 b11 b12 b13 b14 b15))=true:=h
  refine p87_ok 87 [(N16.av (N16.mk a0 a1 a2 a3 a4 a5 a6 a7 a8 a9 a10 a11 a12 a13 a14 a15)),(N16.av (N16.mk b0 b1 b2 b3 b4 b5 b6 b7 b8 b9 b10 b11 b12 b13 b14 b15))] _ ?_
  show cond ((realFe.ok (N16.mk a0 a1 a2 a3 a4 a5 a6 a7 a8 a9 a10 a11 a12 a13 a14 a15) && realFe.ok (N16.mk b0 b1 b2 b3 b4 b5 b6 b7 b8 b9 b10 b11 b12 b13 b14 b15))) _ _=_
  rw [h2]; rfl
 ·cases he
def psnf (φ:Fe):PS:=(psAlt (psOne 87 (q87 φ)) (psne φ))
theorem psnf_ok:CSOk Tryz.prog (csP (psnf realFe)):=(csP_alt q87_ok psne_ok)
def chnf (φ:Fe):CS:=(csAlt (csOne 115 (q115 φ)) (csAlt (csOne 83 (q83 φ)) (chne φ)))
theorem chnf_ok:CSOk Tryz.prog (chnf realFe):=(csAlt_ok q115_ok (csAlt_ok q83_ok chne_ok))
def nf (φ:Fe):CS:=csAlt (csP (psnf φ)) (chnf φ)
theorem nf_ok:CSOk Tryz.prog (nf realFe):=csAlt_ok psnf_ok chnf_ok
theorem nf_ps (φ:Fe):PSOk (psnf φ) (nf φ):=csP_ok
end Go.Proofs.YtcjkbimdmcfppaaGreatDoor
namespace Go.Proofs.YtcjkbimdmcfppaaGreatDoor
open Go Go.Eng Go.Num
theorem okD {φ:Fe}(h:OkF φ):φ.ok (dφ φ)=true:=h.mul (h.neg (h.small _)) (h.inv (h.small _))
abbrev okQ:=okQ0
theorem okQ_iff {φ:Fe}{p:P4 N16}:okQ φ p=true ↔ φ.ok p.x=true∧φ.ok p.y=true∧φ.ok p.z=true∧φ.ok p.t=true:=by
 unfold okQ okQ0
 simp only [Bool.and_eq_true]
theorem d61 (φ:Fe) (p q:P4 N16):ansO (run1O Tryz.prog (psnf φ) (nf φ) [8,11] [] [] (mask 88) 200 88 [qAv p,qAv q] [] Tryz.prog.globals.size)=some ((teesφ φ p q).av,[((φ.ok (φ.mulN (givenφ φ) p.t)) && (φ.ok q.t)),((φ.ok (givenφ φ)) && (φ.ok p.t))]):=by kernel_rfl
theorem rte {φ:Fe}(h:OkF φ) (p q:P4 N16) (p4:φ.ok p.t=true) (q4:φ.ok q.t=true):(run1 Tryz.prog (nf φ) (mask 88) 200 88 [qAv p,qAv q] [] Tryz.prog.globals.size).map (·.1)=some ((teesφ φ p q).av):=ansO_run (nf_ps φ) (d61 φ p q) (by simp (maxDischargeDepth:=40) only [allT,h.add,h.sub,h.mul,h.neg,h.inv,h.root,h.small,h.of,h.len,h.d32,okGiven h,okD h,p4,q4,givenφ,Bool.and_self,Bool.not_false,Bool.not_true,cond_true])
theorem rz2 (φ:Fe):(run1 Tryz.prog (nf φ) (mask 44) 200 44 [] [] Tryz.prog.globals.size).map (·.1)=some (qAv (zeroψ φ)):=by kernel_rfl
theorem d33 (φ:Fe) (p:P4 N16):ansO (run1O Tryz.prog (psnf φ) (nf φ) [8,12,16] [] [] (mask 18) 200 18 [qAv p] [] Tryz.prog.globals.size)=some (.str (bytesψ φ p),[((φ.ok p.y) && (φ.ok (φ.invN p.z))),((φ.ok p.x) && (φ.ok (φ.invN p.z))),(φ.ok p.z)]):=by kernel_rfl
theorem rbyN {φ:Fe}(h:OkF φ) (p:P4 N16) (p1:φ.ok p.x=true) (p2:φ.ok p.y=true) (p3:φ.ok p.z=true) (p4:φ.ok p.t=true):(run1 Tryz.prog (nf φ) (mask 18) 200 18 [qAv p] [] Tryz.prog.globals.size).map (·.1)=some (.str (bytesψ φ p)):=ansO_run (nf_ps φ) (d33 φ p) (by simp (maxDischargeDepth:=40) only [allT,h.add,h.sub,h.mul,h.neg,h.inv,h.root,h.small,h.of,h.len,h.d32,okGiven h,okD h,p1,p2,p3,p4,Bool.and_self,Bool.not_false,Bool.not_true,cond_true])
theorem d26a (φ:Fe) (p q:P4 N16):ansO (run1O Tryz.prog (psnf φ) (nf φ) [9,14,15,21,26] [true] [] (mask 39) 200 39 [qAv p,qAv q] [] Tryz.prog.globals.size)=some (.bool (samP (φ.mulN p.y q.z) (φ.mulN q.y p.z)),[((φ.ok q.y) && (φ.ok p.z)),((φ.ok p.y) && (φ.ok q.z)),samP (φ.mulN p.x q.z) (φ.mulN q.x p.z),((φ.ok q.x) && (φ.ok p.z)),((φ.ok p.x) && (φ.ok q.z))]):=by kernel_rfl
theorem d26b (φ:Fe) (p q:P4 N16):ansO (run1O Tryz.prog (psnf φ) (nf φ) [9,14,15,21,26] [false] [] (mask 39) 200 39 [qAv p,qAv q] [] Tryz.prog.globals.size)=some (.bool false,[!(samP (φ.mulN p.x q.z) (φ.mulN q.x p.z)),((φ.ok q.x) && (φ.ok p.z)),((φ.ok p.x) && (φ.ok q.z))]):=by kernel_rfl
theorem rsaN {φ:Fe}(h:OkF φ) (p q:P4 N16) (p1:φ.ok p.x=true) (p2:φ.ok p.y=true) (p3:φ.ok p.z=true) (p4:φ.ok p.t=true) (q1:φ.ok q.x=true) (q2:φ.ok q.y=true) (q3:φ.ok q.z=true) (q4:φ.ok q.t=true):(run1 Tryz.prog (nf φ) (mask 39) 200 39 [qAv p,qAv q] [] Tryz.prog.globals.size).map (·.1)=some (.bool (sameψ φ p q)):=by
 unfold sameψ
 cases hx:samP (φ.mulN p.x q.z) (φ.mulN q.x p.z)
 ·exact ansO_run (nf_ps φ) (d26b φ p q) (by simp (maxDischargeDepth:=40) only [allT,h.add,h.sub,h.mul,h.neg,h.inv,h.root,h.small,h.of,h.len,h.d32,okGiven h,okD h,p1,p2,p3,p4,q1,q2,q3,q4,hx,Bool.and_self,Bool.not_false,Bool.not_true,cond_true])
 ·exact ansO_run (nf_ps φ) (d26a φ p q) (by simp (maxDischargeDepth:=40) only [allT,h.add,h.sub,h.mul,h.neg,h.inv,h.root,h.small,h.of,h.len,h.d32,okGiven h,okD h,p1,p2,p3,p4,q1,q2,q3,q4,hx,Bool.and_self,Bool.not_false,Bool.not_true,cond_true])
theorem d10a (φ:Fe) (s:List UInt8):ansO (run1O Tryz.prog (psnf φ) (nf φ) [14] [true] [] (mask 37) 200 37 [.str s] [] Tryz.prog.globals.size)=some (.tup [qAv emptyN,.int .i64 2],[((s.length:Int) != 32)]):=by kernel_rfl
theorem d10b (φ:Fe) (s0 s1 s2 s3 s4 s5 s6 s7 s8 s9 s10 s11 s12 s13 s14 s15 s16 s17 s18 s19 s20 s21 s22 s23 s24 s25 s26 s27 s28 s29 s30 s31:UInt8):ansO (run1O Tryz.prog (psnf φ) (nf φ) [31] [false] [] (mask 37) 200 37 [.str [s0,s1,s2,s3,s4,s5,s6,s7,s8,s9,s10,s11,s12,s13,s14,s15,s16,s17,s18,s19,s20,s21,s22,s23,s24,s25,s26,s27,s28,s29,s30,s31]] [] Tryz.prog.globals.size)=some (.tup [qAv emptyN,.int .i64 40],[!(φ.canonN (topL [s0,s1,s2,s3,s4,s5,s6,s7,s8,s9,s10,s11,s12,s13,s14,s15,s16,s17,s18,s19,s20,s21,s22,s23,s24,s25,s26,s27,s28,s29,s30,s31]))]):=by kernel_rfl
theorem d10c (φ:Fe) (s0 s1 s2 s3 s4 s5 s6 s7 s8 s9 s10 s11 s12 s13 s14 s15 s16 s17 s18 s19 s20 s21 s22 s23 s24 s25 s26 s27 s28 s29 s30 s31:UInt8):ansO (run1O Tryz.prog (psnf φ) (nf φ) [31,36,39,42,45,47,51,52,53,55] [true,false] [] (mask 37) 200 37 [.str [s0,s1,s2,s3,s4,s5,s6,s7,s8,s9,s10,s11,s12,s13,s14,s15,s16,s17,s18,s19,s20,s21,s22,s23,s24,s25,s26,s27,s28,s29,s30,s31]] [] Tryz.prog.globals.size)=some (.tup [qAv emptyN,.int .i64 40],[!(φ.hasN (uψ φ [s0,s1,s2,s3,s4,s5,s6,s7,s8,s9,s10,s11,s12,s13,s14,s15,s16,s17,s18,s19,s20,s21,s22,s23,s24,s25,s26,s27,s28,s29,s30,s31])),(φ.ok (φ.mulN (φ.subN (φ.mulN (φ.ofN (topL [s0,s1,s2,s3,s4,s5,s6,s7,s8,s9,s10,s11,s12,s13,s14,s15,s16,s17,s18,s19,s20,s21,s22,s23,s24,s25,s26,s27,s28,s29,s30,s31])) (φ.ofN (topL [s0,s1,s2,s3,s4,s5,s6,s7,s8,s9,s10,s11,s12,s13,s14,s15,s16,s17,s18,s19,s20,s21,s22,s23,s24,s25,s26,s27,s28,s29,s30,s31]))) (φ.smallN (UInt32.ofNat (Int.toNat 1)))) (φ.invN (φ.addN (φ.mulN (dφ φ) (φ.mulN (φ.ofN (topL [s0,s1,s2,s3,s4,s5,s6,s7,s8,s9,s10,s11,s12,s13,s14,s15,s16,s17,s18,s19,s20,s21,s22,s23,s24,s25,s26,s27,s28,s29,s30,s31])) (φ.ofN (topL [s0,s1,s2,s3,s4,s5,s6,s7,s8,s9,s10,s11,s12,s13,s14,s15,s16,s17,s18,s19,s20,s21,s22,s23,s24,s25,s26,s27,s28,s29,s30,s31])))) (φ.smallN (UInt32.ofNat (Int.toNat 1))))))),((φ.ok (φ.subN (φ.mulN (φ.ofN (topL [s0,s1,s2,s3,s4,s5,s6,s7,s8,s9,s10,s11,s12,s13,s14,s15,s16,s17,s18,s19,s20,s21,s22,s23,s24,s25,s26,s27,s28,s29,s30,s31])) (φ.ofN (topL [s0,s1,s2,s3,s4,s5,s6,s7,s8,s9,s10,s11,s12,s13,s14,s15,s16,s17,s18,s19,s20,s21,s22,s23,s24,s25,s26,s27,s28,s29,s30,s31]))) (φ.smallN (UInt32.ofNat (Int.toNat 1))))) && (φ.ok (φ.invN (φ.addN (φ.mulN (dφ φ) (φ.mulN (φ.ofN (topL [s0,s1,s2,s3,s4,s5,s6,s7,s8,s9,s10,s11,s12,s13,s14,s15,s16,s17,s18,s19,s20,s21,s22,s23,s24,s25,s26,s27,s28,s29,s30,s31])) (φ.ofN (topL [s0,s1,s2,s3,s4,s5,s6,s7,s8,s9,s10,s11,s12,s13,s14,s15,s16,s17,s18,s19,s20,s21,s22,s23,s24,s25,s26,s27,s28,s29,s30,s31])))) (φ.smallN (UInt32.ofNat (Int.toNat 1))))))),(φ.ok (φ.addN (φ.mulN (dφ φ) (φ.mulN (φ.ofN (topL [s0,s1,s2,s3,s4,s5,s6,s7,s8,s9,s10,s11,s12,s13,s14,s15,s16,s17,s18,s19,s20,s21,s22,s23,s24,s25,s26,s27,s28,s29,s30,s31])) (φ.ofN (topL [s0,s1,s2,s3,s4,s5,s6,s7,s8,s9,s10,s11,s12,s13,s14,s15,s16,s17,s18,s19,s20,s21,s22,s23,s24,s25,s26,s27,s28,s29,s30,s31])))) (φ.smallN (UInt32.ofNat (Int.toNat 1))))),((φ.ok (φ.mulN (dφ φ) (φ.mulN (φ.ofN (topL [s0,s1,s2,s3,s4,s5,s6,s7,s8,s9,s10,s11,s12,s13,s14,s15,s16,s17,s18,s19,s20,s21,s22,s23,s24,s25,s26,s27,s28,s29,s30,s31])) (φ.ofN (topL [s0,s1,s2,s3,s4,s5,s6,s7,s8,s9,s10,s11,s12,s13,s14,s15,s16,s17,s18,s19,s20,s21,s22,s23,s24,s25,s26,s27,s28,s29,s30,s31]))))) && (φ.ok (φ.smallN (UInt32.ofNat (Int.toNat 1))))),((φ.ok (dφ φ)) && (φ.ok (φ.mulN (φ.ofN (topL [s0,s1,s2,s3,s4,s5,s6,s7,s8,s9,s10,s11,s12,s13,s14,s15,s16,s17,s18,s19,s20,s21,s22,s23,s24,s25,s26,s27,s28,s29,s30,s31])) (φ.ofN (topL [s0,s1,s2,s3,s4,s5,s6,s7,s8,s9,s10,s11,s12,s13,s14,s15,s16,s17,s18,s19,s20,s21,s22,s23,s24,s25,s26,s27,s28,s29,s30,s31]))))),((φ.ok (φ.mulN (φ.ofN (topL [s0,s1,s2,s3,s4,s5,s6,s7,s8,s9,s10,s11,s12,s13,s14,s15,s16,s17,s18,s19,s20,s21,s22,s23,s24,s25,s26,s27,s28,s29,s30,s31])) (φ.ofN (topL [s0,s1,s2,s3,s4,s5,s6,s7,s8,s9,s10,s11,s12,s13,s14,s15,s16,s17,s18,s19,s20,s21,s22,s23,s24,s25,s26,s27,s28,s29,s30,s31])))) && (φ.ok (φ.smallN (UInt32.ofNat (Int.toNat 1))))),((φ.ok (φ.ofN (topL [s0,s1,s2,s3,s4,s5,s6,s7,s8,s9,s10,s11,s12,s13,s14,s15,s16,s17,s18,s19,s20,s21,s22,s23,s24,s25,s26,s27,s28,s29,s30,s31]))) && (φ.ok (φ.ofN (topL [s0,s1,s2,s3,s4,s5,s6,s7,s8,s9,s10,s11,s12,s13,s14,s15,s16,s17,s18,s19,s20,s21,s22,s23,s24,s25,s26,s27,s28,s29,s30,s31])))),φ.l32 (topL [s0,s1,s2,s3,s4,s5,s6,s7,s8,s9,s10,s11,s12,s13,s14,s15,s16,s17,s18,s19,s20,s21,s22,s23,s24,s25,s26,s27,s28,s29,s30,s31]),φ.canonN (topL [s0,s1,s2,s3,s4,s5,s6,s7,s8,s9,s10,s11,s12,s13,s14,s15,s16,s17,s18,s19,s20,s21,s22,s23,s24,s25,s26,s27,s28,s29,s30,s31])]):=by kernel_rfl
theorem d10d (φ:Fe) (s0 s1 s2 s3 s4 s5 s6 s7 s8 s9 s10 s11 s12 s13 s14 s15 s16 s17 s18 s19 s20 s21 s22 s23 s24 s25 s26 s27 s28 s29 s30 s31:UInt8):ansO (run1O Tryz.prog (psnf φ) (nf φ) [22,31,36,39,42,45,47,51,52,53,55,61] [true,true,true,true] [] (mask 37) 200 37 [.str [s0,s1,s2,s3,s4,s5,s6,s7,s8,s9,s10,s11,s12,s13,s14,s15,s16,s17,s18,s19,s20,s21,s22,s23,s24,s25,s26,s27,s28,s29,s30,s31]] [] Tryz.prog.globals.size)=some (.tup [qAv emptyN,.int .i64 40],[samP (φ.rootN (uψ φ [s0,s1,s2,s3,s4,s5,s6,s7,s8,s9,s10,s11,s12,s13,s14,s15,s16,s17,s18,s19,s20,s21,s22,s23,s24,s25,s26,s27,s28,s29,s30,s31])) zeroN,φ.hasN (uψ φ [s0,s1,s2,s3,s4,s5,s6,s7,s8,s9,s10,s11,s12,s13,s14,s15,s16,s17,s18,s19,s20,s21,s22,s23,s24,s25,s26,s27,s28,s29,s30,s31]),(φ.ok (φ.mulN (φ.subN (φ.mulN (φ.ofN (topL [s0,s1,s2,s3,s4,s5,s6,s7,s8,s9,s10,s11,s12,s13,s14,s15,s16,s17,s18,s19,s20,s21,s22,s23,s24,s25,s26,s27,s28,s29,s30,s31])) (φ.ofN (topL [s0,s1,s2,s3,s4,s5,s6,s7,s8,s9,s10,s11,s12,s13,s14,s15,s16,s17,s18,s19,s20,s21,s22,s23,s24,s25,s26,s27,s28,s29,s30,s31]))) (φ.smallN (UInt32.ofNat (Int.toNat 1)))) (φ.invN (φ.addN (φ.mulN (dφ φ) (φ.mulN (φ.ofN (topL [s0,s1,s2,s3,s4,s5,s6,s7,s8,s9,s10,s11,s12,s13,s14,s15,s16,s17,s18,s19,s20,s21,s22,s23,s24,s25,s26,s27,s28,s29,s30,s31])) (φ.ofN (topL [s0,s1,s2,s3,s4,s5,s6,s7,s8,s9,s10,s11,s12,s13,s14,s15,s16,s17,s18,s19,s20,s21,s22,s23,s24,s25,s26,s27,s28,s29,s30,s31])))) (φ.smallN (UInt32.ofNat (Int.toNat 1))))))),((φ.ok (φ.subN (φ.mulN (φ.ofN (topL [s0,s1,s2,s3,s4,s5,s6,s7,s8,s9,s10,s11,s12,s13,s14,s15,s16,s17,s18,s19,s20,s21,s22,s23,s24,s25,s26,s27,s28,s29,s30,s31])) (φ.ofN (topL [s0,s1,s2,s3,s4,s5,s6,s7,s8,s9,s10,s11,s12,s13,s14,s15,s16,s17,s18,s19,s20,s21,s22,s23,s24,s25,s26,s27,s28,s29,s30,s31]))) (φ.smallN (UInt32.ofNat (Int.toNat 1))))) && (φ.ok (φ.invN (φ.addN (φ.mulN (dφ φ) (φ.mulN (φ.ofN (topL [s0,s1,s2,s3,s4,s5,s6,s7,s8,s9,s10,s11,s12,s13,s14,s15,s16,s17,s18,s19,s20,s21,s22,s23,s24,s25,s26,s27,s28,s29,s30,s31])) (φ.ofN (topL [s0,s1,s2,s3,s4,s5,s6,s7,s8,s9,s10,s11,s12,s13,s14,s15,s16,s17,s18,s19,s20,s21,s22,s23,s24,s25,s26,s27,s28,s29,s30,s31])))) (φ.smallN (UInt32.ofNat (Int.toNat 1))))))),(φ.ok (φ.addN (φ.mulN (dφ φ) (φ.mulN (φ.ofN (topL [s0,s1,s2,s3,s4,s5,s6,s7,s8,s9,s10,s11,s12,s13,s14,s15,s16,s17,s18,s19,s20,s21,s22,s23,s24,s25,s26,s27,s28,s29,s30,s31])) (φ.ofN (topL [s0,s1,s2,s3,s4,s5,s6,s7,s8,s9,s10,s11,s12,s13,s14,s15,s16,s17,s18,s19,s20,s21,s22,s23,s24,s25,s26,s27,s28,s29,s30,s31])))) (φ.smallN (UInt32.ofNat (Int.toNat 1))))),((φ.ok (φ.mulN (dφ φ) (φ.mulN (φ.ofN (topL [s0,s1,s2,s3,s4,s5,s6,s7,s8,s9,s10,s11,s12,s13,s14,s15,s16,s17,s18,s19,s20,s21,s22,s23,s24,s25,s26,s27,s28,s29,s30,s31])) (φ.ofN (topL [s0,s1,s2,s3,s4,s5,s6,s7,s8,s9,s10,s11,s12,s13,s14,s15,s16,s17,s18,s19,s20,s21,s22,s23,s24,s25,s26,s27,s28,s29,s30,s31]))))) && (φ.ok (φ.smallN (UInt32.ofNat (Int.toNat 1))))),((φ.ok (dφ φ)) && (φ.ok (φ.mulN (φ.ofN (topL [s0,s1,s2,s3,s4,s5,s6,s7,s8,s9,s10,s11,s12,s13,s14,s15,s16,s17,s18,s19,s20,s21,s22,s23,s24,s25,s26,s27,s28,s29,s30,s31])) (φ.ofN (topL [s0,s1,s2,s3,s4,s5,s6,s7,s8,s9,s10,s11,s12,s13,s14,s15,s16,s17,s18,s19,s20,s21,s22,s23,s24,s25,s26,s27,s28,s29,s30,s31]))))),((φ.ok (φ.mulN (φ.ofN (topL [s0,s1,s2,s3,s4,s5,s6,s7,s8,s9,s10,s11,s12,s13,s14,s15,s16,s17,s18,s19,s20,s21,s22,s23,s24,s25,s26,s27,s28,s29,s30,s31])) (φ.ofN (topL [s0,s1,s2,s3,s4,s5,s6,s7,s8,s9,s10,s11,s12,s13,s14,s15,s16,s17,s18,s19,s20,s21,s22,s23,s24,s25,s26,s27,s28,s29,s30,s31])))) && (φ.ok (φ.smallN (UInt32.ofNat (Int.toNat 1))))),((φ.ok (φ.ofN (topL [s0,s1,s2,s3,s4,s5,s6,s7,s8,s9,s10,s11,s12,s13,s14,s15,s16,s17,s18,s19,s20,s21,s22,s23,s24,s25,s26,s27,s28,s29,s30,s31]))) && (φ.ok (φ.ofN (topL [s0,s1,s2,s3,s4,s5,s6,s7,s8,s9,s10,s11,s12,s13,s14,s15,s16,s17,s18,s19,s20,s21,s22,s23,s24,s25,s26,s27,s28,s29,s30,s31])))),φ.l32 (topL [s0,s1,s2,s3,s4,s5,s6,s7,s8,s9,s10,s11,s12,s13,s14,s15,s16,s17,s18,s19,s20,s21,s22,s23,s24,s25,s26,s27,s28,s29,s30,s31]),φ.canonN (topL [s0,s1,s2,s3,s4,s5,s6,s7,s8,s9,s10,s11,s12,s13,s14,s15,s16,s17,s18,s19,s20,s21,s22,s23,s24,s25,s26,s27,s28,s29,s30,s31]),decOdd [s0,s1,s2,s3,s4,s5,s6,s7,s8,s9,s10,s11,s12,s13,s14,s15,s16,s17,s18,s19,s20,s21,s22,s23,s24,s25,s26,s27,s28,s29,s30,s31]]):=by kernel_rfl
theorem d10e (φ:Fe) (s0 s1 s2 s3 s4 s5 s6 s7 s8 s9 s10 s11 s12 s13 s14 s15 s16 s17 s18 s19 s20 s21 s22 s23 s24 s25 s26 s27 s28 s29 s30 s31:UInt8):ansO (run1O Tryz.prog (psnf φ) (nf φ) [22,31,36,39,42,45,47,51,52,53,55,61,72] [false,true,true,true] [] (mask 37) 200 37 [.str [s0,s1,s2,s3,s4,s5,s6,s7,s8,s9,s10,s11,s12,s13,s14,s15,s16,s17,s18,s19,s20,s21,s22,s23,s24,s25,s26,s27,s28,s29,s30,s31]] [] Tryz.prog.globals.size)=some (.tup [qAv (ofXYψ φ (φ.rootN (uψ φ [s0,s1,s2,s3,s4,s5,s6,s7,s8,s9,s10,s11,s12,s13,s14,s15,s16,s17,s18,s19,s20,s21,s22,s23,s24,s25,s26,s27,s28,s29,s30,s31])) (yψ φ [s0,s1,s2,s3,s4,s5,s6,s7,s8,s9,s10,s11,s12,s13,s14,s15,s16,s17,s18,s19,s20,s21,s22,s23,s24,s25,s26,s27,s28,s29,s30,s31])),.int .i64 0],[((φ.ok (φ.rootN (φ.mulN (φ.subN (φ.mulN (φ.ofN (topL [s0,s1,s2,s3,s4,s5,s6,s7,s8,s9,s10,s11,s12,s13,s14,s15,s16,s17,s18,s19,s20,s21,s22,s23,s24,s25,s26,s27,s28,s29,s30,s31])) (φ.ofN (topL [s0,s1,s2,s3,s4,s5,s6,s7,s8,s9,s10,s11,s12,s13,s14,s15,s16,s17,s18,s19,s20,s21,s22,s23,s24,s25,s26,s27,s28,s29,s30,s31]))) (φ.smallN (UInt32.ofNat (Int.toNat 1)))) (φ.invN (φ.addN (φ.mulN (dφ φ) (φ.mulN (φ.ofN (topL [s0,s1,s2,s3,s4,s5,s6,s7,s8,s9,s10,s11,s12,s13,s14,s15,s16,s17,s18,s19,s20,s21,s22,s23,s24,s25,s26,s27,s28,s29,s30,s31])) (φ.ofN (topL [s0,s1,s2,s3,s4,s5,s6,s7,s8,s9,s10,s11,s12,s13,s14,s15,s16,s17,s18,s19,s20,s21,s22,s23,s24,s25,s26,s27,s28,s29,s30,s31])))) (φ.smallN (UInt32.ofNat (Int.toNat 1)))))))) && (φ.ok (φ.ofN (topL [s0,s1,s2,s3,s4,s5,s6,s7,s8,s9,s10,s11,s12,s13,s14,s15,s16,s17,s18,s19,s20,s21,s22,s23,s24,s25,s26,s27,s28,s29,s30,s31])))),samP (φ.rootN (uψ φ [s0,s1,s2,s3,s4,s5,s6,s7,s8,s9,s10,s11,s12,s13,s14,s15,s16,s17,s18,s19,s20,s21,s22,s23,s24,s25,s26,s27,s28,s29,s30,s31])) zeroN,φ.hasN (uψ φ [s0,s1,s2,s3,s4,s5,s6,s7,s8,s9,s10,s11,s12,s13,s14,s15,s16,s17,s18,s19,s20,s21,s22,s23,s24,s25,s26,s27,s28,s29,s30,s31]),(φ.ok (φ.mulN (φ.subN (φ.mulN (φ.ofN (topL [s0,s1,s2,s3,s4,s5,s6,s7,s8,s9,s10,s11,s12,s13,s14,s15,s16,s17,s18,s19,s20,s21,s22,s23,s24,s25,s26,s27,s28,s29,s30,s31])) (φ.ofN (topL [s0,s1,s2,s3,s4,s5,s6,s7,s8,s9,s10,s11,s12,s13,s14,s15,s16,s17,s18,s19,s20,s21,s22,s23,s24,s25,s26,s27,s28,s29,s30,s31]))) (φ.smallN (UInt32.ofNat (Int.toNat 1)))) (φ.invN (φ.addN (φ.mulN (dφ φ) (φ.mulN (φ.ofN (topL [s0,s1,s2,s3,s4,s5,s6,s7,s8,s9,s10,s11,s12,s13,s14,s15,s16,s17,s18,s19,s20,s21,s22,s23,s24,s25,s26,s27,s28,s29,s30,s31])) (φ.ofN (topL [s0,s1,s2,s3,s4,s5,s6,s7,s8,s9,s10,s11,s12,s13,s14,s15,s16,s17,s18,s19,s20,s21,s22,s23,s24,s25,s26,s27,s28,s29,s30,s31])))) (φ.smallN (UInt32.ofNat (Int.toNat 1))))))),((φ.ok (φ.subN (φ.mulN (φ.ofN (topL [s0,s1,s2,s3,s4,s5,s6,s7,s8,s9,s10,s11,s12,s13,s14,s15,s16,s17,s18,s19,s20,s21,s22,s23,s24,s25,s26,s27,s28,s29,s30,s31])) (φ.ofN (topL [s0,s1,s2,s3,s4,s5,s6,s7,s8,s9,s10,s11,s12,s13,s14,s15,s16,s17,s18,s19,s20,s21,s22,s23,s24,s25,s26,s27,s28,s29,s30,s31]))) (φ.smallN (UInt32.ofNat (Int.toNat 1))))) && (φ.ok (φ.invN (φ.addN (φ.mulN (dφ φ) (φ.mulN (φ.ofN (topL [s0,s1,s2,s3,s4,s5,s6,s7,s8,s9,s10,s11,s12,s13,s14,s15,s16,s17,s18,s19,s20,s21,s22,s23,s24,s25,s26,s27,s28,s29,s30,s31])) (φ.ofN (topL [s0,s1,s2,s3,s4,s5,s6,s7,s8,s9,s10,s11,s12,s13,s14,s15,s16,s17,s18,s19,s20,s21,s22,s23,s24,s25,s26,s27,s28,s29,s30,s31])))) (φ.smallN (UInt32.ofNat (Int.toNat 1))))))),(φ.ok (φ.addN (φ.mulN (dφ φ) (φ.mulN (φ.ofN (topL [s0,s1,s2,s3,s4,s5,s6,s7,s8,s9,s10,s11,s12,s13,s14,s15,s16,s17,s18,s19,s20,s21,s22,s23,s24,s25,s26,s27,s28,s29,s30,s31])) (φ.ofN (topL [s0,s1,s2,s3,s4,s5,s6,s7,s8,s9,s10,s11,s12,s13,s14,s15,s16,s17,s18,s19,s20,s21,s22,s23,s24,s25,s26,s27,s28,s29,s30,s31])))) (φ.smallN (UInt32.ofNat (Int.toNat 1))))),((φ.ok (φ.mulN (dφ φ) (φ.mulN (φ.ofN (topL [s0,s1,s2,s3,s4,s5,s6,s7,s8,s9,s10,s11,s12,s13,s14,s15,s16,s17,s18,s19,s20,s21,s22,s23,s24,s25,s26,s27,s28,s29,s30,s31])) (φ.ofN (topL [s0,s1,s2,s3,s4,s5,s6,s7,s8,s9,s10,s11,s12,s13,s14,s15,s16,s17,s18,s19,s20,s21,s22,s23,s24,s25,s26,s27,s28,s29,s30,s31]))))) && (φ.ok (φ.smallN (UInt32.ofNat (Int.toNat 1))))),((φ.ok (dφ φ)) && (φ.ok (φ.mulN (φ.ofN (topL [s0,s1,s2,s3,s4,s5,s6,s7,s8,s9,s10,s11,s12,s13,s14,s15,s16,s17,s18,s19,s20,s21,s22,s23,s24,s25,s26,s27,s28,s29,s30,s31])) (φ.ofN (topL [s0,s1,s2,s3,s4,s5,s6,s7,s8,s9,s10,s11,s12,s13,s14,s15,s16,s17,s18,s19,s20,s21,s22,s23,s24,s25,s26,s27,s28,s29,s30,s31]))))),((φ.ok (φ.mulN (φ.ofN (topL [s0,s1,s2,s3,s4,s5,s6,s7,s8,s9,s10,s11,s12,s13,s14,s15,s16,s17,s18,s19,s20,s21,s22,s23,s24,s25,s26,s27,s28,s29,s30,s31])) (φ.ofN (topL [s0,s1,s2,s3,s4,s5,s6,s7,s8,s9,s10,s11,s12,s13,s14,s15,s16,s17,s18,s19,s20,s21,s22,s23,s24,s25,s26,s27,s28,s29,s30,s31])))) && (φ.ok (φ.smallN (UInt32.ofNat (Int.toNat 1))))),((φ.ok (φ.ofN (topL [s0,s1,s2,s3,s4,s5,s6,s7,s8,s9,s10,s11,s12,s13,s14,s15,s16,s17,s18,s19,s20,s21,s22,s23,s24,s25,s26,s27,s28,s29,s30,s31]))) && (φ.ok (φ.ofN (topL [s0,s1,s2,s3,s4,s5,s6,s7,s8,s9,s10,s11,s12,s13,s14,s15,s16,s17,s18,s19,s20,s21,s22,s23,s24,s25,s26,s27,s28,s29,s30,s31])))),φ.l32 (topL [s0,s1,s2,s3,s4,s5,s6,s7,s8,s9,s10,s11,s12,s13,s14,s15,s16,s17,s18,s19,s20,s21,s22,s23,s24,s25,s26,s27,s28,s29,s30,s31]),φ.canonN (topL [s0,s1,s2,s3,s4,s5,s6,s7,s8,s9,s10,s11,s12,s13,s14,s15,s16,s17,s18,s19,s20,s21,s22,s23,s24,s25,s26,s27,s28,s29,s30,s31]),!(decOdd [s0,s1,s2,s3,s4,s5,s6,s7,s8,s9,s10,s11,s12,s13,s14,s15,s16,s17,s18,s19,s20,s21,s22,s23,s24,s25,s26,s27,s28,s29,s30,s31])]):=by kernel_rfl
theorem d10f (φ:Fe) (s0 s1 s2 s3 s4 s5 s6 s7 s8 s9 s10 s11 s12 s13 s14 s15 s16 s17 s18 s19 s20 s21 s22 s23 s24 s25 s26 s27 s28 s29 s30 s31:UInt8):ansO (run1O Tryz.prog (psnf φ) (nf φ) [22,31,36,39,42,45,47,51,52,53,55,61,72] [true,true,true,false] [] (mask 37) 200 37 [.str [s0,s1,s2,s3,s4,s5,s6,s7,s8,s9,s10,s11,s12,s13,s14,s15,s16,s17,s18,s19,s20,s21,s22,s23,s24,s25,s26,s27,s28,s29,s30,s31]] [] Tryz.prog.globals.size)=some (.tup [qAv (ofXYψ φ (φ.negN (φ.rootN (uψ φ [s0,s1,s2,s3,s4,s5,s6,s7,s8,s9,s10,s11,s12,s13,s14,s15,s16,s17,s18,s19,s20,s21,s22,s23,s24,s25,s26,s27,s28,s29,s30,s31]))) (yψ φ [s0,s1,s2,s3,s4,s5,s6,s7,s8,s9,s10,s11,s12,s13,s14,s15,s16,s17,s18,s19,s20,s21,s22,s23,s24,s25,s26,s27,s28,s29,s30,s31])),.int .i64 0],[((φ.ok (φ.negN (φ.rootN (φ.mulN (φ.subN (φ.mulN (φ.ofN (topL [s0,s1,s2,s3,s4,s5,s6,s7,s8,s9,s10,s11,s12,s13,s14,s15,s16,s17,s18,s19,s20,s21,s22,s23,s24,s25,s26,s27,s28,s29,s30,s31])) (φ.ofN (topL [s0,s1,s2,s3,s4,s5,s6,s7,s8,s9,s10,s11,s12,s13,s14,s15,s16,s17,s18,s19,s20,s21,s22,s23,s24,s25,s26,s27,s28,s29,s30,s31]))) (φ.smallN (UInt32.ofNat (Int.toNat 1)))) (φ.invN (φ.addN (φ.mulN (dφ φ) (φ.mulN (φ.ofN (topL [s0,s1,s2,s3,s4,s5,s6,s7,s8,s9,s10,s11,s12,s13,s14,s15,s16,s17,s18,s19,s20,s21,s22,s23,s24,s25,s26,s27,s28,s29,s30,s31])) (φ.ofN (topL [s0,s1,s2,s3,s4,s5,s6,s7,s8,s9,s10,s11,s12,s13,s14,s15,s16,s17,s18,s19,s20,s21,s22,s23,s24,s25,s26,s27,s28,s29,s30,s31])))) (φ.smallN (UInt32.ofNat (Int.toNat 1))))))))) && (φ.ok (φ.ofN (topL [s0,s1,s2,s3,s4,s5,s6,s7,s8,s9,s10,s11,s12,s13,s14,s15,s16,s17,s18,s19,s20,s21,s22,s23,s24,s25,s26,s27,s28,s29,s30,s31])))),!(samP (φ.rootN (uψ φ [s0,s1,s2,s3,s4,s5,s6,s7,s8,s9,s10,s11,s12,s13,s14,s15,s16,s17,s18,s19,s20,s21,s22,s23,s24,s25,s26,s27,s28,s29,s30,s31])) zeroN),φ.hasN (uψ φ [s0,s1,s2,s3,s4,s5,s6,s7,s8,s9,s10,s11,s12,s13,s14,s15,s16,s17,s18,s19,s20,s21,s22,s23,s24,s25,s26,s27,s28,s29,s30,s31]),(φ.ok (φ.mulN (φ.subN (φ.mulN (φ.ofN (topL [s0,s1,s2,s3,s4,s5,s6,s7,s8,s9,s10,s11,s12,s13,s14,s15,s16,s17,s18,s19,s20,s21,s22,s23,s24,s25,s26,s27,s28,s29,s30,s31])) (φ.ofN (topL [s0,s1,s2,s3,s4,s5,s6,s7,s8,s9,s10,s11,s12,s13,s14,s15,s16,s17,s18,s19,s20,s21,s22,s23,s24,s25,s26,s27,s28,s29,s30,s31]))) (φ.smallN (UInt32.ofNat (Int.toNat 1)))) (φ.invN (φ.addN (φ.mulN (dφ φ) (φ.mulN (φ.ofN (topL [s0,s1,s2,s3,s4,s5,s6,s7,s8,s9,s10,s11,s12,s13,s14,s15,s16,s17,s18,s19,s20,s21,s22,s23,s24,s25,s26,s27,s28,s29,s30,s31])) (φ.ofN (topL [s0,s1,s2,s3,s4,s5,s6,s7,s8,s9,s10,s11,s12,s13,s14,s15,s16,s17,s18,s19,s20,s21,s22,s23,s24,s25,s26,s27,s28,s29,s30,s31])))) (φ.smallN (UInt32.ofNat (Int.toNat 1))))))),((φ.ok (φ.subN (φ.mulN (φ.ofN (topL [s0,s1,s2,s3,s4,s5,s6,s7,s8,s9,s10,s11,s12,s13,s14,s15,s16,s17,s18,s19,s20,s21,s22,s23,s24,s25,s26,s27,s28,s29,s30,s31])) (φ.ofN (topL [s0,s1,s2,s3,s4,s5,s6,s7,s8,s9,s10,s11,s12,s13,s14,s15,s16,s17,s18,s19,s20,s21,s22,s23,s24,s25,s26,s27,s28,s29,s30,s31]))) (φ.smallN (UInt32.ofNat (Int.toNat 1))))) && (φ.ok (φ.invN (φ.addN (φ.mulN (dφ φ) (φ.mulN (φ.ofN (topL [s0,s1,s2,s3,s4,s5,s6,s7,s8,s9,s10,s11,s12,s13,s14,s15,s16,s17,s18,s19,s20,s21,s22,s23,s24,s25,s26,s27,s28,s29,s30,s31])) (φ.ofN (topL [s0,s1,s2,s3,s4,s5,s6,s7,s8,s9,s10,s11,s12,s13,s14,s15,s16,s17,s18,s19,s20,s21,s22,s23,s24,s25,s26,s27,s28,s29,s30,s31])))) (φ.smallN (UInt32.ofNat (Int.toNat 1))))))),(φ.ok (φ.addN (φ.mulN (dφ φ) (φ.mulN (φ.ofN (topL [s0,s1,s2,s3,s4,s5,s6,s7,s8,s9,s10,s11,s12,s13,s14,s15,s16,s17,s18,s19,s20,s21,s22,s23,s24,s25,s26,s27,s28,s29,s30,s31])) (φ.ofN (topL [s0,s1,s2,s3,s4,s5,s6,s7,s8,s9,s10,s11,s12,s13,s14,s15,s16,s17,s18,s19,s20,s21,s22,s23,s24,s25,s26,s27,s28,s29,s30,s31])))) (φ.smallN (UInt32.ofNat (Int.toNat 1))))),((φ.ok (φ.mulN (dφ φ) (φ.mulN (φ.ofN (topL [s0,s1,s2,s3,s4,s5,s6,s7,s8,s9,s10,s11,s12,s13,s14,s15,s16,s17,s18,s19,s20,s21,s22,s23,s24,s25,s26,s27,s28,s29,s30,s31])) (φ.ofN (topL [s0,s1,s2,s3,s4,s5,s6,s7,s8,s9,s10,s11,s12,s13,s14,s15,s16,s17,s18,s19,s20,s21,s22,s23,s24,s25,s26,s27,s28,s29,s30,s31]))))) && (φ.ok (φ.smallN (UInt32.ofNat (Int.toNat 1))))),((φ.ok (dφ φ)) && (φ.ok (φ.mulN (φ.ofN (topL [s0,s1,s2,s3,s4,s5,s6,s7,s8,s9,s10,s11,s12,s13,s14,s15,s16,s17,s18,s19,s20,s21,s22,s23,s24,s25,s26,s27,s28,s29,s30,s31])) (φ.ofN (topL [s0,s1,s2,s3,s4,s5,s6,s7,s8,s9,s10,s11,s12,s13,s14,s15,s16,s17,s18,s19,s20,s21,s22,s23,s24,s25,s26,s27,s28,s29,s30,s31]))))),((φ.ok (φ.mulN (φ.ofN (topL [s0,s1,s2,s3,s4,s5,s6,s7,s8,s9,s10,s11,s12,s13,s14,s15,s16,s17,s18,s19,s20,s21,s22,s23,s24,s25,s26,s27,s28,s29,s30,s31])) (φ.ofN (topL [s0,s1,s2,s3,s4,s5,s6,s7,s8,s9,s10,s11,s12,s13,s14,s15,s16,s17,s18,s19,s20,s21,s22,s23,s24,s25,s26,s27,s28,s29,s30,s31])))) && (φ.ok (φ.smallN (UInt32.ofNat (Int.toNat 1))))),((φ.ok (φ.ofN (topL [s0,s1,s2,s3,s4,s5,s6,s7,s8,s9,s10,s11,s12,s13,s14,s15,s16,s17,s18,s19,s20,s21,s22,s23,s24,s25,s26,s27,s28,s29,s30,s31]))) && (φ.ok (φ.ofN (topL [s0,s1,s2,s3,s4,s5,s6,s7,s8,s9,s10,s11,s12,s13,s14,s15,s16,s17,s18,s19,s20,s21,s22,s23,s24,s25,s26,s27,s28,s29,s30,s31])))),φ.l32 (topL [s0,s1,s2,s3,s4,s5,s6,s7,s8,s9,s10,s11,s12,s13,s14,s15,s16,s17,s18,s19,s20,s21,s22,s23,s24,s25,s26,s27,s28,s29,s30,s31]),φ.canonN (topL [s0,s1,s2,s3,s4,s5,s6,s7,s8,s9,s10,s11,s12,s13,s14,s15,s16,s17,s18,s19,s20,s21,s22,s23,s24,s25,s26,s27,s28,s29,s30,s31]),decOdd [s0,s1,s2,s3,s4,s5,s6,s7,s8,s9,s10,s11,s12,s13,s14,s15,s16,s17,s18,s19,s20,s21,s22,s23,s24,s25,s26,s27,s28,s29,s30,s31]]):=by kernel_rfl
theorem d10g (φ:Fe) (s0 s1 s2 s3 s4 s5 s6 s7 s8 s9 s10 s11 s12 s13 s14 s15 s16 s17 s18 s19 s20 s21 s22 s23 s24 s25 s26 s27 s28 s29 s30 s31:UInt8):ansO (run1O Tryz.prog (psnf φ) (nf φ) [22,31,36,39,42,45,47,51,52,53,55,61,72] [false,true,true,false] [] (mask 37) 200 37 [.str [s0,s1,s2,s3,s4,s5,s6,s7,s8,s9,s10,s11,s12,s13,s14,s15,s16,s17,s18,s19,s20,s21,s22,s23,s24,s25,s26,s27,s28,s29,s30,s31]] [] Tryz.prog.globals.size)=some (.tup [qAv (ofXYψ φ (φ.rootN (uψ φ [s0,s1,s2,s3,s4,s5,s6,s7,s8,s9,s10,s11,s12,s13,s14,s15,s16,s17,s18,s19,s20,s21,s22,s23,s24,s25,s26,s27,s28,s29,s30,s31])) (yψ φ [s0,s1,s2,s3,s4,s5,s6,s7,s8,s9,s10,s11,s12,s13,s14,s15,s16,s17,s18,s19,s20,s21,s22,s23,s24,s25,s26,s27,s28,s29,s30,s31])),.int .i64 0],[((φ.ok (φ.rootN (φ.mulN (φ.subN (φ.mulN (φ.ofN (topL [s0,s1,s2,s3,s4,s5,s6,s7,s8,s9,s10,s11,s12,s13,s14,s15,s16,s17,s18,s19,s20,s21,s22,s23,s24,s25,s26,s27,s28,s29,s30,s31])) (φ.ofN (topL [s0,s1,s2,s3,s4,s5,s6,s7,s8,s9,s10,s11,s12,s13,s14,s15,s16,s17,s18,s19,s20,s21,s22,s23,s24,s25,s26,s27,s28,s29,s30,s31]))) (φ.smallN (UInt32.ofNat (Int.toNat 1)))) (φ.invN (φ.addN (φ.mulN (dφ φ) (φ.mulN (φ.ofN (topL [s0,s1,s2,s3,s4,s5,s6,s7,s8,s9,s10,s11,s12,s13,s14,s15,s16,s17,s18,s19,s20,s21,s22,s23,s24,s25,s26,s27,s28,s29,s30,s31])) (φ.ofN (topL [s0,s1,s2,s3,s4,s5,s6,s7,s8,s9,s10,s11,s12,s13,s14,s15,s16,s17,s18,s19,s20,s21,s22,s23,s24,s25,s26,s27,s28,s29,s30,s31])))) (φ.smallN (UInt32.ofNat (Int.toNat 1)))))))) && (φ.ok (φ.ofN (topL [s0,s1,s2,s3,s4,s5,s6,s7,s8,s9,s10,s11,s12,s13,s14,s15,s16,s17,s18,s19,s20,s21,s22,s23,s24,s25,s26,s27,s28,s29,s30,s31])))),!(samP (φ.rootN (uψ φ [s0,s1,s2,s3,s4,s5,s6,s7,s8,s9,s10,s11,s12,s13,s14,s15,s16,s17,s18,s19,s20,s21,s22,s23,s24,s25,s26,s27,s28,s29,s30,s31])) zeroN),φ.hasN (uψ φ [s0,s1,s2,s3,s4,s5,s6,s7,s8,s9,s10,s11,s12,s13,s14,s15,s16,s17,s18,s19,s20,s21,s22,s23,s24,s25,s26,s27,s28,s29,s30,s31]),(φ.ok (φ.mulN (φ.subN (φ.mulN (φ.ofN (topL [s0,s1,s2,s3,s4,s5,s6,s7,s8,s9,s10,s11,s12,s13,s14,s15,s16,s17,s18,s19,s20,s21,s22,s23,s24,s25,s26,s27,s28,s29,s30,s31])) (φ.ofN (topL [s0,s1,s2,s3,s4,s5,s6,s7,s8,s9,s10,s11,s12,s13,s14,s15,s16,s17,s18,s19,s20,s21,s22,s23,s24,s25,s26,s27,s28,s29,s30,s31]))) (φ.smallN (UInt32.ofNat (Int.toNat 1)))) (φ.invN (φ.addN (φ.mulN (dφ φ) (φ.mulN (φ.ofN (topL [s0,s1,s2,s3,s4,s5,s6,s7,s8,s9,s10,s11,s12,s13,s14,s15,s16,s17,s18,s19,s20,s21,s22,s23,s24,s25,s26,s27,s28,s29,s30,s31])) (φ.ofN (topL [s0,s1,s2,s3,s4,s5,s6,s7,s8,s9,s10,s11,s12,s13,s14,s15,s16,s17,s18,s19,s20,s21,s22,s23,s24,s25,s26,s27,s28,s29,s30,s31])))) (φ.smallN (UInt32.ofNat (Int.toNat 1))))))),((φ.ok (φ.subN (φ.mulN (φ.ofN (topL [s0,s1,s2,s3,s4,s5,s6,s7,s8,s9,s10,s11,s12,s13,s14,s15,s16,s17,s18,s19,s20,s21,s22,s23,s24,s25,s26,s27,s28,s29,s30,s31])) (φ.ofN (topL [s0,s1,s2,s3,s4,s5,s6,s7,s8,s9,s10,s11,s12,s13,s14,s15,s16,s17,s18,s19,s20,s21,s22,s23,s24,s25,s26,s27,s28,s29,s30,s31]))) (φ.smallN (UInt32.ofNat (Int.toNat 1))))) && (φ.ok (φ.invN (φ.addN (φ.mulN (dφ φ) (φ.mulN (φ.ofN (topL [s0,s1,s2,s3,s4,s5,s6,s7,s8,s9,s10,s11,s12,s13,s14,s15,s16,s17,s18,s19,s20,s21,s22,s23,s24,s25,s26,s27,s28,s29,s30,s31])) (φ.ofN (topL [s0,s1,s2,s3,s4,s5,s6,s7,s8,s9,s10,s11,s12,s13,s14,s15,s16,s17,s18,s19,s20,s21,s22,s23,s24,s25,s26,s27,s28,s29,s30,s31])))) (φ.smallN (UInt32.ofNat (Int.toNat 1))))))),(φ.ok (φ.addN (φ.mulN (dφ φ) (φ.mulN (φ.ofN (topL [s0,s1,s2,s3,s4,s5,s6,s7,s8,s9,s10,s11,s12,s13,s14,s15,s16,s17,s18,s19,s20,s21,s22,s23,s24,s25,s26,s27,s28,s29,s30,s31])) (φ.ofN (topL [s0,s1,s2,s3,s4,s5,s6,s7,s8,s9,s10,s11,s12,s13,s14,s15,s16,s17,s18,s19,s20,s21,s22,s23,s24,s25,s26,s27,s28,s29,s30,s31])))) (φ.smallN (UInt32.ofNat (Int.toNat 1))))),((φ.ok (φ.mulN (dφ φ) (φ.mulN (φ.ofN (topL [s0,s1,s2,s3,s4,s5,s6,s7,s8,s9,s10,s11,s12,s13,s14,s15,s16,s17,s18,s19,s20,s21,s22,s23,s24,s25,s26,s27,s28,s29,s30,s31])) (φ.ofN (topL [s0,s1,s2,s3,s4,s5,s6,s7,s8,s9,s10,s11,s12,s13,s14,s15,s16,s17,s18,s19,s20,s21,s22,s23,s24,s25,s26,s27,s28,s29,s30,s31]))))) && (φ.ok (φ.smallN (UInt32.ofNat (Int.toNat 1))))),((φ.ok (dφ φ)) && (φ.ok (φ.mulN (φ.ofN (topL [s0,s1,s2,s3,s4,s5,s6,s7,s8,s9,s10,s11,s12,s13,s14,s15,s16,s17,s18,s19,s20,s21,s22,s23,s24,s25,s26,s27,s28,s29,s30,s31])) (φ.ofN (topL [s0,s1,s2,s3,s4,s5,s6,s7,s8,s9,s10,s11,s12,s13,s14,s15,s16,s17,s18,s19,s20,s21,s22,s23,s24,s25,s26,s27,s28,s29,s30,s31]))))),((φ.ok (φ.mulN (φ.ofN (topL [s0,s1,s2,s3,s4,s5,s6,s7,s8,s9,s10,s11,s12,s13,s14,s15,s16,s17,s18,s19,s20,s21,s22,s23,s24,s25,s26,s27,s28,s29,s30,s31])) (φ.ofN (topL [s0,s1,s2,s3,s4,s5,s6,s7,s8,s9,s10,s11,s12,s13,s14,s15,s16,s17,s18,s19,s20,s21,s22,s23,s24,s25,s26,s27,s28,s29,s30,s31])))) && (φ.ok (φ.smallN (UInt32.ofNat (Int.toNat 1))))),((φ.ok (φ.ofN (topL [s0,s1,s2,s3,s4,s5,s6,s7,s8,s9,s10,s11,s12,s13,s14,s15,s16,s17,s18,s19,s20,s21,s22,s23,s24,s25,s26,s27,s28,s29,s30,s31]))) && (φ.ok (φ.ofN (topL [s0,s1,s2,s3,s4,s5,s6,s7,s8,s9,s10,s11,s12,s13,s14,s15,s16,s17,s18,s19,s20,s21,s22,s23,s24,s25,s26,s27,s28,s29,s30,s31])))),φ.l32 (topL [s0,s1,s2,s3,s4,s5,s6,s7,s8,s9,s10,s11,s12,s13,s14,s15,s16,s17,s18,s19,s20,s21,s22,s23,s24,s25,s26,s27,s28,s29,s30,s31]),φ.canonN (topL [s0,s1,s2,s3,s4,s5,s6,s7,s8,s9,s10,s11,s12,s13,s14,s15,s16,s17,s18,s19,s20,s21,s22,s23,s24,s25,s26,s27,s28,s29,s30,s31]),!(decOdd [s0,s1,s2,s3,s4,s5,s6,s7,s8,s9,s10,s11,s12,s13,s14,s15,s16,s17,s18,s19,s20,s21,s22,s23,s24,s25,s26,s27,s28,s29,s30,s31])]):=by kernel_rfl
theorem rdeN {φ:Fe}(h:OkF φ) (s:List UInt8):(run1 Tryz.prog (nf φ) (mask 37) 200 37 [.str s] [] Tryz.prog.globals.size).map (·.1)=some (.tup [qAv (decψ φ s),.int .i64 (decRψ φ s)]):=by
 unfold decψ decRψ
 cases hl:isLen s 32
 ·exact ansO_run (nf_ps φ) (d10a φ s) (by simp [allT,ne32 hl])
 have ht:=h.len (topL_len hl)
 obtain ⟨s0,s1,s2,s3,s4,s5,s6,s7,s8,s9,s10,s11,s12,s13,s14,s15,s16,s17,s18,s19,s20,s21,s22,s23,s24,s25,s26,s27,s28,s29,s30,s31,rfl⟩:=len32 (isLen_eq.1 hl)
 simp only [cond_true]
 cases h1:φ.canonN (topL [s0,s1,s2,s3,s4,s5,s6,s7,s8,s9,s10,s11,s12,s13,s14,s15,s16,s17,s18,s19,s20,s21,s22,s23,s24,s25,s26,s27,s28,s29,s30,s31])
 ·have e:okψ φ [s0,s1,s2,s3,s4,s5,s6,s7,s8,s9,s10,s11,s12,s13,s14,s15,s16,s17,s18,s19,s20,s21,s22,s23,s24,s25,s26,s27,s28,s29,s30,s31]=false:=by unfold okψ; rw [h1]; rfl
  rw [e]
  exact ansO_run (nf_ps φ) (d10b φ s0 s1 s2 s3 s4 s5 s6 s7 s8 s9 s10 s11 s12 s13 s14 s15 s16 s17 s18 s19 s20 s21 s22 s23 s24 s25 s26 s27 s28 s29 s30 s31) (by simp only [allT,h1,Bool.not_false,cond_true])
 cases h2:φ.hasN (uψ φ [s0,s1,s2,s3,s4,s5,s6,s7,s8,s9,s10,s11,s12,s13,s14,s15,s16,s17,s18,s19,s20,s21,s22,s23,s24,s25,s26,s27,s28,s29,s30,s31])
 ·have e:okψ φ [s0,s1,s2,s3,s4,s5,s6,s7,s8,s9,s10,s11,s12,s13,s14,s15,s16,s17,s18,s19,s20,s21,s22,s23,s24,s25,s26,s27,s28,s29,s30,s31]=false:=by unfold okψ; rw [h1,h2]; rfl
  rw [e]
  exact ansO_run (nf_ps φ) (d10c φ s0 s1 s2 s3 s4 s5 s6 s7 s8 s9 s10 s11 s12 s13 s14 s15 s16 s17 s18 s19 s20 s21 s22 s23 s24 s25 s26 s27 s28 s29 s30 s31) (by simp (maxDischargeDepth:=40) only [allT,h.add,h.sub,h.mul,h.neg,h.inv,h.root,h.small,h.of,h.len,h.d32,okGiven h,okD h,ht,h1,h2,Bool.and_self,Bool.not_false,Bool.not_true,cond_true])
 cases h3:decOdd [s0,s1,s2,s3,s4,s5,s6,s7,s8,s9,s10,s11,s12,s13,s14,s15,s16,s17,s18,s19,s20,s21,s22,s23,s24,s25,s26,s27,s28,s29,s30,s31]
 ·cases h4:samP (φ.rootN (uψ φ [s0,s1,s2,s3,s4,s5,s6,s7,s8,s9,s10,s11,s12,s13,s14,s15,s16,s17,s18,s19,s20,s21,s22,s23,s24,s25,s26,s27,s28,s29,s30,s31])) zeroN
  ·have e:okψ φ [s0,s1,s2,s3,s4,s5,s6,s7,s8,s9,s10,s11,s12,s13,s14,s15,s16,s17,s18,s19,s20,s21,s22,s23,s24,s25,s26,s27,s28,s29,s30,s31]=true:=by unfold okψ; rw [h1,h2,h4]; rfl
   have e2:xψ φ [s0,s1,s2,s3,s4,s5,s6,s7,s8,s9,s10,s11,s12,s13,s14,s15,s16,s17,s18,s19,s20,s21,s22,s23,s24,s25,s26,s27,s28,s29,s30,s31]=φ.rootN (uψ φ [s0,s1,s2,s3,s4,s5,s6,s7,s8,s9,s10,s11,s12,s13,s14,s15,s16,s17,s18,s19,s20,s21,s22,s23,s24,s25,s26,s27,s28,s29,s30,s31]):=by unfold xψ; rw [h3]; rfl
   rw [e,cond_true,cond_true,e2]
   exact ansO_run (nf_ps φ) (d10g φ s0 s1 s2 s3 s4 s5 s6 s7 s8 s9 s10 s11 s12 s13 s14 s15 s16 s17 s18 s19 s20 s21 s22 s23 s24 s25 s26 s27 s28 s29 s30 s31) (by simp (maxDischargeDepth:=40) only [allT,h.add,h.sub,h.mul,h.neg,h.inv,h.root,h.small,h.of,h.len,h.d32,okGiven h,okD h,ht,h1,h2,h3,h4,Bool.and_self,Bool.not_false,Bool.not_true,cond_true])
  ·have e:okψ φ [s0,s1,s2,s3,s4,s5,s6,s7,s8,s9,s10,s11,s12,s13,s14,s15,s16,s17,s18,s19,s20,s21,s22,s23,s24,s25,s26,s27,s28,s29,s30,s31]=true:=by unfold okψ; rw [h1,h2,h3,h4]; rfl
   have e2:xψ φ [s0,s1,s2,s3,s4,s5,s6,s7,s8,s9,s10,s11,s12,s13,s14,s15,s16,s17,s18,s19,s20,s21,s22,s23,s24,s25,s26,s27,s28,s29,s30,s31]=φ.rootN (uψ φ [s0,s1,s2,s3,s4,s5,s6,s7,s8,s9,s10,s11,s12,s13,s14,s15,s16,s17,s18,s19,s20,s21,s22,s23,s24,s25,s26,s27,s28,s29,s30,s31]):=by unfold xψ; rw [h3]; rfl
   rw [e,cond_true,cond_true,e2]
   exact ansO_run (nf_ps φ) (d10e φ s0 s1 s2 s3 s4 s5 s6 s7 s8 s9 s10 s11 s12 s13 s14 s15 s16 s17 s18 s19 s20 s21 s22 s23 s24 s25 s26 s27 s28 s29 s30 s31) (by simp (maxDischargeDepth:=40) only [allT,h.add,h.sub,h.mul,h.neg,h.inv,h.root,h.small,h.of,h.len,h.d32,okGiven h,okD h,ht,h1,h2,h3,h4,Bool.and_self,Bool.not_false,Bool.not_true,cond_true])
 ·cases h4:samP (φ.rootN (uψ φ [s0,s1,s2,s3,s4,s5,s6,s7,s8,s9,s10,s11,s12,s13,s14,s15,s16,s17,s18,s19,s20,s21,s22,s23,s24,s25,s26,s27,s28,s29,s30,s31])) zeroN
  ·have e:okψ φ [s0,s1,s2,s3,s4,s5,s6,s7,s8,s9,s10,s11,s12,s13,s14,s15,s16,s17,s18,s19,s20,s21,s22,s23,s24,s25,s26,s27,s28,s29,s30,s31]=true:=by unfold okψ; rw [h1,h2,h4]; rfl
   have e2:xψ φ [s0,s1,s2,s3,s4,s5,s6,s7,s8,s9,s10,s11,s12,s13,s14,s15,s16,s17,s18,s19,s20,s21,s22,s23,s24,s25,s26,s27,s28,s29,s30,s31]=φ.negN (φ.rootN (uψ φ [s0,s1,s2,s3,s4,s5,s6,s7,s8,s9,s10,s11,s12,s13,s14,s15,s16,s17,s18,s19,s20,s21,s22,s23,s24,s25,s26,s27,s28,s29,s30,s31])):=by unfold xψ; rw [h3]; rfl
   rw [e,cond_true,cond_true,e2]
   exact ansO_run (nf_ps φ) (d10f φ s0 s1 s2 s3 s4 s5 s6 s7 s8 s9 s10 s11 s12 s13 s14 s15 s16 s17 s18 s19 s20 s21 s22 s23 s24 s25 s26 s27 s28 s29 s30 s31) (by simp (maxDischargeDepth:=40) only [allT,h.add,h.sub,h.mul,h.neg,h.inv,h.root,h.small,h.of,h.len,h.d32,okGiven h,okD h,ht,h1,h2,h3,h4,Bool.and_self,Bool.not_false,Bool.not_true,cond_true])
  ·have e:okψ φ [s0,s1,s2,s3,s4,s5,s6,s7,s8,s9,s10,s11,s12,s13,s14,s15,s16,s17,s18,s19,s20,s21,s22,s23,s24,s25,s26,s27,s28,s29,s30,s31]=false:=by unfold okψ; rw [h1,h2,h3,h4]; rfl
   rw [e]
   exact ansO_run (nf_ps φ) (d10d φ s0 s1 s2 s3 s4 s5 s6 s7 s8 s9 s10 s11 s12 s13 s14 s15 s16 s17 s18 s19 s20 s21 s22 s23 s24 s25 s26 s27 s28 s29 s30 s31) (by simp (maxDischargeDepth:=40) only [allT,h.add,h.sub,h.mul,h.neg,h.inv,h.root,h.small,h.of,h.len,h.d32,okGiven h,okD h,ht,h1,h2,h3,h4,Bool.and_self,Bool.not_false,Bool.not_true,cond_true])
end Go.Proofs.YtcjkbimdmcfppaaGreatDoor
namespace Go.Proofs.YtcjkbimdmcfppaaGreatDoor
open Go Go.Eng Go.Num
def q88 (φ:Fe):List AVal→Option (EffA × Bool)
 | [a,b]=>match qOf a,qOf b with
  | some x0,some x1=>some (.pure (N16.av (teesφ φ x0 x1)),(φ.ok x0.t && φ.ok x1.t))
  | _,_=>none
 | _=>none
theorem q88_ok:CSOk Tryz.prog (csP (psOne 88 (q88 realFe))):=csP_one fun args v he=>by
 unfold q88 at he
 split at he
 ·split at he
  ·rename_i x0 x1 h0 h1
   simp only [Option.some.injEq,Prod.mk.injEq] at he
   obtain ⟨rfl,h⟩:=he
   rw [qOf_eq h0,qOf_eq h1]
   exact callOk_val nf_ok hmix (rte okF x0 x1 (Bool.and_eq_true_iff.1 h).1 (Bool.and_eq_true_iff.1 h).2) rfl rfl
  ·cases he
 ·cases he
def psng (φ:Fe):PS:=(psAlt (psOne 88 (q88 φ)) (psnf φ))
theorem psng_ok:CSOk Tryz.prog (csP (psng realFe)):=(csP_alt q88_ok psnf_ok)
def chng (φ:Fe):CS:=(chnf φ)
theorem chng_ok:CSOk Tryz.prog (chng realFe):=chnf_ok
def ng (φ:Fe):CS:=csAlt (csP (psng φ)) (chng φ)
theorem ng_ok:CSOk Tryz.prog (ng realFe):=csAlt_ok psng_ok chng_ok
theorem ng_ps (φ:Fe):PSOk (psng φ) (ng φ):=csP_ok
end Go.Proofs.YtcjkbimdmcfppaaGreatDoor
namespace Go.Proofs.YtcjkbimdmcfppaaGreatDoor
open Go Go.Eng Go.Num
theorem e18a (φ:Fe) (p q:P4 E5):ansO (run1O Tryz.prog (psnei φ) (nei φ) [12] [true] [] (mask 35) 200 35 [pAv p,pAv q] [] Tryz.prog.globals.size)=some (pAv emptyE,[φ.same p.z zeroE]):=by kernel_rfl
theorem e18b (φ:Fe) (p q:P4 E5):ansO (run1O Tryz.prog (psnei φ) (nei φ) [12,15] [false,true] [] (mask 35) 200 35 [pAv p,pAv q] [] Tryz.prog.globals.size)=some (pAv emptyE,[φ.same q.z zeroE,!(φ.same p.z zeroE)]):=by kernel_rfl
theorem e18c (φ:Fe) (p q:P4 E5):ansO (run1O Tryz.prog (psnei φ) (nei φ) [12,15] [false,false] [] (mask 35) 200 35 [pAv p,pAv q] [] Tryz.prog.globals.size)=some (pAv (addO (opsφ φ) (curveφ φ) p q),[!(φ.same q.z zeroE),!(φ.same p.z zeroE)]):=by kernel_rfl
theorem rad (φ:Fe) (p q:P4 E5):(run1 Tryz.prog (nei φ) (mask 35) 200 35 [pAv p,pAv q] [] Tryz.prog.globals.size).map (·.1)=some (pAv (addφ φ p q)):=by
 unfold addφ noneφ
 cases h1:φ.same p.z zeroE
 ·cases h2:φ.same q.z zeroE
  ·exact ansO_run (nei_ps φ) (e18c φ p q) (by simp [allT,h1,h2])
  ·exact ansO_run (nei_ps φ) (e18b φ p q) (by simp [allT,h1,h2])
 ·exact ansO_run (nei_ps φ) (e18a φ p q) (by simp [allT,h1])
theorem rz1 (φ:Fe):(run1 Tryz.prog (nei φ) (mask 56) 200 56 [] [] Tryz.prog.globals.size).map (·.1)=some (pAv (zeroφ φ)):=by kernel_rfl
theorem e12a (φ:Fe) (p:P4 E5):ansO (run1O Tryz.prog (psnei φ) (nei φ) [6] [true] [] (mask 22) 200 22 [pAv p] [] Tryz.prog.globals.size)=some (.str [],[φ.same p.z zeroE]):=by kernel_rfl
theorem e12b (φ:Fe) (p:P4 E5):ansO (run1O Tryz.prog (psnei φ) (nei φ) [6,20] [false,true] [] (mask 22) 200 22 [pAv p] [] Tryz.prog.globals.size)=some (.str (top128 (byLφ φ (φ.mul p.y (φ.inv p.z)))),[φ.odd (φ.mul p.x (φ.inv p.z)),!(φ.same p.z zeroE)]):=by kernel_rfl
theorem e12c (φ:Fe) (p:P4 E5):ansO (run1O Tryz.prog (psnei φ) (nei φ) [6,20] [false,false] [] (mask 22) 200 22 [pAv p] [] Tryz.prog.globals.size)=some (.str (byLφ φ (φ.mul p.y (φ.inv p.z))),[!(φ.odd (φ.mul p.x (φ.inv p.z))),!(φ.same p.z zeroE)]):=by kernel_rfl
theorem rby (φ:Fe) (p:P4 E5):(run1 Tryz.prog (nei φ) (mask 22) 200 22 [pAv p] [] Tryz.prog.globals.size).map (·.1)=some (.str (bytesφ φ p)):=by
 unfold bytesφ noneφ
 cases h1:φ.same p.z zeroE
 ·cases h2:φ.odd (φ.mul p.x (φ.inv p.z))
  ·exact ansO_run (nei_ps φ) (e12c φ p) (by simp [allT,h1,h2])
  ·exact ansO_run (nei_ps φ) (e12b φ p) (by simp [allT,h1,h2])
 ·exact ansO_run (nei_ps φ) (e12a φ p) (by simp [allT,h1])
theorem e13a (φ:Fe) (p q:P4 E5):ansO (run1O Tryz.prog (psnei φ) (nei φ) [6] [true] [] (mask 34) 200 34 [pAv p,pAv q] [] Tryz.prog.globals.size)=some (.bool false,[φ.same p.z zeroE]):=by kernel_rfl
theorem e13b (φ:Fe) (p q:P4 E5):ansO (run1O Tryz.prog (psnei φ) (nei φ) [6,10] [false,true] [] (mask 34) 200 34 [pAv p,pAv q] [] Tryz.prog.globals.size)=some (.bool false,[φ.same q.z zeroE,!(φ.same p.z zeroE)]):=by kernel_rfl
theorem e13c (φ:Fe) (p q:P4 E5):ansO (run1O Tryz.prog (psnei φ) (nei φ) [6,10,24] [false,false,false] [] (mask 34) 200 34 [pAv p,pAv q] [] Tryz.prog.globals.size)=some (.bool false,[!(φ.same (φ.mul p.x q.z) (φ.mul q.x p.z)),!(φ.same q.z zeroE),!(φ.same p.z zeroE)]):=by kernel_rfl
theorem e13d (φ:Fe) (p q:P4 E5):ansO (run1O Tryz.prog (psnei φ) (nei φ) [6,10,24] [false,false,true] [] (mask 34) 200 34 [pAv p,pAv q] [] Tryz.prog.globals.size)=some (.bool (φ.same (φ.mul p.y q.z) (φ.mul q.y p.z)),[φ.same (φ.mul p.x q.z) (φ.mul q.x p.z),!(φ.same q.z zeroE),!(φ.same p.z zeroE)]):=by kernel_rfl
theorem rsa (φ:Fe) (p q:P4 E5):(run1 Tryz.prog (nei φ) (mask 34) 200 34 [pAv p,pAv q] [] Tryz.prog.globals.size).map (·.1)=some (.bool (sameφ φ p q)):=by
 unfold sameφ noneφ
 cases h1:φ.same p.z zeroE
 ·cases h2:φ.same q.z zeroE
  ·cases h3:φ.same (φ.mul p.x q.z) (φ.mul q.x p.z)
   ·exact ansO_run (nei_ps φ) (e13c φ p q) (by simp [allT,h1,h2,h3])
   ·exact ansO_run (nei_ps φ) (e13d φ p q) (by simp [allT,h1,h2,h3])
  ·exact ansO_run (nei_ps φ) (e13b φ p q) (by simp [allT,h1,h2])
 ·exact ansO_run (nei_ps φ) (e13a φ p q) (by simp [allT,h1])
theorem e9a (φ:Fe) (s:List UInt8):ansO (run1O Tryz.prog (psnei φ) (nei φ) [14] [true] [] (mask 31) 200 31 [.str s] [] Tryz.prog.globals.size)=some (.tup [pAv emptyE,.int .i64 2],[((s.length:Int) != 32)]):=by kernel_rfl
theorem e9b (φ:Fe) (s0 s1 s2 s3 s4 s5 s6 s7 s8 s9 s10 s11 s12 s13 s14 s15 s16 s17 s18 s19 s20 s21 s22 s23 s24 s25 s26 s27 s28 s29 s30 s31:UInt8):ansO (run1O Tryz.prog (psnei φ) (nei φ) [29] [false] [] (mask 31) 200 31 [.str [s0,s1,s2,s3,s4,s5,s6,s7,s8,s9,s10,s11,s12,s13,s14,s15,s16,s17,s18,s19,s20,s21,s22,s23,s24,s25,s26,s27,s28,s29,s30,s31]] [] Tryz.prog.globals.size)=some (.tup [pAv emptyE,.int .i64 40],[!(φ.canon (topL [s0,s1,s2,s3,s4,s5,s6,s7,s8,s9,s10,s11,s12,s13,s14,s15,s16,s17,s18,s19,s20,s21,s22,s23,s24,s25,s26,s27,s28,s29,s30,s31]))]):=by kernel_rfl
theorem e9c (φ:Fe) (s0 s1 s2 s3 s4 s5 s6 s7 s8 s9 s10 s11 s12 s13 s14 s15 s16 s17 s18 s19 s20 s21 s22 s23 s24 s25 s26 s27 s28 s29 s30 s31:UInt8):ansO (run1O Tryz.prog (psnei φ) (nei φ) [29,55] [true,false] [] (mask 31) 200 31 [.str [s0,s1,s2,s3,s4,s5,s6,s7,s8,s9,s10,s11,s12,s13,s14,s15,s16,s17,s18,s19,s20,s21,s22,s23,s24,s25,s26,s27,s28,s29,s30,s31]] [] Tryz.prog.globals.size)=some (.tup [pAv emptyE,.int .i64 40],[!(φ.has (uφ φ [s0,s1,s2,s3,s4,s5,s6,s7,s8,s9,s10,s11,s12,s13,s14,s15,s16,s17,s18,s19,s20,s21,s22,s23,s24,s25,s26,s27,s28,s29,s30,s31])),φ.canon (topL [s0,s1,s2,s3,s4,s5,s6,s7,s8,s9,s10,s11,s12,s13,s14,s15,s16,s17,s18,s19,s20,s21,s22,s23,s24,s25,s26,s27,s28,s29,s30,s31])]):=by kernel_rfl
theorem e9d (φ:Fe) (s0 s1 s2 s3 s4 s5 s6 s7 s8 s9 s10 s11 s12 s13 s14 s15 s16 s17 s18 s19 s20 s21 s22 s23 s24 s25 s26 s27 s28 s29 s30 s31:UInt8):ansO (run1O Tryz.prog (psnei φ) (nei φ) [22,29,55,63] [true,true,true,true] [] (mask 31) 200 31 [.str [s0,s1,s2,s3,s4,s5,s6,s7,s8,s9,s10,s11,s12,s13,s14,s15,s16,s17,s18,s19,s20,s21,s22,s23,s24,s25,s26,s27,s28,s29,s30,s31]] [] Tryz.prog.globals.size)=some (.tup [pAv emptyE,.int .i64 40],[φ.same (φ.root (uφ φ [s0,s1,s2,s3,s4,s5,s6,s7,s8,s9,s10,s11,s12,s13,s14,s15,s16,s17,s18,s19,s20,s21,s22,s23,s24,s25,s26,s27,s28,s29,s30,s31])) zeroE,φ.has (uφ φ [s0,s1,s2,s3,s4,s5,s6,s7,s8,s9,s10,s11,s12,s13,s14,s15,s16,s17,s18,s19,s20,s21,s22,s23,s24,s25,s26,s27,s28,s29,s30,s31]),φ.canon (topL [s0,s1,s2,s3,s4,s5,s6,s7,s8,s9,s10,s11,s12,s13,s14,s15,s16,s17,s18,s19,s20,s21,s22,s23,s24,s25,s26,s27,s28,s29,s30,s31]),decOdd [s0,s1,s2,s3,s4,s5,s6,s7,s8,s9,s10,s11,s12,s13,s14,s15,s16,s17,s18,s19,s20,s21,s22,s23,s24,s25,s26,s27,s28,s29,s30,s31]]):=by kernel_rfl
theorem e9e (φ:Fe) (s0 s1 s2 s3 s4 s5 s6 s7 s8 s9 s10 s11 s12 s13 s14 s15 s16 s17 s18 s19 s20 s21 s22 s23 s24 s25 s26 s27 s28 s29 s30 s31:UInt8):ansO (run1O Tryz.prog (psnei φ) (nei φ) [22,29,55,63] [true,true,true,false] [] (mask 31) 200 31 [.str [s0,s1,s2,s3,s4,s5,s6,s7,s8,s9,s10,s11,s12,s13,s14,s15,s16,s17,s18,s19,s20,s21,s22,s23,s24,s25,s26,s27,s28,s29,s30,s31]] [] Tryz.prog.globals.size)=some (.tup [pAv ⟨φ.neg (φ.root (uφ φ [s0,s1,s2,s3,s4,s5,s6,s7,s8,s9,s10,s11,s12,s13,s14,s15,s16,s17,s18,s19,s20,s21,s22,s23,s24,s25,s26,s27,s28,s29,s30,s31])),yφ φ [s0,s1,s2,s3,s4,s5,s6,s7,s8,s9,s10,s11,s12,s13,s14,s15,s16,s17,s18,s19,s20,s21,s22,s23,s24,s25,s26,s27,s28,s29,s30,s31],φ.small 1,φ.mul (φ.neg (φ.root (uφ φ [s0,s1,s2,s3,s4,s5,s6,s7,s8,s9,s10,s11,s12,s13,s14,s15,s16,s17,s18,s19,s20,s21,s22,s23,s24,s25,s26,s27,s28,s29,s30,s31]))) (yφ φ [s0,s1,s2,s3,s4,s5,s6,s7,s8,s9,s10,s11,s12,s13,s14,s15,s16,s17,s18,s19,s20,s21,s22,s23,s24,s25,s26,s27,s28,s29,s30,s31])⟩,.int .i64 0],[!(φ.same (φ.root (uφ φ [s0,s1,s2,s3,s4,s5,s6,s7,s8,s9,s10,s11,s12,s13,s14,s15,s16,s17,s18,s19,s20,s21,s22,s23,s24,s25,s26,s27,s28,s29,s30,s31])) zeroE),φ.has (uφ φ [s0,s1,s2,s3,s4,s5,s6,s7,s8,s9,s10,s11,s12,s13,s14,s15,s16,s17,s18,s19,s20,s21,s22,s23,s24,s25,s26,s27,s28,s29,s30,s31]),φ.canon (topL [s0,s1,s2,s3,s4,s5,s6,s7,s8,s9,s10,s11,s12,s13,s14,s15,s16,s17,s18,s19,s20,s21,s22,s23,s24,s25,s26,s27,s28,s29,s30,s31]),decOdd [s0,s1,s2,s3,s4,s5,s6,s7,s8,s9,s10,s11,s12,s13,s14,s15,s16,s17,s18,s19,s20,s21,s22,s23,s24,s25,s26,s27,s28,s29,s30,s31]]):=by kernel_rfl
theorem e9f (φ:Fe) (s0 s1 s2 s3 s4 s5 s6 s7 s8 s9 s10 s11 s12 s13 s14 s15 s16 s17 s18 s19 s20 s21 s22 s23 s24 s25 s26 s27 s28 s29 s30 s31:UInt8):ansO (run1O Tryz.prog (psnei φ) (nei φ) [22,29,55] [false,true,true] [] (mask 31) 200 31 [.str [s0,s1,s2,s3,s4,s5,s6,s7,s8,s9,s10,s11,s12,s13,s14,s15,s16,s17,s18,s19,s20,s21,s22,s23,s24,s25,s26,s27,s28,s29,s30,s31]] [] Tryz.prog.globals.size)=some (.tup [pAv ⟨φ.root (uφ φ [s0,s1,s2,s3,s4,s5,s6,s7,s8,s9,s10,s11,s12,s13,s14,s15,s16,s17,s18,s19,s20,s21,s22,s23,s24,s25,s26,s27,s28,s29,s30,s31]),yφ φ [s0,s1,s2,s3,s4,s5,s6,s7,s8,s9,s10,s11,s12,s13,s14,s15,s16,s17,s18,s19,s20,s21,s22,s23,s24,s25,s26,s27,s28,s29,s30,s31],φ.small 1,φ.mul (φ.root (uφ φ [s0,s1,s2,s3,s4,s5,s6,s7,s8,s9,s10,s11,s12,s13,s14,s15,s16,s17,s18,s19,s20,s21,s22,s23,s24,s25,s26,s27,s28,s29,s30,s31])) (yφ φ [s0,s1,s2,s3,s4,s5,s6,s7,s8,s9,s10,s11,s12,s13,s14,s15,s16,s17,s18,s19,s20,s21,s22,s23,s24,s25,s26,s27,s28,s29,s30,s31])⟩,.int .i64 0],[φ.has (uφ φ [s0,s1,s2,s3,s4,s5,s6,s7,s8,s9,s10,s11,s12,s13,s14,s15,s16,s17,s18,s19,s20,s21,s22,s23,s24,s25,s26,s27,s28,s29,s30,s31]),φ.canon (topL [s0,s1,s2,s3,s4,s5,s6,s7,s8,s9,s10,s11,s12,s13,s14,s15,s16,s17,s18,s19,s20,s21,s22,s23,s24,s25,s26,s27,s28,s29,s30,s31]),!(decOdd [s0,s1,s2,s3,s4,s5,s6,s7,s8,s9,s10,s11,s12,s13,s14,s15,s16,s17,s18,s19,s20,s21,s22,s23,s24,s25,s26,s27,s28,s29,s30,s31])]):=by kernel_rfl
theorem rde (φ:Fe) (s:List UInt8):(run1 Tryz.prog (nei φ) (mask 31) 200 31 [.str s] [] Tryz.prog.globals.size).map (·.1)=some (.tup [pAv (decφ φ s),.int .i64 (decRφ φ s)]):=by
 unfold decφ decRφ
 cases hl:isLen s 32
 ·exact ansO_run (nei_ps φ) (e9a φ s) (by simp [allT,ne32 hl])
 obtain ⟨s0,s1,s2,s3,s4,s5,s6,s7,s8,s9,s10,s11,s12,s13,s14,s15,s16,s17,s18,s19,s20,s21,s22,s23,s24,s25,s26,s27,s28,s29,s30,s31,rfl⟩:=len32 (isLen_eq.1 hl)
 simp only [cond_true]
 cases h1:φ.canon (topL [s0,s1,s2,s3,s4,s5,s6,s7,s8,s9,s10,s11,s12,s13,s14,s15,s16,s17,s18,s19,s20,s21,s22,s23,s24,s25,s26,s27,s28,s29,s30,s31])
 ·have e:okφ φ [s0,s1,s2,s3,s4,s5,s6,s7,s8,s9,s10,s11,s12,s13,s14,s15,s16,s17,s18,s19,s20,s21,s22,s23,s24,s25,s26,s27,s28,s29,s30,s31]=false:=by unfold okφ; rw [h1]; rfl
  rw [e]
  exact ansO_run (nei_ps φ) (e9b φ s0 s1 s2 s3 s4 s5 s6 s7 s8 s9 s10 s11 s12 s13 s14 s15 s16 s17 s18 s19 s20 s21 s22 s23 s24 s25 s26 s27 s28 s29 s30 s31) (by rw [h1]; rfl)
 cases h2:φ.has (uφ φ [s0,s1,s2,s3,s4,s5,s6,s7,s8,s9,s10,s11,s12,s13,s14,s15,s16,s17,s18,s19,s20,s21,s22,s23,s24,s25,s26,s27,s28,s29,s30,s31])
 ·have e:okφ φ [s0,s1,s2,s3,s4,s5,s6,s7,s8,s9,s10,s11,s12,s13,s14,s15,s16,s17,s18,s19,s20,s21,s22,s23,s24,s25,s26,s27,s28,s29,s30,s31]=false:=by unfold okφ; rw [h1,h2]; rfl
  rw [e]
  exact ansO_run (nei_ps φ) (e9c φ s0 s1 s2 s3 s4 s5 s6 s7 s8 s9 s10 s11 s12 s13 s14 s15 s16 s17 s18 s19 s20 s21 s22 s23 s24 s25 s26 s27 s28 s29 s30 s31) (by rw [h1,h2]; rfl)
 cases h3:decOdd [s0,s1,s2,s3,s4,s5,s6,s7,s8,s9,s10,s11,s12,s13,s14,s15,s16,s17,s18,s19,s20,s21,s22,s23,s24,s25,s26,s27,s28,s29,s30,s31]
 ·have e:okφ φ [s0,s1,s2,s3,s4,s5,s6,s7,s8,s9,s10,s11,s12,s13,s14,s15,s16,s17,s18,s19,s20,s21,s22,s23,s24,s25,s26,s27,s28,s29,s30,s31]=true:=by unfold okφ; rw [h1,h2,h3]; rfl
  have e2:decPφ φ [s0,s1,s2,s3,s4,s5,s6,s7,s8,s9,s10,s11,s12,s13,s14,s15,s16,s17,s18,s19,s20,s21,s22,s23,s24,s25,s26,s27,s28,s29,s30,s31]=⟨φ.root (uφ φ [s0,s1,s2,s3,s4,s5,s6,s7,s8,s9,s10,s11,s12,s13,s14,s15,s16,s17,s18,s19,s20,s21,s22,s23,s24,s25,s26,s27,s28,s29,s30,s31]),yφ φ [s0,s1,s2,s3,s4,s5,s6,s7,s8,s9,s10,s11,s12,s13,s14,s15,s16,s17,s18,s19,s20,s21,s22,s23,s24,s25,s26,s27,s28,s29,s30,s31],φ.small 1,φ.mul (φ.root (uφ φ [s0,s1,s2,s3,s4,s5,s6,s7,s8,s9,s10,s11,s12,s13,s14,s15,s16,s17,s18,s19,s20,s21,s22,s23,s24,s25,s26,s27,s28,s29,s30,s31])) (yφ φ [s0,s1,s2,s3,s4,s5,s6,s7,s8,s9,s10,s11,s12,s13,s14,s15,s16,s17,s18,s19,s20,s21,s22,s23,s24,s25,s26,s27,s28,s29,s30,s31])⟩:=by unfold decPφ xφ; rw [h3]; rfl
  rw [e,cond_true,cond_true,e2]
  exact ansO_run (nei_ps φ) (e9f φ s0 s1 s2 s3 s4 s5 s6 s7 s8 s9 s10 s11 s12 s13 s14 s15 s16 s17 s18 s19 s20 s21 s22 s23 s24 s25 s26 s27 s28 s29 s30 s31) (by rw [h1,h2,h3]; rfl)
 cases h4:φ.same (φ.root (uφ φ [s0,s1,s2,s3,s4,s5,s6,s7,s8,s9,s10,s11,s12,s13,s14,s15,s16,s17,s18,s19,s20,s21,s22,s23,s24,s25,s26,s27,s28,s29,s30,s31])) zeroE
 ·have e:okφ φ [s0,s1,s2,s3,s4,s5,s6,s7,s8,s9,s10,s11,s12,s13,s14,s15,s16,s17,s18,s19,s20,s21,s22,s23,s24,s25,s26,s27,s28,s29,s30,s31]=true:=by unfold okφ; rw [h1,h2,h3,h4]; rfl
  have e2:decPφ φ [s0,s1,s2,s3,s4,s5,s6,s7,s8,s9,s10,s11,s12,s13,s14,s15,s16,s17,s18,s19,s20,s21,s22,s23,s24,s25,s26,s27,s28,s29,s30,s31]=⟨φ.neg (φ.root (uφ φ [s0,s1,s2,s3,s4,s5,s6,s7,s8,s9,s10,s11,s12,s13,s14,s15,s16,s17,s18,s19,s20,s21,s22,s23,s24,s25,s26,s27,s28,s29,s30,s31])),yφ φ [s0,s1,s2,s3,s4,s5,s6,s7,s8,s9,s10,s11,s12,s13,s14,s15,s16,s17,s18,s19,s20,s21,s22,s23,s24,s25,s26,s27,s28,s29,s30,s31],φ.small 1,φ.mul (φ.neg (φ.root (uφ φ [s0,s1,s2,s3,s4,s5,s6,s7,s8,s9,s10,s11,s12,s13,s14,s15,s16,s17,s18,s19,s20,s21,s22,s23,s24,s25,s26,s27,s28,s29,s30,s31]))) (yφ φ [s0,s1,s2,s3,s4,s5,s6,s7,s8,s9,s10,s11,s12,s13,s14,s15,s16,s17,s18,s19,s20,s21,s22,s23,s24,s25,s26,s27,s28,s29,s30,s31])⟩:=by unfold decPφ xφ; rw [h3]; rfl
  rw [e,cond_true,cond_true,e2]
  exact ansO_run (nei_ps φ) (e9e φ s0 s1 s2 s3 s4 s5 s6 s7 s8 s9 s10 s11 s12 s13 s14 s15 s16 s17 s18 s19 s20 s21 s22 s23 s24 s25 s26 s27 s28 s29 s30 s31) (by rw [h1,h2,h3,h4]; rfl)
 ·have e:okφ φ [s0,s1,s2,s3,s4,s5,s6,s7,s8,s9,s10,s11,s12,s13,s14,s15,s16,s17,s18,s19,s20,s21,s22,s23,s24,s25,s26,s27,s28,s29,s30,s31]=false:=by unfold okφ; rw [h1,h2,h3,h4]; rfl
  rw [e]
  exact ansO_run (nei_ps φ) (e9d φ s0 s1 s2 s3 s4 s5 s6 s7 s8 s9 s10 s11 s12 s13 s14 s15 s16 s17 s18 s19 s20 s21 s22 s23 s24 s25 s26 s27 s28 s29 s30 s31) (by rw [h1,h2,h3,h4]; rfl)
end Go.Proofs.YtcjkbimdmcfppaaGreatDoor
namespace Go.Proofs.YtcjkbimdmcfppaaGreatDoor
open Go Go.Eng Go.Num
theorem d19 (φ:Fe) (p q:P4 N16):ansO (run1O Tryz.prog (psng φ) (ng φ) [15,20,21,26,31,32,35,40,43,46,49,52,55,58] [] [] (mask 40) 200 40 [qAv p,qAv q] [] Tryz.prog.globals.size)=some (qAv (addψ φ p q),[((φ.ok (φ.addN (φ.mulN p.x q.y) (φ.mulN p.y q.x))) && (φ.ok (φ.addN (φ.mulN p.y q.y) (φ.mulN p.x q.x)))),((φ.ok (φ.subN (φ.mulN p.z q.z) (teesφ φ p q))) && (φ.ok (φ.addN (φ.mulN p.z q.z) (teesφ φ p q)))),((φ.ok (φ.addN (φ.mulN p.z q.z) (teesφ φ p q))) && (φ.ok (φ.addN (φ.mulN p.y q.y) (φ.mulN p.x q.x)))),((φ.ok (φ.addN (φ.mulN p.x q.y) (φ.mulN p.y q.x))) && (φ.ok (φ.subN (φ.mulN p.z q.z) (teesφ φ p q)))),((φ.ok (φ.mulN p.z q.z)) && (φ.ok (teesφ φ p q))),((φ.ok (φ.mulN p.z q.z)) && (φ.ok (teesφ φ p q))),((φ.ok p.z) && (φ.ok q.z)),((φ.ok p.t) && (φ.ok q.t)),((φ.ok (φ.mulN p.y q.y)) && (φ.ok (φ.mulN p.x q.x))),((φ.ok p.x) && (φ.ok q.x)),((φ.ok p.y) && (φ.ok q.y)),((φ.ok (φ.mulN p.x q.y)) && (φ.ok (φ.mulN p.y q.x))),((φ.ok p.y) && (φ.ok q.x)),((φ.ok p.x) && (φ.ok q.y))]):=by kernel_rfl
theorem okT {φ:Fe}(h:OkF φ){p q:P4 N16}(p4:φ.ok p.t=true) (q4:φ.ok q.t=true):φ.ok (teesφ φ p q)=true:=h.mul (h.mul (okGiven h) p4) q4
theorem radN {φ:Fe}(h:OkF φ) (p q:P4 N16) (p1:φ.ok p.x=true) (p2:φ.ok p.y=true) (p3:φ.ok p.z=true) (p4:φ.ok p.t=true) (q1:φ.ok q.x=true) (q2:φ.ok q.y=true) (q3:φ.ok q.z=true) (q4:φ.ok q.t=true):(run1 Tryz.prog (ng φ) (mask 40) 200 40 [qAv p,qAv q] [] Tryz.prog.globals.size).map (·.1)=some (qAv (addψ φ p q)):=ansO_run (ng_ps φ) (d19 φ p q) (by simp (maxDischargeDepth:=40) only [allT,h.add,h.sub,h.mul,h.neg,h.inv,h.root,h.small,h.of,h.len,h.d32,okGiven h,okT h,p1,p2,p3,p4,q1,q2,q3,q4,Bool.and_self,Bool.not_false,Bool.not_true,cond_true])
end Go.Proofs.YtcjkbimdmcfppaaGreatDoor
namespace Go.Num
open Go Go.Eng
structure Fi where
 add:P4 E5→P4 E5→P4 E5
 neg:P4 E5→P4 E5
 same:P4 E5→P4 E5→Bool
 zero:P4 E5
 none:P4 E5→Bool
 bytes:P4 E5→List UInt8
 dec:List UInt8→P4 E5
 decR:List UInt8→Int
 small:P4 E5→Bool
 mul:P4 E5→W4→P4 E5
 base:P4 E5
 addQ:P4 N16→P4 N16→P4 N16
 negQ:P4 N16→P4 N16
 sameQ:P4 N16→P4 N16→Bool
 zeroQ:P4 N16
 bytesQ:P4 N16→List UInt8
 decQ:List UInt8→P4 N16
 decRQ:List UInt8→Int
 smallQ:P4 N16→Bool
 mulQ:P4 N16→N16→P4 N16
 baseQ:P4 N16
 onQ:P4 N16→Bool
 given:Bool
 okQ:P4 N16→Bool
 sof:List UInt8→W4
 sofR:List UInt8→Int
 sby:W4→List UInt8
 sadd:W4→W4→W4
 smul:W4→W4→W4
 sneg:W4→W4
 nof:List UInt8→N16
def smallG {P:Type}(add:P→P→P) (same:P→P→Bool) (zero p:P):Bool:=same (add (add (add p p) (add p p)) (add (add p p) (add p p))) zero
def mulG {P:Type}(add:P→P→P) (zero empty:P) (none:P→Bool) (p:P) (bit:Nat→Bool):P:=cond (none p) empty (iterG add zero p bit 256)
def mulE4 (p:P4 E5) (n:W4):P4 E5:=mulG (addφ realFe) (zeroφ realFe) emptyE (noneφ realFe) p (bitK (bytesW n))
def mulN4 (p:P4 N16) (n:N16):P4 N16:=iterG (addψ realFe) (zeroψ realFe) p (bitN16 n) 256
def realFi:Fi:={
 add:=addφ realFe
 neg:=negφ realFe
 same:=sameφ realFe
 zero:=zeroφ realFe
 none:=noneφ realFe
 bytes:=bytesφ realFe
 dec:=decφ realFe
 decR:=decRφ realFe
 small:=smallG (addφ realFe) (sameφ realFe) (zeroφ realFe)
 mul:=mulE4
 base:=decφ realFe baseL
 addQ:=addψ realFe
 negQ:=negψ realFe
 sameQ:=sameψ realFe
 zeroQ:=zeroψ realFe
 bytesQ:=bytesψ realFe
 decQ:=decψ realFe
 decRQ:=decRψ realFe
 smallQ:=smallG (addψ realFe) (sameψ realFe) (zeroψ realFe)
 mulQ:=mulN4
 baseQ:=decψ realFe baseL
 onQ:=onψ realFe
 given:=samP (givenφ realFe) (dφ realFe)
 okQ:=okQ0 realFe
 sof:=oV
 sofR:=oE
 sby:=bytesW
 sadd:=addW
 smul:=mulW
 sneg:=negW
 nof:=ofN }
structure OkI (φ:Fi):Prop where
 add:∀ {a b},φ.okQ a=true→φ.okQ b=true→φ.okQ (φ.addQ a b)=true
 zero:φ.okQ φ.zeroQ=true
theorem iterG_ok {P:Type}{add:P→P→P}{zero p:P}{bit:Nat→Bool}{ok:P→Prop}(hz:ok zero) (hp:ok p) (ha:∀ a b,ok a→ok b→ok (add a b)):∀ j,ok (iterG add zero p bit j)
 | 0=>hz
 | j+1=>by
  have:=iterG_ok (bit:=bit) hz hp ha j
  unfold iterG
  cases bit (255 - j)
  ·exact ha _ _ this this
  ·exact ha _ _ (ha _ _ this this) hp
end Go.Num
namespace Go.Num
open Go Go.Eng
theorem mul_eq (p:P4 E5) (n:W4):realFi.mul p n=mulG realFi.add realFi.zero emptyE realFi.none p (bitK (realFi.sby n)):=by simp only [realFi,mulE4]
theorem mulQ_eq (p:P4 N16) (n:N16):realFi.mulQ p n=iterG realFi.addQ realFi.zeroQ p (bitN16 n) 256:=by simp only [realFi,mulN4]
theorem small_eq (p:P4 E5):realFi.small p=smallG realFi.add realFi.same realFi.zero p:=by simp only [realFi]
theorem smallQ_eq (p:P4 N16):realFi.smallQ p=smallG realFi.addQ realFi.sameQ realFi.zeroQ p:=by simp only [realFi]
theorem base_eq:realFi.base=realFi.dec baseL:=by simp only [realFi]
theorem baseQ_eq:realFi.baseQ=realFi.decQ baseL:=by simp only [realFi]
theorem sby_len (n:W4):(realFi.sby n).length=32:=by
 show (bytesW n).length=32
 unfold bytesW; rw [List.length_map,List.length_range]
end Go.Num
namespace Go.Proofs.YtcjkbimdmcfppaaGreatDoor
open Go Go.Eng Go.Num
theorem rno (φ:Fe) (p:P4 E5):(run1 Tryz.prog (ne φ) (mask 55) 200 55 [pAv p] [] Tryz.prog.globals.size).map (·.1)=some (.bool (noneφ φ p)):=by kernel_rfl
def h35 (φ:Fi):List AVal→Option EffA
 | [a,b]=>match pOf a,pOf b with
  | some x0,some x1=>some (.pure (pAv (φ.add x0 x1)))
  | _,_=>none
 | _=>none
theorem h35_ok:CSOk Tryz.prog (csOne 35 (h35 realFi)):=csOne_ok fun args e he=>by
 unfold h35 at he
 split at he
 ·split at he
  ·rename_i x0 x1 h0 h1
   cases he
   rw [pOf_eq h0,pOf_eq h1]
   exact callOk_val nei_ok hmix (rad realFe x0 x1) rfl rfl
  ·cases he
 ·cases he
def h34 (φ:Fi):List AVal→Option EffA
 | [a,b]=>match pOf a,pOf b with
  | some x0,some x1=>some (.pure (.bool (φ.same x0 x1)))
  | _,_=>none
 | _=>none
theorem h34_ok:CSOk Tryz.prog (csOne 34 (h34 realFi)):=csOne_ok fun args e he=>by
 unfold h34 at he
 split at he
 ·split at he
  ·rename_i x0 x1 h0 h1
   cases he
   rw [pOf_eq h0,pOf_eq h1]
   exact callOk_val nei_ok hmix (rsa realFe x0 x1) rfl rfl
  ·cases he
 ·cases he
def h56 (φ:Fi):List AVal→Option EffA
 | []=>some (.pure (pAv φ.zero))
 | _=>none
theorem h56_ok:CSOk Tryz.prog (csOne 56 (h56 realFi)):=csOne_ok fun args e he=>by
 unfold h56 at he
 split at he
 ·cases he
  exact callOk_val nei_ok hmix (rz1 realFe) rfl rfl
 ·cases he
def h55 (φ:Fi):List AVal→Option EffA
 | [a]=>match pOf a with
  | some x0=>some (.pure (.bool (φ.none x0)))
  | _=>none
 | _=>none
theorem h55_ok:CSOk Tryz.prog (csOne 55 (h55 realFi)):=csOne_ok fun args e he=>by
 unfold h55 at he
 split at he
 ·split at he
  ·rename_i x0 h0
   cases he
   rw [pOf_eq h0]
   exact callOk_val ne_ok hmix (rno realFe x0) rfl rfl
  ·cases he
 ·cases he
def h22 (φ:Fi):List AVal→Option EffA
 | [a]=>match pOf a with
  | some x0=>some (.pure (.str (φ.bytes x0)))
  | _=>none
 | _=>none
theorem h22_ok:CSOk Tryz.prog (csOne 22 (h22 realFi)):=csOne_ok fun args e he=>by
 unfold h22 at he
 split at he
 ·split at he
  ·rename_i x0 h0
   cases he
   rw [pOf_eq h0]
   exact callOk_val nei_ok hmix (rby realFe x0) rfl rfl
  ·cases he
 ·cases he
def h31 (φ:Fi):List AVal→Option EffA
 | [a]=>match sOf a with
  | some x0=>some (.pure (.tup [pAv (φ.dec x0),.int .i64 (φ.decR x0)]))
  | _=>none
 | _=>none
theorem h31_ok:CSOk Tryz.prog (csOne 31 (h31 realFi)):=csOne_ok fun args e he=>by
 unfold h31 at he
 split at he
 ·split at he
  ·rename_i x0 h0
   cases he
   rw [sOf_eq h0]
   exact callOk_val nei_ok hmix (rde realFe x0) rfl rfl
  ·cases he
 ·cases he
def h40 (φ:Fi):List AVal→Option (EffA × Bool)
 | [a,b]=>match qOf a,qOf b with
  | some x0,some x1=>some (.pure (qAv (φ.addQ x0 x1)),(φ.okQ x0 && φ.okQ x1))
  | _,_=>none
 | _=>none
theorem h40_ok:CSOk Tryz.prog (csP (psOne 40 (h40 realFi))):=csP_one fun args v he=>by
 unfold h40 at he
 split at he
 ·split at he
  ·rename_i x0 x1 h0 h1
   simp only [Option.some.injEq,Prod.mk.injEq] at he
   obtain ⟨rfl,h⟩:=he
   rw [qOf_eq h0,qOf_eq h1]
   exact callOk_val ng_ok hmix (radN okF x0 x1 (okQ_iff.1 (Bool.and_eq_true_iff.1 h).1).1 (okQ_iff.1 (Bool.and_eq_true_iff.1 h).1).2.1 (okQ_iff.1 (Bool.and_eq_true_iff.1 h).1).2.2.1 (okQ_iff.1 (Bool.and_eq_true_iff.1 h).1).2.2.2 (okQ_iff.1 (Bool.and_eq_true_iff.1 h).2).1 (okQ_iff.1 (Bool.and_eq_true_iff.1 h).2).2.1 (okQ_iff.1 (Bool.and_eq_true_iff.1 h).2).2.2.1 (okQ_iff.1 (Bool.and_eq_true_iff.1 h).2).2.2.2) rfl rfl
  ·cases he
 ·cases he
def h39 (φ:Fi):List AVal→Option (EffA × Bool)
 | [a,b]=>match qOf a,qOf b with
  | some x0,some x1=>some (.pure (.bool (φ.sameQ x0 x1)),(φ.okQ x0 && φ.okQ x1))
  | _,_=>none
 | _=>none
theorem h39_ok:CSOk Tryz.prog (csP (psOne 39 (h39 realFi))):=csP_one fun args v he=>by
 unfold h39 at he
 split at he
 ·split at he
  ·rename_i x0 x1 h0 h1
   simp only [Option.some.injEq,Prod.mk.injEq] at he
   obtain ⟨rfl,h⟩:=he
   rw [qOf_eq h0,qOf_eq h1]
   exact callOk_val nf_ok hmix (rsaN okF x0 x1 (okQ_iff.1 (Bool.and_eq_true_iff.1 h).1).1 (okQ_iff.1 (Bool.and_eq_true_iff.1 h).1).2.1 (okQ_iff.1 (Bool.and_eq_true_iff.1 h).1).2.2.1 (okQ_iff.1 (Bool.and_eq_true_iff.1 h).1).2.2.2 (okQ_iff.1 (Bool.and_eq_true_iff.1 h).2).1 (okQ_iff.1 (Bool.and_eq_true_iff.1 h).2).2.1 (okQ_iff.1 (Bool.and_eq_true_iff.1 h).2).2.2.1 (okQ_iff.1 (Bool.and_eq_true_iff.1 h).2).2.2.2) rfl rfl
  ·cases he
 ·cases he
def h44 (φ:Fi):List AVal→Option EffA
 | []=>some (.pure (qAv φ.zeroQ))
 | _=>none
theorem h44_ok:CSOk Tryz.prog (csOne 44 (h44 realFi)):=csOne_ok fun args e he=>by
 unfold h44 at he
 split at he
 ·cases he
  exact callOk_val nf_ok hmix (rz2 realFe) rfl rfl
 ·cases he
def h18 (φ:Fi):List AVal→Option (EffA × Bool)
 | [a]=>match qOf a with
  | some x0=>some (.pure (.str (φ.bytesQ x0)),φ.okQ x0)
  | _=>none
 | _=>none
theorem h18_ok:CSOk Tryz.prog (csP (psOne 18 (h18 realFi))):=csP_one fun args v he=>by
 unfold h18 at he
 split at he
 ·split at he
  ·rename_i x0 h0
   simp only [Option.some.injEq,Prod.mk.injEq] at he
   obtain ⟨rfl,h⟩:=he
   rw [qOf_eq h0]
   exact callOk_val nf_ok hmix (rbyN okF x0 (okQ_iff.1 h).1 (okQ_iff.1 h).2.1 (okQ_iff.1 h).2.2.1 (okQ_iff.1 h).2.2.2) rfl rfl
  ·cases he
 ·cases he
def h37 (φ:Fi):List AVal→Option EffA
 | [a]=>match sOf a with
  | some x0=>some (.pure (.tup [qAv (φ.decQ x0),.int .i64 (φ.decRQ x0)]))
  | _=>none
 | _=>none
theorem h37_ok:CSOk Tryz.prog (csOne 37 (h37 realFi)):=csOne_ok fun args e he=>by
 unfold h37 at he
 split at he
 ·split at he
  ·rename_i x0 h0
   cases he
   rw [sOf_eq h0]
   exact callOk_val nf_ok hmix (rdeN okF x0) rfl rfl
  ·cases he
 ·cases he
def h25 (φ:Fi):List AVal→Option EffA
 | [a]=>match wOf a with
  | some x0=>some (.pure (.str (φ.sby x0)))
  | _=>none
 | _=>none
theorem h25_ok:CSOk Tryz.prog (csOne 25 (h25 realFi)):=csOne_ok fun args e he=>by
 unfold h25 at he
 split at he
 ·split at he
  ·rename_i x0 h0
   cases he
   rw [wOf_eq h0]
   exact callOk_val cs3_ok hmix (run25 x0) rfl rfl
  ·cases he
 ·cases he
def psnh (φ:Fi):PS:=(psAlt (psOne 40 (h40 φ)) (psAlt (psOne 39 (h39 φ)) (psAlt (psOne 18 (h18 φ)) noPS)))
theorem psnh_ok:CSOk Tryz.prog (csP (psnh realFi)):=(csP_alt h40_ok (csP_alt h39_ok (csP_alt h18_ok (fun f args e h=>by cases h))))
def chnh (φ:Fi):CS:=(csAlt (csOne 35 (h35 φ)) (csAlt (csOne 34 (h34 φ)) (csAlt (csOne 56 (h56 φ)) (csAlt (csOne 55 (h55 φ)) (csAlt (csOne 22 (h22 φ)) (csAlt (csOne 31 (h31 φ)) (csAlt (csOne 44 (h44 φ)) (csAlt (csOne 37 (h37 φ)) (csAlt (csOne 25 (h25 φ)) noCS)))))))))
theorem chnh_ok:CSOk Tryz.prog (chnh realFi):=(csAlt_ok h35_ok (csAlt_ok h34_ok (csAlt_ok h56_ok (csAlt_ok h55_ok (csAlt_ok h22_ok (csAlt_ok h31_ok (csAlt_ok h44_ok (csAlt_ok h37_ok (csAlt_ok h25_ok (noCS_ok _))))))))))
def nh (φ:Fi):CS:=csAlt (csP (psnh φ)) (chnh φ)
theorem nh_ok:CSOk Tryz.prog (nh realFi):=csAlt_ok psnh_ok chnh_ok
theorem nh_ps (φ:Fi):PSOk (psnh φ) (nh φ):=csP_ok
end Go.Proofs.YtcjkbimdmcfppaaGreatDoor
namespace Go.Proofs.YtcjkbimdmcfppaaGreatDoor
open Go.Shelf
def Tryz.lays105_ren:Go.Shelf.Ren:=⟨fun | 105=>54 | 212=>93 | 99=>94 | 165=>95 | 166=>96 | 170=>97 | 169=>98 | 263=>117 | 264=>63 | 206=>118 | 240=>119 | 241=>120 | 276=>124 | 277=>125 | n=>n,fun | 9=>9 | 3=>3 | 4=>4 | 20=>20 | 0=>0 | 46=>72 | 109=>117 | 5=>5 | 72=>121 | 76=>125 | 51=>98 | 146=>142 | 53=>34 | 148=>84 | 70=>119 | 37=>32 | 75=>124 | 127=>144 | 164=>147 | 80=>50 | n=>n,fun | n=>n⟩
theorem Tryz.lays105:Go.Proofs.Lays.n105 Tryz.prog Tryz.lays105_ren:={
 mixed:=by kernel_rfl
 f99:=Tryz.func94.trans (congrArg some (by kernel_rfl))
 f105:=Tryz.func54.trans (congrArg some (by kernel_rfl))
 f165:=Tryz.func95.trans (congrArg some (by kernel_rfl))
 f166:=Tryz.func96.trans (congrArg some (by kernel_rfl))
 f169:=Tryz.func98.trans (congrArg some (by kernel_rfl))
 f170:=Tryz.func97.trans (congrArg some (by kernel_rfl))
 f206:=Tryz.func118.trans (congrArg some (by kernel_rfl))
 f212:=Tryz.func93.trans (congrArg some (by kernel_rfl))
 f240:=Tryz.func119.trans (congrArg some (by kernel_rfl))
 f241:=Tryz.func120.trans (congrArg some (by kernel_rfl))
 f263:=Tryz.func117.trans (congrArg some (by kernel_rfl))
 f264:=Tryz.func63.trans (congrArg some (by kernel_rfl))
 f276:=Tryz.func124.trans (congrArg some (by kernel_rfl))
 f277:=Tryz.func125.trans (congrArg some (by kernel_rfl))
 t0:=Tryz.underlying0
 a0:=Tryz.isAgg0
 z0:=Tryz.sizeOf0
 v0:=Tryz.zeroValue0
 t3:=Tryz.underlying3
 a3:=Tryz.isAgg3
 z3:=Tryz.sizeOf3
 v3:=Tryz.zeroValue3
 t4:=Tryz.underlying4
 a4:=Tryz.isAgg4
 z4:=Tryz.sizeOf4
 v4:=Tryz.zeroValue4
 t5:=Tryz.underlying5
 a5:=Tryz.isAgg5
 z5:=Tryz.sizeOf5
 v5:=Tryz.zeroValue5
 t9:=Tryz.underlying9
 a9:=Tryz.isAgg9
 z9:=Tryz.sizeOf9
 v9:=Tryz.zeroValue9
 t20:=Tryz.underlying20
 a20:=Tryz.isAgg20
 z20:=Tryz.sizeOf20
 v20:=Tryz.zeroValue20
 t37:=Tryz.underlying32
 a37:=Tryz.isAgg32
 z37:=Tryz.sizeOf32
 v37:=Tryz.zeroValue32
 t46:=Tryz.underlying72
 a46:=Tryz.isAgg72
 z46:=Tryz.sizeOf72
 v46:=Tryz.zeroValue72
 t51:=Tryz.underlying98
 a51:=Tryz.isAgg98
 z51:=Tryz.sizeOf98
 v51:=Tryz.zeroValue98
 t53:=Tryz.underlying34
 a53:=Tryz.isAgg34
 z53:=Tryz.sizeOf34
 v53:=Tryz.zeroValue34
 t70:=Tryz.underlying119
 a70:=Tryz.isAgg119
 z70:=Tryz.sizeOf119
 v70:=Tryz.zeroValue119
 t72:=Tryz.underlying121
 a72:=Tryz.isAgg121
 z72:=Tryz.sizeOf121
 v72:=Tryz.zeroValue121
 t75:=Tryz.underlying124
 a75:=Tryz.isAgg124
 z75:=Tryz.sizeOf124
 v75:=Tryz.zeroValue124
 t76:=Tryz.underlying125
 a76:=Tryz.isAgg125
 z76:=Tryz.sizeOf125
 v76:=Tryz.zeroValue125
 t109:=Tryz.underlying117
 a109:=Tryz.isAgg117
 z109:=Tryz.sizeOf117
 v109:=Tryz.zeroValue117
 t127:=Tryz.underlying144
 a127:=Tryz.isAgg144
 z127:=Tryz.sizeOf144
 v127:=Tryz.zeroValue144
 t146:=Tryz.underlying142
 a146:=Tryz.isAgg142
 z146:=Tryz.sizeOf142
 v146:=Tryz.zeroValue142
 t148:=Tryz.underlying84
 a148:=Tryz.isAgg84
 z148:=Tryz.sizeOf84
 v148:=Tryz.zeroValue84
 t164:=Tryz.underlying147
 a164:=Tryz.isAgg147
 z164:=Tryz.sizeOf147
 v164:=Tryz.zeroValue147 }
theorem Tryz.Builder_Extra_105:Builder.Extra Tryz.prog Tryz.lays105_ren:={
 sizeBuilder:=by kernel_rfl
 liesBuilder:=by kernel_rfl
 t5:=Tryz.underlying5
 a5:=Tryz.isAgg5
 z5:=Tryz.sizeOf5
 v5:=Tryz.zeroValue5
 infoByte:=by kernel_rfl
 cellsByte:=by kernel_rfl
 sizeByte:=by kernel_rfl
 neB5:=by decide }
open Go.RowKit Go.Lib in
theorem Tryz.strings_Repeat (s:ByteArray) (c:Nat) (w:World) (hc:c≤9223372036854775807) (hlen:s.size * c≤140737488355328) :
  Calls Tryz.prog 54 #[.string s,.int .i64 c] w fun e w'=>e=.returned (.string ⟨(Lib.repeatL s.data.toList c).toArray⟩)∧Go.RowKit.Below w.heap.size w w':=Any.strings_Repeat Tryz.lays105 Tryz.Builder_Extra_105 s c w hc hlen
open Go Go.Eng
theorem callOk_below {P:Program}{f:FuncId}{args:List AVal}{v:AVal}(h:∀ σ args' w,LR σ args args'→Calls P f args' w fun r w' => ∃ v',r=.returned v'∧(∀ σ',VR σ' v v')∧Go.RowKit.Below w.heap.size w w'):CallOk P f args (.pure v):=by
 intro σ args' H w base v0 H0 hl hg hH happ hfree
 simp only [EffA.app,Option.some.injEq,Prod.mk.injEq] at happ
 obtain ⟨rfl,rfl⟩:=happ
 refine (h σ args' w hl).mono fun r w' ⟨v',h1,h2,h3⟩ => ?_
 refine ⟨σ,v',h1,h2 σ,⟨fun n o hn => ?_,hH.inj⟩,⟨Sig.le_refl σ,h3.size,h3.os,h3.output,h3.tape,fun b hb hn=>⟨h3.block b hb,hn⟩⟩,Only.refl σ base⟩
 obtain ⟨p,hp,ho⟩:=hH.obj n o hn
 exact ⟨p,hp,ho.mono (Sig.le_refl σ) (h3.block _ ho.lt)⟩
theorem repeat_ok (s:List UInt8) (c:Nat) (hc:c≤1000) (hs:s.length≤1000):CallOk Tryz.prog 54 [.str s,.int .i64 (c:Int)] (.pure (.str (Lib.repeatL s c))):=callOk_below fun σ args' w hl=>by
 obtain ⟨a,b,rfl,ha,hb⟩:∃ a b,args' = #[a,b]∧VR σ (.str s) a∧VR σ (.int .i64 (c:Int)) b:=by
  have h1:=hl.1
  obtain ⟨l⟩:=args'
  match l,h1 with
  | [a,b],_=>exact ⟨a,b,rfl,hl.2 0 _ _ rfl rfl,hl.2 1 _ _ rfl rfl⟩
 cases ha
 cases hb
 refine (Tryz.strings_Repeat ⟨s.toArray⟩ c w (by omega) ?_).mono fun e w' ⟨h1,h2⟩=>⟨_,h1,fun σ' => ?_,h2⟩
 ·show s.toArray.size * c≤_
  rw [List.size_toArray]
  have:s.length * c≤1000 * 1000:=Nat.mul_le_mul hs hc
  omega
 ·exact .str _
end Go.Proofs.YtcjkbimdmcfppaaGreatDoor
