/- Texts Ed1, Eng30, DeA, DeB, DeD, DeE, DeC, DeF, Ed2, DeG, Dsh, DeH, DeI, Eng31, Eng38, DSh2, Eng32, Eng33, Eng34, Eng35, Eng36, Eng37, DSh3, DSh4, Eng39, DSh5, DSh6, DSh7: what they show that this claim uses. -/
import Derived.Test.YtcjkbimdmcfppaaDoorS6
import Derived.Test.YtcjkbimdmcfppaaDoorS4
import Derived.Test.YtcjkbimdmcfppaaDoorS5
import Derived.Shelf.Strings.Repeat
import Derived.OrdersIn
import Derived.LoopNIn
import Derived.ControlIn
import Derived.RangeFuncLeaves
import Derived.RangeFuncSeq
set_option maxRecDepth 100000
set_option maxHeartbeats 1000000
set_option linter.unusedVariables false
set_option linter.unusedSimpArgs false
namespace Go.Num
open Go Go.Eng
structure Fe where
 add:E5→E5→E5
 sub:E5→E5→E5
 mul:E5→E5→E5
 neg:E5→E5
 inv:E5→E5
 same:E5→E5→Bool
 odd:E5→Bool
 small:UInt32→E5
 root:E5→E5
 has:E5→Bool
 of:List UInt8→E5
 ofR:List UInt8→Int
 canon:List UInt8→Bool
 byE:E5→Nat→UInt8
 addN:N16→N16→N16
 subN:N16→N16→N16
 mulN:N16→N16→N16
 negN:N16→N16
 invN:N16→N16
 rootN:N16→N16
 hasN:N16→Bool
 smallN:UInt32→N16
 ofN:List UInt8→N16
 canonN:List UInt8→Bool
 byN:N16→Nat→UInt8
 ok:N16→Bool
 l32:List UInt8→Bool
 sby:W4→Nat→UInt8
def realFe:Fe:=⟨addE,subE,mulE,negE,invE,sameE,oddE,smallE,rootE,hasE,ofEl,ofEr,canonE,fun a i=>byteE (reducedE a) i,addP,subP,mulP,negP,invP,rootP,hasP,smallN,ofP,canonP,fun a i=>(shr_u64 (a.list.getD (i / 2) 0) (i % 2 * 8)).toUInt8,okB,fun s=>isLen s 32,fun a i=>(shr_u64 (wordAt a (i / 8)) (i % 8 * 8)).toUInt8⟩
def opsφ (φ:Fe):Ops E5:=⟨φ.add,φ.sub,φ.mul,φ.small,zeroE⟩
def opsφN (φ:Fe):Ops N16:=⟨φ.addN,φ.subN,φ.mulN,φ.smallN,zeroN⟩
def dBytes:List UInt8:=[0xa3,0x78,0x59,0x13,0xca,0x4d,0xeb,0x75,0xab,0xd8,0x41,0x41,0x4d,0x0a,0x70,0x00,0x98,0xe8,0x79,0x77,0x79,0x40,0xc7,0x8c,0x73,0xfe,0x6f,0x2b,0xee,0x6c,0x03,0x52]
def pCells (p:P4 E5):List AVal:=[.u64 p.x.x0,.u64 p.x.x1,.u64 p.x.x2,.u64 p.x.x3,.u64 p.x.x4,.u64 p.y.x0,.u64 p.y.x1,.u64 p.y.x2,.u64 p.y.x3,.u64 p.y.x4,.u64 p.z.x0,.u64 p.z.x1,.u64 p.z.x2,.u64 p.z.x3,.u64 p.z.x4,.u64 p.t.x0,.u64 p.t.x1,.u64 p.t.x2,.u64 p.t.x3,.u64 p.t.x4]
def qCells (p:P4 N16):List AVal:=[.u64 p.x.x0,.u64 p.x.x1,.u64 p.x.x2,.u64 p.x.x3,.u64 p.x.x4,.u64 p.x.x5,.u64 p.x.x6,.u64 p.x.x7,.u64 p.x.x8,.u64 p.x.x9,.u64 p.x.x10,.u64 p.x.x11,.u64 p.x.x12,.u64 p.x.x13,.u64 p.x.x14,.u64 p.x.x15,.u64 p.y.x0,.u64 p.y.x1,.u64 p.y.x2,.u64 p.y.x3,.u64 p.y.x4,.u64 p.y.x5,.u64 p.y.x6,.u64 p.y.x7,.u64 p.y.x8,.u64 p.y.x9,.u64 p.y.x10,.u64 p.y.x11,.u64 p.y.x12,.u64 p.y.x13,.u64 p.y.x14,.u64 p.y.x15,.u64 p.z.x0,.u64 p.z.x1,.u64 p.z.x2,.u64 p.z.x3,.u64 p.z.x4,.u64 p.z.x5,.u64 p.z.x6,.u64 p.z.x7,.u64 p.z.x8,.u64 p.z.x9,.u64 p.z.x10,.u64 p.z.x11,.u64 p.z.x12,.u64 p.z.x13,.u64 p.z.x14,.u64 p.z.x15,.u64 p.t.x0,.u64 p.t.x1,.u64 p.t.x2,.u64 p.t.x3,.u64 p.t.x4,.u64 p.t.x5,.u64 p.t.x6,.u64 p.t.x7,.u64 p.t.x8,.u64 p.t.x9,.u64 p.t.x10,.u64 p.t.x11,.u64 p.t.x12,.u64 p.t.x13,.u64 p.t.x14,.u64 p.t.x15]
def pAv (p:P4 E5):AVal:=.agg (pCells p)
def qAv (p:P4 N16):AVal:=.agg (qCells p)
section
variable (φ:Fe)
def emptyE:P4 E5:=⟨zeroE,zeroE,zeroE,zeroE⟩
def zeroφ:P4 E5:=⟨zeroE,φ.small 1,φ.small 1,zeroE⟩
def noneφ (p:P4 E5):Bool:=φ.same p.z zeroE
def curveφ:E5:=φ.of dBytes
def addφ (p q:P4 E5):P4 E5:=cond (noneφ φ p) emptyE (cond (noneφ φ q) emptyE (addO (opsφ φ) (curveφ φ) p q))
def negφ (p:P4 E5):P4 E5:=cond (noneφ φ p) emptyE (negO φ.neg p)
def sameφ (p q:P4 E5):Bool:=cond (noneφ φ p) false (cond (noneφ φ q) false (cond (φ.same (φ.mul p.x q.z) (φ.mul q.x p.z)) (φ.same (φ.mul p.y q.z) (φ.mul q.y p.z)) false))
def byLφ (a:E5):List UInt8:=(List.range 32).map (φ.byE a)
def top128 (l:List UInt8):List UInt8:=l.set 31 (l.getD 31 0 ||| 128)
def bytesφ (p:P4 E5):List UInt8:=cond (noneφ φ p) [] (cond (φ.odd (φ.mul p.x (φ.inv p.z))) (top128 (byLφ φ (φ.mul p.y (φ.inv p.z)))) (byLφ φ (φ.mul p.y (φ.inv p.z))))
def yφ (s:List UInt8):E5:=φ.of (topL s)
def vφ (s:List UInt8):E5:=φ.add (φ.mul (curveφ φ) (φ.mul (yφ φ s) (yφ φ s))) (φ.small 1)
def uφ (s:List UInt8):E5:=φ.mul (φ.sub (φ.mul (yφ φ s) (yφ φ s)) (φ.small 1)) (φ.inv (vφ φ s))
def decOdd (s:List UInt8):Bool:=shr_u8 (s.getD 31 0) 7 == 1
def xφ (s:List UInt8):E5:=cond (decOdd s) (φ.neg (φ.root (uφ φ s))) (φ.root (uφ φ s))
def okφ (s:List UInt8):Bool:=cond (φ.canon (topL s)) (cond (φ.has (uφ φ s)) (cond (decOdd s) (!φ.same (φ.root (uφ φ s)) zeroE) true) false) false
def decPφ (s:List UInt8):P4 E5:=⟨xφ φ s,yφ φ s,φ.small 1,φ.mul (xφ φ s) (yφ φ s)⟩
def decφ (s:List UInt8):P4 E5:=cond (isLen s 32) (cond (okφ φ s) (decPφ φ s) emptyE) emptyE
def decRφ (s:List UInt8):Int:=cond (isLen s 32) (cond (okφ φ s) 0 40) 2
def emptyN:P4 N16:=⟨zeroN,zeroN,zeroN,zeroN⟩
def zeroψ:P4 N16:=⟨zeroN,φ.smallN 1,φ.smallN 1,zeroN⟩
def givenφ:N16:=φ.ofN dBytes
def dφ:N16:=φ.mulN (φ.negN (φ.smallN 121665)) (φ.invN (φ.smallN 121666))
def addψ (p q:P4 N16):P4 N16:=addO (opsφN φ) (givenφ φ) p q
def negψ (p:P4 N16):P4 N16:=negO φ.negN p
def sameψ (p q:P4 N16):Bool:=cond (samP (φ.mulN p.x q.z) (φ.mulN q.x p.z)) (samP (φ.mulN p.y q.z) (φ.mulN q.y p.z)) false
def byLψ (a:N16):List UInt8:=(List.range 32).map (φ.byN a)
def bytesψ (p:P4 N16):List UInt8:=(byLψ φ (φ.mulN p.y (φ.invN p.z))).set 31 ((byLψ φ (φ.mulN p.y (φ.invN p.z))).getD 31 0 ||| shl_u8 ((φ.mulN p.x (φ.invN p.z)).x0 &&& 1).toUInt8 7)
def onψ (p:P4 N16):Bool:=samP (φ.mulN (φ.subN (φ.mulN p.y p.y) (φ.mulN p.x p.x)) (φ.mulN p.z p.z)) (φ.addN (φ.mulN (φ.mulN p.z p.z) (φ.mulN p.z p.z)) (φ.mulN (φ.mulN (givenφ φ) (φ.mulN p.x p.x)) (φ.mulN p.y p.y)))
def yψ (s:List UInt8):N16:=φ.ofN (topL s)
def vψ (s:List UInt8):N16:=φ.addN (φ.mulN (dφ φ) (φ.mulN (yψ φ s) (yψ φ s))) (φ.smallN 1)
def uψ (s:List UInt8):N16:=φ.mulN (φ.subN (φ.mulN (yψ φ s) (yψ φ s)) (φ.smallN 1)) (φ.invN (vψ φ s))
def xψ (s:List UInt8):N16:=cond (decOdd s) (φ.negN (φ.rootN (uψ φ s))) (φ.rootN (uψ φ s))
def okψ (s:List UInt8):Bool:=cond (φ.canonN (topL s)) (cond (φ.hasN (uψ φ s)) (cond (samP (φ.rootN (uψ φ s)) zeroN) (!decOdd s) true) false) false
def ofXYψ (x y:N16):P4 N16:=⟨x,y,φ.smallN 1,φ.mulN x y⟩
def decψ (s:List UInt8):P4 N16:=cond (isLen s 32) (cond (okψ φ s) (ofXYψ φ (xψ φ s) (yψ φ s)) emptyN) emptyN
def decRψ (s:List UInt8):Int:=cond (isLen s 32) (cond (okψ φ s) 0 40) 2
end
def okQ0 (φ:Fe) (p:P4 N16):Bool:=φ.ok p.x && (φ.ok p.y && (φ.ok p.z && φ.ok p.t))
def baseL:List UInt8:=0x58::List.replicate 31 0x66
def partN (n:N16) (k:Nat):UInt64:=n.list.getD k 0
def bitN16 (n:N16) (i:Nat):Bool:=(shr_u64 (partN n (i / 16)) (i % 16) &&& 1) == 1
def iterG {R:Type}(add:R→R→R) (zero p:R) (bit:Nat→Bool):Nat→R
 | 0=>zero
 | j+1=>cond (bit (255 - j)) (add (add (iterG add zero p bit j) (iterG add zero p bit j)) p) (add (iterG add zero p bit j) (iterG add zero p bit j))
theorem eq_range {α:Type}(d:α) (l:List α) (n:Nat) (h:l.length=n):l=(List.range n).map fun i=>l.getD i d:=by
 subst h
 apply List.ext_getElem?
 intro i
 by_cases hi:i < l.length
 ·simp [hi,List.getD]
 ·simp [hi]
def wordsN (n:Nat) (v:AVal):Option (List UInt64):=match v with
 | .agg cs=>match words64 cs with
  | some l=>cond (Nat.beq l.length n) (some l) none
  | none=>none
 | _=>none
theorem wordsN_eq {n:Nat}{v:AVal}{l:List UInt64}(h:wordsN n v=some l):v=.agg (((List.range n).map fun i=>l.getD i 0).map .u64):=by
 unfold wordsN at h
 split at h
 ·split at h
  ·rename_i cs l' hl
   cases hb:Nat.beq l'.length n with
   | false=>rw [hb] at h; cases h
   | true =>
    rw [hb] at h
    cases h
    rw [← eq_range 0 l n (Nat.eq_of_beq_eq_true hb),words64_eq hl]
  ·cases h
 ·cases h
def qOf (v:AVal):Option (P4 N16):=match wordsN 64 v with
 | some l=>some ⟨⟨l.getD 0 0,l.getD 1 0,l.getD 2 0,l.getD 3 0,l.getD 4 0,l.getD 5 0,l.getD 6 0,l.getD 7 0,l.getD 8 0,l.getD 9 0,l.getD 10 0,l.getD 11 0,l.getD 12 0,l.getD 13 0,l.getD 14 0,l.getD 15 0⟩,⟨l.getD 16 0,l.getD 17 0,l.getD 18 0,l.getD 19 0,l.getD 20 0,l.getD 21 0,l.getD 22 0,l.getD 23 0,l.getD 24 0,l.getD 25 0,l.getD 26 0,l.getD 27 0,l.getD 28 0,l.getD 29 0,l.getD 30 0,l.getD 31 0⟩,⟨l.getD 32 0,l.getD 33 0,l.getD 34 0,l.getD 35 0,l.getD 36 0,l.getD 37 0,l.getD 38 0,l.getD 39 0,l.getD 40 0,l.getD 41 0,l.getD 42 0,l.getD 43 0,l.getD 44 0,l.getD 45 0,l.getD 46 0,l.getD 47 0⟩,⟨l.getD 48 0,l.getD 49 0,l.getD 50 0,l.getD 51 0,l.getD 52 0,l.getD 53 0,l.getD 54 0,l.getD 55 0,l.getD 56 0,l.getD 57 0,l.getD 58 0,l.getD 59 0,l.getD 60 0,l.getD 61 0,l.getD 62 0,l.getD 63 0⟩⟩
 | none=>none
def pOf (v:AVal):Option (P4 E5):=match wordsN 20 v with
 | some l=>some ⟨⟨l.getD 0 0,l.getD 1 0,l.getD 2 0,l.getD 3 0,l.getD 4 0⟩,⟨l.getD 5 0,l.getD 6 0,l.getD 7 0,l.getD 8 0,l.getD 9 0⟩,⟨l.getD 10 0,l.getD 11 0,l.getD 12 0,l.getD 13 0,l.getD 14 0⟩,⟨l.getD 15 0,l.getD 16 0,l.getD 17 0,l.getD 18 0,l.getD 19 0⟩⟩
 | none=>none
theorem pOf_eq {v:AVal}{p:P4 E5}(h:pOf v=some p):v=pAv p:=by
 unfold pOf at h
 split at h
 ·rename_i l hl
  cases h
  exact wordsN_eq hl
 ·cases h
def nOf (v:AVal):Option N16:=match wordsN 16 v with
 | some l=>some ⟨l.getD 0 0,l.getD 1 0,l.getD 2 0,l.getD 3 0,l.getD 4 0,l.getD 5 0,l.getD 6 0,l.getD 7 0,l.getD 8 0,l.getD 9 0,l.getD 10 0,l.getD 11 0,l.getD 12 0,l.getD 13 0,l.getD 14 0,l.getD 15 0⟩
 | none=>none
theorem nOf_eq {v:AVal}{p:N16}(h:nOf v=some p):v=p.av:=by
 unfold nOf at h
 split at h
 ·rename_i l hl
  cases h
  exact wordsN_eq hl
 ·cases h
def wOf (v:AVal):Option W4:=match wordsN 4 v with
 | some l=>some ⟨l.getD 0 0,l.getD 1 0,l.getD 2 0,l.getD 3 0⟩
 | none=>none
theorem wOf_eq {v:AVal}{p:W4}(h:wOf v=some p):v=p.av:=by
 unfold wOf at h
 split at h
 ·rename_i l hl
  cases h
  exact wordsN_eq hl
 ·cases h
def sOf (v:AVal):Option (List UInt8):=match v with
 | .str s=>some s
 | _=>none
theorem sOf_eq {v:AVal}{p:List UInt8}(h:sOf v=some p):v=.str p:=by
 unfold sOf at h
 split at h
 ·cases h; rfl
 ·cases h
end Go.Num
namespace Go.Eng
open Go
noncomputable def endO (P:Program) (ps:PS) (cs:CS) (sy:List Nat) (fn:Func) (nn F bs id:Nat) (b:Code) (l:List Code) (s:SA) (q:OS):Option (AVal × List Bool):=
 match evT P ps cs sy fn.ntmps nn F bs b s q with
 | some (.exit id',s1,q1)=>cond (Nat.beq id' id) (ansF P fn (evSO P ps cs sy fn.ntmps nn F bs l s1 q1)) none
 | _=>none
theorem ansF_ok2 {P:Program}{ps:PS}{cs:CS}(hps:PSOk ps cs){sy:List Nat}{fn:Func}{nt nn F bs:Nat}{l:List Code}{s:SA}{q:OS}{v:AVal}{ob:List Bool}(h:ansF P fn (evSO P ps cs sy nt nn F bs l s q)=some (v,ob)) (ha:allT ob=true):finV P fn (evS P cs nt nn F bs l s)=some v∧allT q.ob=true:=by
 cases hx:evSO P ps cs sy nt nn F bs l s q with
 | none=>rw [hx] at h; cases h
 | some r =>
  obtain ⟨x,s',q'⟩:=r
  rw [hx] at h
  have hq:q'.ob=ob:=by
   unfold ansF at h
   cases hv:finV P fn (some (x,s')) with
   | none=>simp only [hv] at h; cases h
   | some u =>
    simp only [hv,Option.some.injEq,Prod.mk.injEq] at h
    exact h.2
  have h2:=evSO_ok hps l s q x s' q' hx (by rw [hq]; exact ha)
  refine ⟨?_,h2.2⟩
  rw [h2.1]
  unfold ansF at h
  cases hv:finV P fn (some (x,s')) with
  | none=>simp only [hv] at h; cases h
  | some u =>
   simp only [hv,Option.some.injEq,Prod.mk.injEq] at h
   rw [h.1]
theorem endO_ok {P:Program}{ps:PS}{cs:CS}(hps:PSOk ps cs){sy:List Nat}{fn:Func}{nn F bs id:Nat}{b:Code}{l:List Code}{s:SA}{os:List Bool}{vs:List AVal}{v:AVal}{ob:List Bool}(h:endO P ps cs sy fn nn F bs id b l s ⟨os,vs,[]⟩=some (v,ob)) (ha:allT ob=true) :
  ∃ s1,evC P cs fn.ntmps nn F bs b s=some (.exit id,s1)∧finV P fn (evS P cs fn.ntmps nn F bs l s1)=some v:=by
 unfold endO at h
 split at h
 ·rename_i id' s1 q1 he
  cases hb:Nat.beq id' id with
  | false=>rw [hb] at h; cases h
  | true =>
   rw [hb,cond_true] at h
   have:=Nat.eq_of_beq_eq_true hb
   subst this
   obtain ⟨h1,h2⟩:=ansF_ok2 hps h ha
   exact ⟨s1,(evT_ok hps b _ _ _ _ _ he h2).1,h1⟩
 ·cases h
theorem segO_pre {P:Program}{ps:PS}{cs:CS}(hps:PSOk ps cs){sy:List Nat}{nt nn F bs:Nat}{l:List Code}{s s':SA}{os:List Bool}{vs:List AVal}{ob:List Bool}(h:segO (evSO P ps cs sy nt nn F bs l s ⟨os,vs,[]⟩)=some (s',ob)) (ha:allT ob=true):evS P cs nt nn F bs l s=some (.normal,s'):=by
 unfold segO at h
 split at h
 ·rename_i s1 q he
  simp only [Option.some.injEq,Prod.mk.injEq] at h
  obtain ⟨rfl,rfl⟩:=h
  exact (evSO_ok hps _ _ _ _ _ _ he ha).1
 ·cases h
theorem run_loopO {P:Program}{ps:PS}{cs:CS}(hps:PSOk ps cs){nn F:Nat}{f:FuncId}{fn:Func}{c:Code}{args:List AVal}{H:HL}{fr:Nat}(hf:P.funcs[f]? = some fn) (hb:fn.body=some c) (hn:Nat.ble args.length fn.ntmps=true)
  (k:Nat) {id:Nat} {b:Code} (hk:(pieces c)[k]? = some (.block id (.loop b))) (I:Nat→SA) (N:Nat) {sy0 sy1:List Nat} {os0 os1:List Bool} {vs0 vs1:List AVal} {ob0 ob1:List Bool}
  (hpre:segO (evSO P ps cs sy0 fn.ntmps nn F fr ((pieces c).take k) ⟨startT args 0,H,fr⟩ ⟨os0,vs0,[]⟩)=some (I 0,ob0)) (ha0:allT ob0=true)
  (hstep:∀ j,j < N→roundA (evC P cs fn.ntmps nn F fr b) (headA P fr (I 0)) (I j)=some (I (j+1)))
  {v:AVal} (hend:endO P ps cs sy1 fn nn F fr id b ((pieces c).drop (k+1)) (I N) ⟨os1,vs1,[]⟩=some (v,ob1)) (ha1:allT ob1=true) (hF:N < F):(run1 P cs nn F f args H fr).map (·.1)=some v:=by
 obtain ⟨s1,h1,h2⟩:=endO_ok hps hend ha1
 exact run_loop hf hb hn k hk I N (segO_pre hps hpre ha0) hstep h1 hF h2
theorem isAt_of {c:List AVal}{off:Nat}{v:AVal}(h:c[off]? = some v) (hv:eqS v v=true):isAt c off v=true:=by
 unfold isAt
 rw [h]; exact hv
end Go.Eng
namespace Go.Proofs.YtcjkbimdmcfppaaDoor
open Go Go.Eng Go.Num
def q71 (φ:Fe):List AVal→Option EffA
 | [.agg [.u64 a0,.u64 a1,.u64 a2,.u64 a3,.u64 a4],.agg [.u64 b0,.u64 b1,.u64 b2,.u64 b3,.u64 b4]]=>some (.pure (E5.av (φ.add (E5.mk a0 a1 a2 a3 a4) (E5.mk b0 b1 b2 b3 b4))))
 | _=>none
theorem q71_ok:CSOk Tryd.prog (csOne 44 (q71 realFe)):=csOne_ok fun args e he=>by
 unfold q71 at he
 split at he
 ·rename_i a0 a1 a2 a3 a4 b0 b1 b2 b3 b4
  cases he
  exact g71_ok 44 [(E5.av (E5.mk a0 a1 a2 a3 a4)),(E5.av (E5.mk b0 b1 b2 b3 b4))] _ rfl
 ·cases he
def q84 (φ:Fe):List AVal→Option (EffA × Bool)
 | [.agg [.u64 a0,.u64 a1,.u64 a2,.u64 a3,.u64 a4,.u64 a5,.u64 a6,.u64 a7,.u64 a8,.u64 a9,.u64 a10,.u64 a11,.u64 a12,.u64 a13,.u64 a14,.u64 a15],.agg [.u64 b0,.u64 b1,.u64 b2,.u64 b3,.u64 b4,.u64 b5,.u64 b6,.u64 b7,.u64 b8,.u64 b9,.u64 b10,.u64 b11,.u64 b12,.u64 b13,.u64 b14,.u64 b15]]=>some (.pure (N16.av (φ.addN (N16.mk a0 a1 a2 a3 a4 a5 a6 a7 a8 a9 a10 a11 a12 a13 a14 a15) (N16.mk b0 b1 b2 b3 b4 b5 b6 b7 b8 b9 b10 b11 b12 b13 b14 b15))),(φ.ok (N16.mk a0 a1 a2 a3 a4 a5 a6 a7 a8 a9 a10 a11 a12 a13 a14 a15) && φ.ok (N16.mk b0 b1 b2 b3 b4 b5 b6 b7 b8 b9 b10 b11 b12 b13 b14 b15)))
 | _=>none
theorem q84_ok:CSOk Tryd.prog (csP (psNo (q84 realFe))):=psNo_ok _
def q73 (φ:Fe):List AVal→Option EffA
 | [.agg [.u64 a0,.u64 a1,.u64 a2,.u64 a3,.u64 a4],.agg [.u64 b0,.u64 b1,.u64 b2,.u64 b3,.u64 b4]]=>some (.pure (E5.av (φ.sub (E5.mk a0 a1 a2 a3 a4) (E5.mk b0 b1 b2 b3 b4))))
 | _=>none
theorem q73_ok:CSOk Tryd.prog (csOne 46 (q73 realFe)):=csOne_ok fun args e he=>by
 unfold q73 at he
 split at he
 ·rename_i a0 a1 a2 a3 a4 b0 b1 b2 b3 b4
  cases he
  exact g73_ok 46 [(E5.av (E5.mk a0 a1 a2 a3 a4)),(E5.av (E5.mk b0 b1 b2 b3 b4))] _ rfl
 ·cases he
def q81 (φ:Fe):List AVal→Option (EffA × Bool)
 | [.agg [.u64 a0,.u64 a1,.u64 a2,.u64 a3,.u64 a4,.u64 a5,.u64 a6,.u64 a7,.u64 a8,.u64 a9,.u64 a10,.u64 a11,.u64 a12,.u64 a13,.u64 a14,.u64 a15],.agg [.u64 b0,.u64 b1,.u64 b2,.u64 b3,.u64 b4,.u64 b5,.u64 b6,.u64 b7,.u64 b8,.u64 b9,.u64 b10,.u64 b11,.u64 b12,.u64 b13,.u64 b14,.u64 b15]]=>some (.pure (N16.av (φ.subN (N16.mk a0 a1 a2 a3 a4 a5 a6 a7 a8 a9 a10 a11 a12 a13 a14 a15) (N16.mk b0 b1 b2 b3 b4 b5 b6 b7 b8 b9 b10 b11 b12 b13 b14 b15))),(φ.ok (N16.mk a0 a1 a2 a3 a4 a5 a6 a7 a8 a9 a10 a11 a12 a13 a14 a15) && φ.ok (N16.mk b0 b1 b2 b3 b4 b5 b6 b7 b8 b9 b10 b11 b12 b13 b14 b15)))
 | _=>none
theorem q81_ok:CSOk Tryd.prog (csP (psNo (q81 realFe))):=psNo_ok _
def q58 (φ:Fe):List AVal→Option EffA
 | [.agg [.u64 a0,.u64 a1,.u64 a2,.u64 a3,.u64 a4],.agg [.u64 b0,.u64 b1,.u64 b2,.u64 b3,.u64 b4]]=>some (.pure (E5.av (φ.mul (E5.mk a0 a1 a2 a3 a4) (E5.mk b0 b1 b2 b3 b4))))
 | _=>none
theorem q58_ok:CSOk Tryd.prog (csOne 34 (q58 realFe)):=csOne_ok fun args e he=>by
 unfold q58 at he
 split at he
 ·rename_i a0 a1 a2 a3 a4 b0 b1 b2 b3 b4
  cases he
  exact g58_ok 34 [(E5.av (E5.mk a0 a1 a2 a3 a4)),(E5.av (E5.mk b0 b1 b2 b3 b4))] _ rfl
 ·cases he
def q50 (φ:Fe):List AVal→Option (EffA × Bool)
 | [.agg [.u64 a0,.u64 a1,.u64 a2,.u64 a3,.u64 a4,.u64 a5,.u64 a6,.u64 a7,.u64 a8,.u64 a9,.u64 a10,.u64 a11,.u64 a12,.u64 a13,.u64 a14,.u64 a15],.agg [.u64 b0,.u64 b1,.u64 b2,.u64 b3,.u64 b4,.u64 b5,.u64 b6,.u64 b7,.u64 b8,.u64 b9,.u64 b10,.u64 b11,.u64 b12,.u64 b13,.u64 b14,.u64 b15]]=>some (.pure (N16.av (φ.mulN (N16.mk a0 a1 a2 a3 a4 a5 a6 a7 a8 a9 a10 a11 a12 a13 a14 a15) (N16.mk b0 b1 b2 b3 b4 b5 b6 b7 b8 b9 b10 b11 b12 b13 b14 b15))),(φ.ok (N16.mk a0 a1 a2 a3 a4 a5 a6 a7 a8 a9 a10 a11 a12 a13 a14 a15) && φ.ok (N16.mk b0 b1 b2 b3 b4 b5 b6 b7 b8 b9 b10 b11 b12 b13 b14 b15)))
 | _=>none
theorem q50_ok:CSOk Tryd.prog (csP (psNo (q50 realFe))):=psNo_ok _
def q76 (φ:Fe):List AVal→Option EffA
 | [.agg [.u64 a0,.u64 a1,.u64 a2,.u64 a3,.u64 a4]]=>some (.pure (E5.av (φ.neg (E5.mk a0 a1 a2 a3 a4))))
 | _=>none
theorem q76_ok:CSOk Tryd.prog (csOne 49 (q76 realFe)):=csOne_ok fun args e he=>by
 unfold q76 at he
 split at he
 ·rename_i a0 a1 a2 a3 a4
  cases he
  exact g76_ok 49 [(E5.av (E5.mk a0 a1 a2 a3 a4))] _ rfl
 ·cases he
def q57 (φ:Fe):List AVal→Option EffA
 | [.agg [.u64 a0,.u64 a1,.u64 a2,.u64 a3,.u64 a4]]=>some (.pure (E5.av (φ.inv (E5.mk a0 a1 a2 a3 a4))))
 | _=>none
theorem q57_ok:CSOk Tryd.prog (csOne 33 (q57 realFe)):=csOne_ok fun args e he=>by
 unfold q57 at he
 split at he
 ·rename_i a0 a1 a2 a3 a4
  cases he
  exact g57_ok 33 [(E5.av (E5.mk a0 a1 a2 a3 a4))] _ rfl
 ·cases he
def q75 (φ:Fe):List AVal→Option EffA
 | [.agg [.u64 a0,.u64 a1,.u64 a2,.u64 a3,.u64 a4],.agg [.u64 b0,.u64 b1,.u64 b2,.u64 b3,.u64 b4]]=>some (.pure (.bool (φ.same (E5.mk a0 a1 a2 a3 a4) (E5.mk b0 b1 b2 b3 b4))))
 | _=>none
theorem q75_ok:CSOk Tryd.prog (csOne 48 (q75 realFe)):=csOne_ok fun args e he=>by
 unfold q75 at he
 split at he
 ·rename_i a0 a1 a2 a3 a4 b0 b1 b2 b3 b4
  cases he
  exact g75_ok 48 [(E5.av (E5.mk a0 a1 a2 a3 a4)),(E5.av (E5.mk b0 b1 b2 b3 b4))] _ rfl
 ·cases he
def q60 (φ:Fe):List AVal→Option EffA
 | [.agg [.u64 a0,.u64 a1,.u64 a2,.u64 a3,.u64 a4]]=>some (.pure (.bool (φ.odd (E5.mk a0 a1 a2 a3 a4))))
 | _=>none
theorem q60_ok:CSOk Tryd.prog (csOne 36 (q60 realFe)):=csOne_ok fun args e he=>by
 unfold q60 at he
 split at he
 ·rename_i a0 a1 a2 a3 a4
  cases he
  exact g60_ok 36 [(E5.av (E5.mk a0 a1 a2 a3 a4))] _ rfl
 ·cases he
def q72 (φ:Fe):List AVal→Option EffA
 | [.u32 a]=>some (.pure (E5.av (φ.small a)))
 | _=>none
theorem q72_ok:CSOk Tryd.prog (csOne 45 (q72 realFe)):=csOne_ok fun args e he=>by
 unfold q72 at he
 split at he
 ·rename_i a
  cases he
  exact g72_ok 45 [(.u32 a)] _ rfl
 ·cases he
def q74 (φ:Fe):List AVal→Option EffA
 | [.agg [.u64 a0,.u64 a1,.u64 a2,.u64 a3,.u64 a4]]=>some (.pure (.tup [(E5.av (φ.root (E5.mk a0 a1 a2 a3 a4))),.bool (φ.has (E5.mk a0 a1 a2 a3 a4))]))
 | _=>none
theorem q74_ok:CSOk Tryd.prog (csOne 47 (q74 realFe)):=csOne_ok fun args e he=>by
 unfold q74 at he
 split at he
 ·rename_i a0 a1 a2 a3 a4
  cases he
  exact g74_ok 47 [(E5.av (E5.mk a0 a1 a2 a3 a4))] _ rfl
 ·cases he
def q69 (φ:Fe):List AVal→Option EffA
 | [.str a]=>some (.pure (.tup [(E5.av (φ.of a)),.int .i64 (φ.ofR a)]))
 | _=>none
theorem q69_ok:CSOk Tryd.prog (csOne 42 (q69 realFe)):=csOne_ok fun args e he=>by
 unfold q69 at he
 split at he
 ·rename_i a
  cases he
  exact g69_ok 42 [(.str a)] _ rfl
 ·cases he
def q68 (φ:Fe):List AVal→Option EffA
 | [.str a]=>some (.pure (.bool (φ.canon a)))
 | _=>none
theorem q68_ok:CSOk Tryd.prog (csOne 41 (q68 realFe)):=csOne_ok fun args e he=>by
 unfold q68 at he
 split at he
 ·rename_i a
  cases he
  exact g68_ok 41 [(.str a)] _ rfl
 ·cases he
def q59 (φ:Fe):List AVal→Option EffA
 | [.agg [.u64 a0,.u64 a1,.u64 a2,.u64 a3,.u64 a4]]=>some (.pure (.str ((List.range 32).map (φ.byE (E5.mk a0 a1 a2 a3 a4)))))
 | _=>none
theorem q59_ok:CSOk Tryd.prog (csOne 35 (q59 realFe)):=csOne_ok fun args e he=>by
 unfold q59 at he
 split at he
 ·rename_i a0 a1 a2 a3 a4
  cases he
  exact g59_ok 35 [(E5.av (E5.mk a0 a1 a2 a3 a4))] _ rfl
 ·cases he
def q86 (φ:Fe):List AVal→Option EffA
 | [.agg [.u64 a0,.u64 a1,.u64 a2,.u64 a3,.u64 a4,.u64 a5,.u64 a6,.u64 a7,.u64 a8,.u64 a9,.u64 a10,.u64 a11,.u64 a12,.u64 a13,.u64 a14,.u64 a15]]=>some (.pure (N16.av (φ.negN (N16.mk a0 a1 a2 a3 a4 a5 a6 a7 a8 a9 a10 a11 a12 a13 a14 a15))))
 | _=>none
theorem q86_ok:CSOk Tryd.prog (csNo (q86 realFe)):=csNo_ok _
def q49 (φ:Fe):List AVal→Option (EffA × Bool)
 | [.agg [.u64 a0,.u64 a1,.u64 a2,.u64 a3,.u64 a4,.u64 a5,.u64 a6,.u64 a7,.u64 a8,.u64 a9,.u64 a10,.u64 a11,.u64 a12,.u64 a13,.u64 a14,.u64 a15]]=>some (.pure (N16.av (φ.invN (N16.mk a0 a1 a2 a3 a4 a5 a6 a7 a8 a9 a10 a11 a12 a13 a14 a15))),φ.ok (N16.mk a0 a1 a2 a3 a4 a5 a6 a7 a8 a9 a10 a11 a12 a13 a14 a15))
 | _=>none
theorem q49_ok:CSOk Tryd.prog (csP (psNo (q49 realFe))):=psNo_ok _
def q85 (φ:Fe):List AVal→Option (EffA × Bool)
 | [.agg [.u64 a0,.u64 a1,.u64 a2,.u64 a3,.u64 a4,.u64 a5,.u64 a6,.u64 a7,.u64 a8,.u64 a9,.u64 a10,.u64 a11,.u64 a12,.u64 a13,.u64 a14,.u64 a15]]=>some (.pure (.tup [(N16.av (φ.rootN (N16.mk a0 a1 a2 a3 a4 a5 a6 a7 a8 a9 a10 a11 a12 a13 a14 a15))),.bool (φ.hasN (N16.mk a0 a1 a2 a3 a4 a5 a6 a7 a8 a9 a10 a11 a12 a13 a14 a15))]),φ.ok (N16.mk a0 a1 a2 a3 a4 a5 a6 a7 a8 a9 a10 a11 a12 a13 a14 a15))
 | _=>none
theorem q85_ok:CSOk Tryd.prog (csP (psNo (q85 realFe))):=psNo_ok _
def q82 (φ:Fe):List AVal→Option EffA
 | [.u32 a]=>some (.pure (N16.av (φ.smallN a)))
 | _=>none
theorem q82_ok:CSOk Tryd.prog (csNo (q82 realFe)):=csNo_ok _
def q80 (φ:Fe):List AVal→Option (EffA × Bool)
 | [.str a]=>some (.pure (N16.av (φ.ofN a)),φ.l32 a)
 | _=>none
theorem q80_ok:CSOk Tryd.prog (csP (psNo (q80 realFe))):=psNo_ok _
def q79 (φ:Fe):List AVal→Option EffA
 | [.str a]=>some (.pure (.bool (φ.canonN a)))
 | _=>none
theorem q79_ok:CSOk Tryd.prog (csNo (q79 realFe)):=csNo_ok _
def q29 (φ:Fe):List AVal→Option EffA
 | [.agg [.u64 a0,.u64 a1,.u64 a2,.u64 a3,.u64 a4,.u64 a5,.u64 a6,.u64 a7,.u64 a8,.u64 a9,.u64 a10,.u64 a11,.u64 a12,.u64 a13,.u64 a14,.u64 a15]]=>some (.pure (.str ((List.range 32).map (φ.byN (N16.mk a0 a1 a2 a3 a4 a5 a6 a7 a8 a9 a10 a11 a12 a13 a14 a15)))))
 | _=>none
theorem q29_ok:CSOk Tryd.prog (csOne 10 (q29 realFe)):=csOne_ok fun args e he=>by
 unfold q29 at he
 split at he
 ·rename_i a0 a1 a2 a3 a4 a5 a6 a7 a8 a9 a10 a11 a12 a13 a14 a15
  cases he
  exact g29_ok 10 [(N16.av (N16.mk a0 a1 a2 a3 a4 a5 a6 a7 a8 a9 a10 a11 a12 a13 a14 a15))] _ rfl
 ·cases he
def q25 (φ:Fe):List AVal→Option EffA
 | [.agg [.u64 a0,.u64 a1,.u64 a2,.u64 a3]]=>some (.pure (.str ((List.range 32).map (φ.sby (W4.mk a0 a1 a2 a3)))))
 | _=>none
theorem q25_ok:CSOk Tryd.prog (csOne 18 (q25 realFe)):=csOne_ok fun args e he=>by
 unfold q25 at he
 split at he
 ·rename_i a0 a1 a2 a3
  cases he
  exact g25_ok 18 [(W4.av (W4.mk a0 a1 a2 a3))] _ rfl
 ·cases he
def psne (φ:Fe):PS:=(psAlt (psNo (q84 φ)) (psAlt (psNo (q81 φ)) (psAlt (psNo (q50 φ)) (psAlt (psNo (q49 φ)) (psAlt (psNo (q85 φ)) (psNo (q80 φ)))))))
theorem psne_ok:CSOk Tryd.prog (csP (psne realFe)):=(csP_alt q84_ok (csP_alt q81_ok (csP_alt q50_ok (csP_alt q49_ok (csP_alt q85_ok q80_ok)))))
def chne (φ:Fe):CS:=(csAlt (csOne 44 (q71 φ)) (csAlt (csOne 46 (q73 φ)) (csAlt (csOne 34 (q58 φ)) (csAlt (csOne 49 (q76 φ)) (csAlt (csOne 33 (q57 φ)) (csAlt (csOne 48 (q75 φ)) (csAlt (csOne 36 (q60 φ)) (csAlt (csOne 45 (q72 φ)) (csAlt (csOne 47 (q74 φ)) (csAlt (csOne 42 (q69 φ)) (csAlt (csOne 41 (q68 φ)) (csAlt (csOne 35 (q59 φ)) (csAlt (csNo (q86 φ)) (csAlt (csNo (q82 φ)) (csAlt (csNo (q79 φ)) (csAlt (csOne 10 (q29 φ)) (csOne 18 (q25 φ))))))))))))))))))
theorem chne_ok:CSOk Tryd.prog (chne realFe):=(csAlt_ok q71_ok (csAlt_ok q73_ok (csAlt_ok q58_ok (csAlt_ok q76_ok (csAlt_ok q57_ok (csAlt_ok q75_ok (csAlt_ok q60_ok (csAlt_ok q72_ok (csAlt_ok q74_ok (csAlt_ok q69_ok (csAlt_ok q68_ok (csAlt_ok q59_ok (csAlt_ok q86_ok (csAlt_ok q82_ok (csAlt_ok q79_ok (csAlt_ok q29_ok q25_ok))))))))))))))))
def ne (φ:Fe):CS:=csAlt (csP (psne φ)) (chne φ)
theorem ne_ok:CSOk Tryd.prog (ne realFe):=csAlt_ok psne_ok chne_ok
theorem ne_ps (φ:Fe):PSOk (psne φ) (ne φ):=csP_ok
end Go.Proofs.YtcjkbimdmcfppaaDoor
namespace Go.Proofs.YtcjkbimdmcfppaaDoor
open Go Go.Eng Go.Num
noncomputable def nei (φ:Fe):CS:=inlW Tryd.prog mask 200 (ne φ) 2
theorem nei_ok:CSOk Tryd.prog (nei realFe):=inlW_ok hmix ne_ok 2
def psnei (φ:Fe):PS:=psne φ
theorem nei_ps (φ:Fe):PSOk (psnei φ) (nei φ):=fun f args e h=>inlW_has (ne_ps φ f args e h)
end Go.Proofs.YtcjkbimdmcfppaaDoor
namespace Go.Proofs.YtcjkbimdmcfppaaDoor
open Go Go.Eng Go.Num
abbrev okQ:=okQ0
end Go.Proofs.YtcjkbimdmcfppaaDoor
namespace Go.Proofs.YtcjkbimdmcfppaaDoor
open Go Go.Eng Go.Num
theorem e18a (φ:Fe) (p q:P4 E5):ansO (run1O Tryd.prog (psnei φ) (nei φ) [12] [true] [] (mask 24) 200 24 [pAv p,pAv q] [] Tryd.prog.globals.size)=some (pAv emptyE,[φ.same p.z zeroE]):=by kernel_rfl
theorem e18b (φ:Fe) (p q:P4 E5):ansO (run1O Tryd.prog (psnei φ) (nei φ) [12,15] [false,true] [] (mask 24) 200 24 [pAv p,pAv q] [] Tryd.prog.globals.size)=some (pAv emptyE,[φ.same q.z zeroE,!(φ.same p.z zeroE)]):=by kernel_rfl
theorem e18c (φ:Fe) (p q:P4 E5):ansO (run1O Tryd.prog (psnei φ) (nei φ) [12,15] [false,false] [] (mask 24) 200 24 [pAv p,pAv q] [] Tryd.prog.globals.size)=some (pAv (addO (opsφ φ) (curveφ φ) p q),[!(φ.same q.z zeroE),!(φ.same p.z zeroE)]):=by kernel_rfl
theorem rad (φ:Fe) (p q:P4 E5):(run1 Tryd.prog (nei φ) (mask 24) 200 24 [pAv p,pAv q] [] Tryd.prog.globals.size).map (·.1)=some (pAv (addφ φ p q)):=by
 unfold addφ noneφ
 cases h1:φ.same p.z zeroE
 ·cases h2:φ.same q.z zeroE
  ·exact ansO_run (nei_ps φ) (e18c φ p q) (by simp [allT,h1,h2])
  ·exact ansO_run (nei_ps φ) (e18b φ p q) (by simp [allT,h1,h2])
 ·exact ansO_run (nei_ps φ) (e18a φ p q) (by simp [allT,h1])
theorem rz1 (φ:Fe):(run1 Tryd.prog (nei φ) (mask 32) 200 32 [] [] Tryd.prog.globals.size).map (·.1)=some (pAv (zeroφ φ)):=by kernel_rfl
theorem e12a (φ:Fe) (p:P4 E5):ansO (run1O Tryd.prog (psnei φ) (nei φ) [6] [true] [] (mask 15) 200 15 [pAv p] [] Tryd.prog.globals.size)=some (.str [],[φ.same p.z zeroE]):=by kernel_rfl
theorem e12b (φ:Fe) (p:P4 E5):ansO (run1O Tryd.prog (psnei φ) (nei φ) [6,20] [false,true] [] (mask 15) 200 15 [pAv p] [] Tryd.prog.globals.size)=some (.str (top128 (byLφ φ (φ.mul p.y (φ.inv p.z)))),[φ.odd (φ.mul p.x (φ.inv p.z)),!(φ.same p.z zeroE)]):=by kernel_rfl
theorem e12c (φ:Fe) (p:P4 E5):ansO (run1O Tryd.prog (psnei φ) (nei φ) [6,20] [false,false] [] (mask 15) 200 15 [pAv p] [] Tryd.prog.globals.size)=some (.str (byLφ φ (φ.mul p.y (φ.inv p.z))),[!(φ.odd (φ.mul p.x (φ.inv p.z))),!(φ.same p.z zeroE)]):=by kernel_rfl
theorem rby (φ:Fe) (p:P4 E5):(run1 Tryd.prog (nei φ) (mask 15) 200 15 [pAv p] [] Tryd.prog.globals.size).map (·.1)=some (.str (bytesφ φ p)):=by
 unfold bytesφ noneφ
 cases h1:φ.same p.z zeroE
 ·cases h2:φ.odd (φ.mul p.x (φ.inv p.z))
  ·exact ansO_run (nei_ps φ) (e12c φ p) (by simp [allT,h1,h2])
  ·exact ansO_run (nei_ps φ) (e12b φ p) (by simp [allT,h1,h2])
 ·exact ansO_run (nei_ps φ) (e12a φ p) (by simp [allT,h1])
theorem e13a (φ:Fe) (p q:P4 E5):ansO (run1O Tryd.prog (psnei φ) (nei φ) [6] [true] [] (mask 23) 200 23 [pAv p,pAv q] [] Tryd.prog.globals.size)=some (.bool false,[φ.same p.z zeroE]):=by kernel_rfl
theorem e13b (φ:Fe) (p q:P4 E5):ansO (run1O Tryd.prog (psnei φ) (nei φ) [6,10] [false,true] [] (mask 23) 200 23 [pAv p,pAv q] [] Tryd.prog.globals.size)=some (.bool false,[φ.same q.z zeroE,!(φ.same p.z zeroE)]):=by kernel_rfl
theorem e13c (φ:Fe) (p q:P4 E5):ansO (run1O Tryd.prog (psnei φ) (nei φ) [6,10,24] [false,false,false] [] (mask 23) 200 23 [pAv p,pAv q] [] Tryd.prog.globals.size)=some (.bool false,[!(φ.same (φ.mul p.x q.z) (φ.mul q.x p.z)),!(φ.same q.z zeroE),!(φ.same p.z zeroE)]):=by kernel_rfl
theorem e13d (φ:Fe) (p q:P4 E5):ansO (run1O Tryd.prog (psnei φ) (nei φ) [6,10,24] [false,false,true] [] (mask 23) 200 23 [pAv p,pAv q] [] Tryd.prog.globals.size)=some (.bool (φ.same (φ.mul p.y q.z) (φ.mul q.y p.z)),[φ.same (φ.mul p.x q.z) (φ.mul q.x p.z),!(φ.same q.z zeroE),!(φ.same p.z zeroE)]):=by kernel_rfl
theorem rsa (φ:Fe) (p q:P4 E5):(run1 Tryd.prog (nei φ) (mask 23) 200 23 [pAv p,pAv q] [] Tryd.prog.globals.size).map (·.1)=some (.bool (sameφ φ p q)):=by
 unfold sameφ noneφ
 cases h1:φ.same p.z zeroE
 ·cases h2:φ.same q.z zeroE
  ·cases h3:φ.same (φ.mul p.x q.z) (φ.mul q.x p.z)
   ·exact ansO_run (nei_ps φ) (e13c φ p q) (by simp [allT,h1,h2,h3])
   ·exact ansO_run (nei_ps φ) (e13d φ p q) (by simp [allT,h1,h2,h3])
  ·exact ansO_run (nei_ps φ) (e13b φ p q) (by simp [allT,h1,h2])
 ·exact ansO_run (nei_ps φ) (e13a φ p q) (by simp [allT,h1])
theorem e9a (φ:Fe) (s:List UInt8):ansO (run1O Tryd.prog (psnei φ) (nei φ) [14] [true] [] (mask 20) 200 20 [.str s] [] Tryd.prog.globals.size)=some (.tup [pAv emptyE,.int .i64 2],[((s.length:Int) != 32)]):=by kernel_rfl
theorem e9b (φ:Fe) (s0 s1 s2 s3 s4 s5 s6 s7 s8 s9 s10 s11 s12 s13 s14 s15 s16 s17 s18 s19 s20 s21 s22 s23 s24 s25 s26 s27 s28 s29 s30 s31:UInt8):ansO (run1O Tryd.prog (psnei φ) (nei φ) [29] [false] [] (mask 20) 200 20 [.str [s0,s1,s2,s3,s4,s5,s6,s7,s8,s9,s10,s11,s12,s13,s14,s15,s16,s17,s18,s19,s20,s21,s22,s23,s24,s25,s26,s27,s28,s29,s30,s31]] [] Tryd.prog.globals.size)=some (.tup [pAv emptyE,.int .i64 40],[!(φ.canon (topL [s0,s1,s2,s3,s4,s5,s6,s7,s8,s9,s10,s11,s12,s13,s14,s15,s16,s17,s18,s19,s20,s21,s22,s23,s24,s25,s26,s27,s28,s29,s30,s31]))]):=by kernel_rfl
theorem e9c (φ:Fe) (s0 s1 s2 s3 s4 s5 s6 s7 s8 s9 s10 s11 s12 s13 s14 s15 s16 s17 s18 s19 s20 s21 s22 s23 s24 s25 s26 s27 s28 s29 s30 s31:UInt8):ansO (run1O Tryd.prog (psnei φ) (nei φ) [29,55] [true,false] [] (mask 20) 200 20 [.str [s0,s1,s2,s3,s4,s5,s6,s7,s8,s9,s10,s11,s12,s13,s14,s15,s16,s17,s18,s19,s20,s21,s22,s23,s24,s25,s26,s27,s28,s29,s30,s31]] [] Tryd.prog.globals.size)=some (.tup [pAv emptyE,.int .i64 40],[!(φ.has (uφ φ [s0,s1,s2,s3,s4,s5,s6,s7,s8,s9,s10,s11,s12,s13,s14,s15,s16,s17,s18,s19,s20,s21,s22,s23,s24,s25,s26,s27,s28,s29,s30,s31])),φ.canon (topL [s0,s1,s2,s3,s4,s5,s6,s7,s8,s9,s10,s11,s12,s13,s14,s15,s16,s17,s18,s19,s20,s21,s22,s23,s24,s25,s26,s27,s28,s29,s30,s31])]):=by kernel_rfl
theorem e9d (φ:Fe) (s0 s1 s2 s3 s4 s5 s6 s7 s8 s9 s10 s11 s12 s13 s14 s15 s16 s17 s18 s19 s20 s21 s22 s23 s24 s25 s26 s27 s28 s29 s30 s31:UInt8):ansO (run1O Tryd.prog (psnei φ) (nei φ) [22,29,55,63] [true,true,true,true] [] (mask 20) 200 20 [.str [s0,s1,s2,s3,s4,s5,s6,s7,s8,s9,s10,s11,s12,s13,s14,s15,s16,s17,s18,s19,s20,s21,s22,s23,s24,s25,s26,s27,s28,s29,s30,s31]] [] Tryd.prog.globals.size)=some (.tup [pAv emptyE,.int .i64 40],[φ.same (φ.root (uφ φ [s0,s1,s2,s3,s4,s5,s6,s7,s8,s9,s10,s11,s12,s13,s14,s15,s16,s17,s18,s19,s20,s21,s22,s23,s24,s25,s26,s27,s28,s29,s30,s31])) zeroE,φ.has (uφ φ [s0,s1,s2,s3,s4,s5,s6,s7,s8,s9,s10,s11,s12,s13,s14,s15,s16,s17,s18,s19,s20,s21,s22,s23,s24,s25,s26,s27,s28,s29,s30,s31]),φ.canon (topL [s0,s1,s2,s3,s4,s5,s6,s7,s8,s9,s10,s11,s12,s13,s14,s15,s16,s17,s18,s19,s20,s21,s22,s23,s24,s25,s26,s27,s28,s29,s30,s31]),decOdd [s0,s1,s2,s3,s4,s5,s6,s7,s8,s9,s10,s11,s12,s13,s14,s15,s16,s17,s18,s19,s20,s21,s22,s23,s24,s25,s26,s27,s28,s29,s30,s31]]):=by kernel_rfl
theorem e9e (φ:Fe) (s0 s1 s2 s3 s4 s5 s6 s7 s8 s9 s10 s11 s12 s13 s14 s15 s16 s17 s18 s19 s20 s21 s22 s23 s24 s25 s26 s27 s28 s29 s30 s31:UInt8):ansO (run1O Tryd.prog (psnei φ) (nei φ) [22,29,55,63] [true,true,true,false] [] (mask 20) 200 20 [.str [s0,s1,s2,s3,s4,s5,s6,s7,s8,s9,s10,s11,s12,s13,s14,s15,s16,s17,s18,s19,s20,s21,s22,s23,s24,s25,s26,s27,s28,s29,s30,s31]] [] Tryd.prog.globals.size)=some (.tup [pAv ⟨φ.neg (φ.root (uφ φ [s0,s1,s2,s3,s4,s5,s6,s7,s8,s9,s10,s11,s12,s13,s14,s15,s16,s17,s18,s19,s20,s21,s22,s23,s24,s25,s26,s27,s28,s29,s30,s31])),yφ φ [s0,s1,s2,s3,s4,s5,s6,s7,s8,s9,s10,s11,s12,s13,s14,s15,s16,s17,s18,s19,s20,s21,s22,s23,s24,s25,s26,s27,s28,s29,s30,s31],φ.small 1,φ.mul (φ.neg (φ.root (uφ φ [s0,s1,s2,s3,s4,s5,s6,s7,s8,s9,s10,s11,s12,s13,s14,s15,s16,s17,s18,s19,s20,s21,s22,s23,s24,s25,s26,s27,s28,s29,s30,s31]))) (yφ φ [s0,s1,s2,s3,s4,s5,s6,s7,s8,s9,s10,s11,s12,s13,s14,s15,s16,s17,s18,s19,s20,s21,s22,s23,s24,s25,s26,s27,s28,s29,s30,s31])⟩,.int .i64 0],[!(φ.same (φ.root (uφ φ [s0,s1,s2,s3,s4,s5,s6,s7,s8,s9,s10,s11,s12,s13,s14,s15,s16,s17,s18,s19,s20,s21,s22,s23,s24,s25,s26,s27,s28,s29,s30,s31])) zeroE),φ.has (uφ φ [s0,s1,s2,s3,s4,s5,s6,s7,s8,s9,s10,s11,s12,s13,s14,s15,s16,s17,s18,s19,s20,s21,s22,s23,s24,s25,s26,s27,s28,s29,s30,s31]),φ.canon (topL [s0,s1,s2,s3,s4,s5,s6,s7,s8,s9,s10,s11,s12,s13,s14,s15,s16,s17,s18,s19,s20,s21,s22,s23,s24,s25,s26,s27,s28,s29,s30,s31]),decOdd [s0,s1,s2,s3,s4,s5,s6,s7,s8,s9,s10,s11,s12,s13,s14,s15,s16,s17,s18,s19,s20,s21,s22,s23,s24,s25,s26,s27,s28,s29,s30,s31]]):=by kernel_rfl
theorem e9f (φ:Fe) (s0 s1 s2 s3 s4 s5 s6 s7 s8 s9 s10 s11 s12 s13 s14 s15 s16 s17 s18 s19 s20 s21 s22 s23 s24 s25 s26 s27 s28 s29 s30 s31:UInt8):ansO (run1O Tryd.prog (psnei φ) (nei φ) [22,29,55] [false,true,true] [] (mask 20) 200 20 [.str [s0,s1,s2,s3,s4,s5,s6,s7,s8,s9,s10,s11,s12,s13,s14,s15,s16,s17,s18,s19,s20,s21,s22,s23,s24,s25,s26,s27,s28,s29,s30,s31]] [] Tryd.prog.globals.size)=some (.tup [pAv ⟨φ.root (uφ φ [s0,s1,s2,s3,s4,s5,s6,s7,s8,s9,s10,s11,s12,s13,s14,s15,s16,s17,s18,s19,s20,s21,s22,s23,s24,s25,s26,s27,s28,s29,s30,s31]),yφ φ [s0,s1,s2,s3,s4,s5,s6,s7,s8,s9,s10,s11,s12,s13,s14,s15,s16,s17,s18,s19,s20,s21,s22,s23,s24,s25,s26,s27,s28,s29,s30,s31],φ.small 1,φ.mul (φ.root (uφ φ [s0,s1,s2,s3,s4,s5,s6,s7,s8,s9,s10,s11,s12,s13,s14,s15,s16,s17,s18,s19,s20,s21,s22,s23,s24,s25,s26,s27,s28,s29,s30,s31])) (yφ φ [s0,s1,s2,s3,s4,s5,s6,s7,s8,s9,s10,s11,s12,s13,s14,s15,s16,s17,s18,s19,s20,s21,s22,s23,s24,s25,s26,s27,s28,s29,s30,s31])⟩,.int .i64 0],[φ.has (uφ φ [s0,s1,s2,s3,s4,s5,s6,s7,s8,s9,s10,s11,s12,s13,s14,s15,s16,s17,s18,s19,s20,s21,s22,s23,s24,s25,s26,s27,s28,s29,s30,s31]),φ.canon (topL [s0,s1,s2,s3,s4,s5,s6,s7,s8,s9,s10,s11,s12,s13,s14,s15,s16,s17,s18,s19,s20,s21,s22,s23,s24,s25,s26,s27,s28,s29,s30,s31]),!(decOdd [s0,s1,s2,s3,s4,s5,s6,s7,s8,s9,s10,s11,s12,s13,s14,s15,s16,s17,s18,s19,s20,s21,s22,s23,s24,s25,s26,s27,s28,s29,s30,s31])]):=by kernel_rfl
theorem rde (φ:Fe) (s:List UInt8):(run1 Tryd.prog (nei φ) (mask 20) 200 20 [.str s] [] Tryd.prog.globals.size).map (·.1)=some (.tup [pAv (decφ φ s),.int .i64 (decRφ φ s)]):=by
 unfold decφ decRφ
 cases hl:isLen s 32
 ·exact ansO_run (nei_ps φ) (e9a φ s) (by simp [allT,ne32 hl])
 obtain ⟨s0,s1,s2,s3,s4,s5,s6,s7,s8,s9,s10,s11,s12,s13,s14,s15,s16,s17,s18,s19,s20,s21,s22,s23,s24,s25,s26,s27,s28,s29,s30,s31,rfl⟩:=len32 (isLen_eq.1 hl)
 simp only [cond_true]
 cases h1:φ.canon (topL [s0,s1,s2,s3,s4,s5,s6,s7,s8,s9,s10,s11,s12,s13,s14,s15,s16,s17,s18,s19,s20,s21,s22,s23,s24,s25,s26,s27,s28,s29,s30,s31])
 ·have e:okφ φ [s0,s1,s2,s3,s4,s5,s6,s7,s8,s9,s10,s11,s12,s13,s14,s15,s16,s17,s18,s19,s20,s21,s22,s23,s24,s25,s26,s27,s28,s29,s30,s31]=false:=by unfold okφ; rw [h1]; rfl
  rw [e]
  exact ansO_run (nei_ps φ) (e9b φ s0 s1 s2 s3 s4 s5 s6 s7 s8 s9 s10 s11 s12 s13 s14 s15 s16 s17 s18 s19 s20 s21 s22 s23 s24 s25 s26 s27 s28 s29 s30 s31) (by rw [h1]; rfl)
 cases h2:φ.has (uφ φ [s0,s1,s2,s3,s4,s5,s6,s7,s8,s9,s10,s11,s12,s13,s14,s15,s16,s17,s18,s19,s20,s21,s22,s23,s24,s25,s26,s27,s28,s29,s30,s31])
 ·have e:okφ φ [s0,s1,s2,s3,s4,s5,s6,s7,s8,s9,s10,s11,s12,s13,s14,s15,s16,s17,s18,s19,s20,s21,s22,s23,s24,s25,s26,s27,s28,s29,s30,s31]=false:=by unfold okφ; rw [h1,h2]; rfl
  rw [e]
  exact ansO_run (nei_ps φ) (e9c φ s0 s1 s2 s3 s4 s5 s6 s7 s8 s9 s10 s11 s12 s13 s14 s15 s16 s17 s18 s19 s20 s21 s22 s23 s24 s25 s26 s27 s28 s29 s30 s31) (by rw [h1,h2]; rfl)
 cases h3:decOdd [s0,s1,s2,s3,s4,s5,s6,s7,s8,s9,s10,s11,s12,s13,s14,s15,s16,s17,s18,s19,s20,s21,s22,s23,s24,s25,s26,s27,s28,s29,s30,s31]
 ·have e:okφ φ [s0,s1,s2,s3,s4,s5,s6,s7,s8,s9,s10,s11,s12,s13,s14,s15,s16,s17,s18,s19,s20,s21,s22,s23,s24,s25,s26,s27,s28,s29,s30,s31]=true:=by unfold okφ; rw [h1,h2,h3]; rfl
  have e2:decPφ φ [s0,s1,s2,s3,s4,s5,s6,s7,s8,s9,s10,s11,s12,s13,s14,s15,s16,s17,s18,s19,s20,s21,s22,s23,s24,s25,s26,s27,s28,s29,s30,s31]=⟨φ.root (uφ φ [s0,s1,s2,s3,s4,s5,s6,s7,s8,s9,s10,s11,s12,s13,s14,s15,s16,s17,s18,s19,s20,s21,s22,s23,s24,s25,s26,s27,s28,s29,s30,s31]),yφ φ [s0,s1,s2,s3,s4,s5,s6,s7,s8,s9,s10,s11,s12,s13,s14,s15,s16,s17,s18,s19,s20,s21,s22,s23,s24,s25,s26,s27,s28,s29,s30,s31],φ.small 1,φ.mul (φ.root (uφ φ [s0,s1,s2,s3,s4,s5,s6,s7,s8,s9,s10,s11,s12,s13,s14,s15,s16,s17,s18,s19,s20,s21,s22,s23,s24,s25,s26,s27,s28,s29,s30,s31])) (yφ φ [s0,s1,s2,s3,s4,s5,s6,s7,s8,s9,s10,s11,s12,s13,s14,s15,s16,s17,s18,s19,s20,s21,s22,s23,s24,s25,s26,s27,s28,s29,s30,s31])⟩:=by unfold decPφ xφ; rw [h3]; rfl
  rw [e,cond_true,cond_true,e2]
  exact ansO_run (nei_ps φ) (e9f φ s0 s1 s2 s3 s4 s5 s6 s7 s8 s9 s10 s11 s12 s13 s14 s15 s16 s17 s18 s19 s20 s21 s22 s23 s24 s25 s26 s27 s28 s29 s30 s31) (by rw [h1,h2,h3]; rfl)
 cases h4:φ.same (φ.root (uφ φ [s0,s1,s2,s3,s4,s5,s6,s7,s8,s9,s10,s11,s12,s13,s14,s15,s16,s17,s18,s19,s20,s21,s22,s23,s24,s25,s26,s27,s28,s29,s30,s31])) zeroE
 ·have e:okφ φ [s0,s1,s2,s3,s4,s5,s6,s7,s8,s9,s10,s11,s12,s13,s14,s15,s16,s17,s18,s19,s20,s21,s22,s23,s24,s25,s26,s27,s28,s29,s30,s31]=true:=by unfold okφ; rw [h1,h2,h3,h4]; rfl
  have e2:decPφ φ [s0,s1,s2,s3,s4,s5,s6,s7,s8,s9,s10,s11,s12,s13,s14,s15,s16,s17,s18,s19,s20,s21,s22,s23,s24,s25,s26,s27,s28,s29,s30,s31]=⟨φ.neg (φ.root (uφ φ [s0,s1,s2,s3,s4,s5,s6,s7,s8,s9,s10,s11,s12,s13,s14,s15,s16,s17,s18,s19,s20,s21,s22,s23,s24,s25,s26,s27,s28,s29,s30,s31])),yφ φ [s0,s1,s2,s3,s4,s5,s6,s7,s8,s9,s10,s11,s12,s13,s14,s15,s16,s17,s18,s19,s20,s21,s22,s23,s24,s25,s26,s27,s28,s29,s30,s31],φ.small 1,φ.mul (φ.neg (φ.root (uφ φ [s0,s1,s2,s3,s4,s5,s6,s7,s8,s9,s10,s11,s12,s13,s14,s15,s16,s17,s18,s19,s20,s21,s22,s23,s24,s25,s26,s27,s28,s29,s30,s31]))) (yφ φ [s0,s1,s2,s3,s4,s5,s6,s7,s8,s9,s10,s11,s12,s13,s14,s15,s16,s17,s18,s19,s20,s21,s22,s23,s24,s25,s26,s27,s28,s29,s30,s31])⟩:=by unfold decPφ xφ; rw [h3]; rfl
  rw [e,cond_true,cond_true,e2]
  exact ansO_run (nei_ps φ) (e9e φ s0 s1 s2 s3 s4 s5 s6 s7 s8 s9 s10 s11 s12 s13 s14 s15 s16 s17 s18 s19 s20 s21 s22 s23 s24 s25 s26 s27 s28 s29 s30 s31) (by rw [h1,h2,h3,h4]; rfl)
 ·have e:okφ φ [s0,s1,s2,s3,s4,s5,s6,s7,s8,s9,s10,s11,s12,s13,s14,s15,s16,s17,s18,s19,s20,s21,s22,s23,s24,s25,s26,s27,s28,s29,s30,s31]=false:=by unfold okφ; rw [h1,h2,h3,h4]; rfl
  rw [e]
  exact ansO_run (nei_ps φ) (e9d φ s0 s1 s2 s3 s4 s5 s6 s7 s8 s9 s10 s11 s12 s13 s14 s15 s16 s17 s18 s19 s20 s21 s22 s23 s24 s25 s26 s27 s28 s29 s30 s31) (by rw [h1,h2,h3,h4]; rfl)
end Go.Proofs.YtcjkbimdmcfppaaDoor
namespace Go.Num
open Go Go.Eng
structure Fi where
 add:P4 E5→P4 E5→P4 E5
 neg:P4 E5→P4 E5
 same:P4 E5→P4 E5→Bool
 zero:P4 E5
 none:P4 E5→Bool
 bytes:P4 E5→List UInt8
 dec:List UInt8→P4 E5
 decR:List UInt8→Int
 small:P4 E5→Bool
 mul:P4 E5→W4→P4 E5
 base:P4 E5
 addQ:P4 N16→P4 N16→P4 N16
 negQ:P4 N16→P4 N16
 sameQ:P4 N16→P4 N16→Bool
 zeroQ:P4 N16
 bytesQ:P4 N16→List UInt8
 decQ:List UInt8→P4 N16
 decRQ:List UInt8→Int
 smallQ:P4 N16→Bool
 mulQ:P4 N16→N16→P4 N16
 baseQ:P4 N16
 onQ:P4 N16→Bool
 given:Bool
 okQ:P4 N16→Bool
 sof:List UInt8→W4
 sofR:List UInt8→Int
 sby:W4→List UInt8
 sadd:W4→W4→W4
 smul:W4→W4→W4
 sneg:W4→W4
 nof:List UInt8→N16
def smallG {P:Type}(add:P→P→P) (same:P→P→Bool) (zero p:P):Bool:=same (add (add (add p p) (add p p)) (add (add p p) (add p p))) zero
def mulG {P:Type}(add:P→P→P) (zero empty:P) (none:P→Bool) (p:P) (bit:Nat→Bool):P:=cond (none p) empty (iterG add zero p bit 256)
def mulE4 (p:P4 E5) (n:W4):P4 E5:=mulG (addφ realFe) (zeroφ realFe) emptyE (noneφ realFe) p (bitK (bytesW n))
def mulN4 (p:P4 N16) (n:N16):P4 N16:=iterG (addψ realFe) (zeroψ realFe) p (bitN16 n) 256
def realFi:Fi:={
 add:=addφ realFe
 neg:=negφ realFe
 same:=sameφ realFe
 zero:=zeroφ realFe
 none:=noneφ realFe
 bytes:=bytesφ realFe
 dec:=decφ realFe
 decR:=decRφ realFe
 small:=smallG (addφ realFe) (sameφ realFe) (zeroφ realFe)
 mul:=mulE4
 base:=decφ realFe baseL
 addQ:=addψ realFe
 negQ:=negψ realFe
 sameQ:=sameψ realFe
 zeroQ:=zeroψ realFe
 bytesQ:=bytesψ realFe
 decQ:=decψ realFe
 decRQ:=decRψ realFe
 smallQ:=smallG (addψ realFe) (sameψ realFe) (zeroψ realFe)
 mulQ:=mulN4
 baseQ:=decψ realFe baseL
 onQ:=onψ realFe
 given:=samP (givenφ realFe) (dφ realFe)
 okQ:=okQ0 realFe
 sof:=oV
 sofR:=oE
 sby:=bytesW
 sadd:=addW
 smul:=mulW
 sneg:=negW
 nof:=ofN }
end Go.Num
namespace Go.Num
open Go Go.Eng
theorem mul_eq (p:P4 E5) (n:W4):realFi.mul p n=mulG realFi.add realFi.zero emptyE realFi.none p (bitK (realFi.sby n)):=by simp only [realFi,mulE4]
theorem small_eq (p:P4 E5):realFi.small p=smallG realFi.add realFi.same realFi.zero p:=by simp only [realFi]
theorem smallQ_eq (p:P4 N16):realFi.smallQ p=smallG realFi.addQ realFi.sameQ realFi.zeroQ p:=by simp only [realFi]
theorem base_eq:realFi.base=realFi.dec baseL:=by simp only [realFi]
theorem baseQ_eq:realFi.baseQ=realFi.decQ baseL:=by simp only [realFi]
theorem sby_len (n:W4):(realFi.sby n).length=32:=by
 show (bytesW n).length=32
 unfold bytesW; rw [List.length_map,List.length_range]
end Go.Num
namespace Go.Proofs.YtcjkbimdmcfppaaDoor
open Go Go.Eng Go.Num
theorem rno (φ:Fe) (p:P4 E5):(run1 Tryd.prog (ne φ) (mask 31) 200 31 [pAv p] [] Tryd.prog.globals.size).map (·.1)=some (.bool (noneφ φ p)):=by kernel_rfl
def h35 (φ:Fi):List AVal→Option EffA
 | [a,b]=>match pOf a,pOf b with
  | some x0,some x1=>some (.pure (pAv (φ.add x0 x1)))
  | _,_=>none
 | _=>none
theorem h35_ok:CSOk Tryd.prog (csOne 24 (h35 realFi)):=csOne_ok fun args e he=>by
 unfold h35 at he
 split at he
 ·split at he
  ·rename_i x0 x1 h0 h1
   cases he
   rw [pOf_eq h0,pOf_eq h1]
   exact callOk_val nei_ok hmix (rad realFe x0 x1) rfl rfl
  ·cases he
 ·cases he
def h34 (φ:Fi):List AVal→Option EffA
 | [a,b]=>match pOf a,pOf b with
  | some x0,some x1=>some (.pure (.bool (φ.same x0 x1)))
  | _,_=>none
 | _=>none
theorem h34_ok:CSOk Tryd.prog (csOne 23 (h34 realFi)):=csOne_ok fun args e he=>by
 unfold h34 at he
 split at he
 ·split at he
  ·rename_i x0 x1 h0 h1
   cases he
   rw [pOf_eq h0,pOf_eq h1]
   exact callOk_val nei_ok hmix (rsa realFe x0 x1) rfl rfl
  ·cases he
 ·cases he
def h56 (φ:Fi):List AVal→Option EffA
 | []=>some (.pure (pAv φ.zero))
 | _=>none
theorem h56_ok:CSOk Tryd.prog (csOne 32 (h56 realFi)):=csOne_ok fun args e he=>by
 unfold h56 at he
 split at he
 ·cases he
  exact callOk_val nei_ok hmix (rz1 realFe) rfl rfl
 ·cases he
def h55 (φ:Fi):List AVal→Option EffA
 | [a]=>match pOf a with
  | some x0=>some (.pure (.bool (φ.none x0)))
  | _=>none
 | _=>none
theorem h55_ok:CSOk Tryd.prog (csOne 31 (h55 realFi)):=csOne_ok fun args e he=>by
 unfold h55 at he
 split at he
 ·split at he
  ·rename_i x0 h0
   cases he
   rw [pOf_eq h0]
   exact callOk_val ne_ok hmix (rno realFe x0) rfl rfl
  ·cases he
 ·cases he
def h22 (φ:Fi):List AVal→Option EffA
 | [a]=>match pOf a with
  | some x0=>some (.pure (.str (φ.bytes x0)))
  | _=>none
 | _=>none
theorem h22_ok:CSOk Tryd.prog (csOne 15 (h22 realFi)):=csOne_ok fun args e he=>by
 unfold h22 at he
 split at he
 ·split at he
  ·rename_i x0 h0
   cases he
   rw [pOf_eq h0]
   exact callOk_val nei_ok hmix (rby realFe x0) rfl rfl
  ·cases he
 ·cases he
def h31 (φ:Fi):List AVal→Option EffA
 | [a]=>match sOf a with
  | some x0=>some (.pure (.tup [pAv (φ.dec x0),.int .i64 (φ.decR x0)]))
  | _=>none
 | _=>none
theorem h31_ok:CSOk Tryd.prog (csOne 20 (h31 realFi)):=csOne_ok fun args e he=>by
 unfold h31 at he
 split at he
 ·split at he
  ·rename_i x0 h0
   cases he
   rw [sOf_eq h0]
   exact callOk_val nei_ok hmix (rde realFe x0) rfl rfl
  ·cases he
 ·cases he
def h40 (φ:Fi):List AVal→Option (EffA × Bool)
 | [a,b]=>match qOf a,qOf b with
  | some x0,some x1=>some (.pure (qAv (φ.addQ x0 x1)),(φ.okQ x0 && φ.okQ x1))
  | _,_=>none
 | _=>none
theorem h40_ok:CSOk Tryd.prog (csP (psNo (h40 realFi))):=psNo_ok _
def h39 (φ:Fi):List AVal→Option (EffA × Bool)
 | [a,b]=>match qOf a,qOf b with
  | some x0,some x1=>some (.pure (.bool (φ.sameQ x0 x1)),(φ.okQ x0 && φ.okQ x1))
  | _,_=>none
 | _=>none
theorem h39_ok:CSOk Tryd.prog (csP (psNo (h39 realFi))):=psNo_ok _
def h44 (φ:Fi):List AVal→Option EffA
 | []=>some (.pure (qAv φ.zeroQ))
 | _=>none
theorem h44_ok:CSOk Tryd.prog (csNo (h44 realFi)):=csNo_ok _
def h18 (φ:Fi):List AVal→Option (EffA × Bool)
 | [a]=>match qOf a with
  | some x0=>some (.pure (.str (φ.bytesQ x0)),φ.okQ x0)
  | _=>none
 | _=>none
theorem h18_ok:CSOk Tryd.prog (csP (psNo (h18 realFi))):=psNo_ok _
def h37 (φ:Fi):List AVal→Option EffA
 | [a]=>match sOf a with
  | some x0=>some (.pure (.tup [qAv (φ.decQ x0),.int .i64 (φ.decRQ x0)]))
  | _=>none
 | _=>none
theorem h37_ok:CSOk Tryd.prog (csNo (h37 realFi)):=csNo_ok _
def h25 (φ:Fi):List AVal→Option EffA
 | [a]=>match wOf a with
  | some x0=>some (.pure (.str (φ.sby x0)))
  | _=>none
 | _=>none
theorem h25_ok:CSOk Tryd.prog (csOne 18 (h25 realFi)):=csOne_ok fun args e he=>by
 unfold h25 at he
 split at he
 ·split at he
  ·rename_i x0 h0
   cases he
   rw [wOf_eq h0]
   exact callOk_val cs3_ok hmix (run25 x0) rfl rfl
  ·cases he
 ·cases he
def psnh (φ:Fi):PS:=(psAlt (psNo (h40 φ)) (psAlt (psNo (h39 φ)) (psAlt (psNo (h18 φ)) noPS)))
theorem psnh_ok:CSOk Tryd.prog (csP (psnh realFi)):=(csP_alt h40_ok (csP_alt h39_ok (csP_alt h18_ok (fun f args e h=>by cases h))))
def chnh (φ:Fi):CS:=(csAlt (csOne 24 (h35 φ)) (csAlt (csOne 23 (h34 φ)) (csAlt (csOne 32 (h56 φ)) (csAlt (csOne 31 (h55 φ)) (csAlt (csOne 15 (h22 φ)) (csAlt (csOne 20 (h31 φ)) (csAlt (csNo (h44 φ)) (csAlt (csNo (h37 φ)) (csAlt (csOne 18 (h25 φ)) noCS)))))))))
theorem chnh_ok:CSOk Tryd.prog (chnh realFi):=(csAlt_ok h35_ok (csAlt_ok h34_ok (csAlt_ok h56_ok (csAlt_ok h55_ok (csAlt_ok h22_ok (csAlt_ok h31_ok (csAlt_ok h44_ok (csAlt_ok h37_ok (csAlt_ok h25_ok (noCS_ok _))))))))))
def nh (φ:Fi):CS:=csAlt (csP (psnh φ)) (chnh φ)
theorem nh_ok:CSOk Tryd.prog (nh realFi):=csAlt_ok psnh_ok chnh_ok
theorem nh_ps (φ:Fi):PSOk (psnh φ) (nh φ):=csP_ok
end Go.Proofs.YtcjkbimdmcfppaaDoor
namespace Go.Proofs.YtcjkbimdmcfppaaDoor
open Go.Shelf
def Tryd.lays105_ren:Go.Shelf.Ren:=⟨fun | 105=>30 | 212=>52 | 99=>53 | 165=>54 | 166=>55 | 170=>56 | 169=>57 | 263=>70 | 264=>39 | 206=>71 | 240=>72 | 241=>73 | 276=>77 | 277=>78 | n=>n,fun | 9=>9 | 3=>3 | 4=>4 | 20=>20 | 0=>0 | 46=>32 | 109=>86 | 5=>5 | 72=>90 | 76=>94 | 51=>76 | 146=>107 | 53=>27 | 148=>66 | 70=>88 | 37=>33 | 75=>93 | 127=>109 | 164=>113 | 80=>35 | n=>n,fun | n=>n⟩
theorem Tryd.lays105:Go.Proofs.Lays.n105 Tryd.prog Tryd.lays105_ren:={
 mixed:=by kernel_rfl
 f99:=Tryd.func53.trans (congrArg some (by kernel_rfl))
 f105:=Tryd.func30.trans (congrArg some (by kernel_rfl))
 f165:=Tryd.func54.trans (congrArg some (by kernel_rfl))
 f166:=Tryd.func55.trans (congrArg some (by kernel_rfl))
 f169:=Tryd.func57.trans (congrArg some (by kernel_rfl))
 f170:=Tryd.func56.trans (congrArg some (by kernel_rfl))
 f206:=Tryd.func71.trans (congrArg some (by kernel_rfl))
 f212:=Tryd.func52.trans (congrArg some (by kernel_rfl))
 f240:=Tryd.func72.trans (congrArg some (by kernel_rfl))
 f241:=Tryd.func73.trans (congrArg some (by kernel_rfl))
 f263:=Tryd.func70.trans (congrArg some (by kernel_rfl))
 f264:=Tryd.func39.trans (congrArg some (by kernel_rfl))
 f276:=Tryd.func77.trans (congrArg some (by kernel_rfl))
 f277:=Tryd.func78.trans (congrArg some (by kernel_rfl))
 t0:=Tryd.underlying0
 a0:=Tryd.isAgg0
 z0:=Tryd.sizeOf0
 v0:=Tryd.zeroValue0
 t3:=Tryd.underlying3
 a3:=Tryd.isAgg3
 z3:=Tryd.sizeOf3
 v3:=Tryd.zeroValue3
 t4:=Tryd.underlying4
 a4:=Tryd.isAgg4
 z4:=Tryd.sizeOf4
 v4:=Tryd.zeroValue4
 t5:=Tryd.underlying5
 a5:=Tryd.isAgg5
 z5:=Tryd.sizeOf5
 v5:=Tryd.zeroValue5
 t9:=Tryd.underlying9
 a9:=Tryd.isAgg9
 z9:=Tryd.sizeOf9
 v9:=Tryd.zeroValue9
 t20:=Tryd.underlying20
 a20:=Tryd.isAgg20
 z20:=Tryd.sizeOf20
 v20:=Tryd.zeroValue20
 t37:=Tryd.underlying33
 a37:=Tryd.isAgg33
 z37:=Tryd.sizeOf33
 v37:=Tryd.zeroValue33
 t46:=Tryd.underlying32
 a46:=Tryd.isAgg32
 z46:=Tryd.sizeOf32
 v46:=Tryd.zeroValue32
 t51:=Tryd.underlying76
 a51:=Tryd.isAgg76
 z51:=Tryd.sizeOf76
 v51:=Tryd.zeroValue76
 t53:=Tryd.underlying27
 a53:=Tryd.isAgg27
 z53:=Tryd.sizeOf27
 v53:=Tryd.zeroValue27
 t70:=Tryd.underlying88
 a70:=Tryd.isAgg88
 z70:=Tryd.sizeOf88
 v70:=Tryd.zeroValue88
 t72:=Tryd.underlying90
 a72:=Tryd.isAgg90
 z72:=Tryd.sizeOf90
 v72:=Tryd.zeroValue90
 t75:=Tryd.underlying93
 a75:=Tryd.isAgg93
 z75:=Tryd.sizeOf93
 v75:=Tryd.zeroValue93
 t76:=Tryd.underlying94
 a76:=Tryd.isAgg94
 z76:=Tryd.sizeOf94
 v76:=Tryd.zeroValue94
 t109:=Tryd.underlying86
 a109:=Tryd.isAgg86
 z109:=Tryd.sizeOf86
 v109:=Tryd.zeroValue86
 t127:=Tryd.underlying109
 a127:=Tryd.isAgg109
 z127:=Tryd.sizeOf109
 v127:=Tryd.zeroValue109
 t146:=Tryd.underlying107
 a146:=Tryd.isAgg107
 z146:=Tryd.sizeOf107
 v146:=Tryd.zeroValue107
 t148:=Tryd.underlying66
 a148:=Tryd.isAgg66
 z148:=Tryd.sizeOf66
 v148:=Tryd.zeroValue66
 t164:=Tryd.underlying113
 a164:=Tryd.isAgg113
 z164:=Tryd.sizeOf113
 v164:=Tryd.zeroValue113 }
theorem Tryd.Builder_Extra_105:Builder.Extra Tryd.prog Tryd.lays105_ren:={
 sizeBuilder:=by kernel_rfl
 liesBuilder:=by kernel_rfl
 t5:=Tryd.underlying5
 a5:=Tryd.isAgg5
 z5:=Tryd.sizeOf5
 v5:=Tryd.zeroValue5
 infoByte:=by kernel_rfl
 cellsByte:=by kernel_rfl
 sizeByte:=by kernel_rfl
 neB5:=by decide }
open Go.RowKit Go.Lib in
theorem Tryd.strings_Repeat (s:ByteArray) (c:Nat) (w:World) (hc:c≤9223372036854775807) (hlen:s.size * c≤140737488355328) :
  Calls Tryd.prog 30 #[.string s,.int .i64 c] w fun e w'=>e=.returned (.string ⟨(Lib.repeatL s.data.toList c).toArray⟩)∧Go.RowKit.Below w.heap.size w w':=Any.strings_Repeat Tryd.lays105 Tryd.Builder_Extra_105 s c w hc hlen
open Go Go.Eng
theorem callOk_below {P:Program}{f:FuncId}{args:List AVal}{v:AVal}(h:∀ σ args' w,LR σ args args'→Calls P f args' w fun r w' => ∃ v',r=.returned v'∧(∀ σ',VR σ' v v')∧Go.RowKit.Below w.heap.size w w'):CallOk P f args (.pure v):=by
 intro σ args' H w base v0 H0 hl hg hH happ hfree
 simp only [EffA.app,Option.some.injEq,Prod.mk.injEq] at happ
 obtain ⟨rfl,rfl⟩:=happ
 refine (h σ args' w hl).mono fun r w' ⟨v',h1,h2,h3⟩ => ?_
 refine ⟨σ,v',h1,h2 σ,⟨fun n o hn => ?_,hH.inj⟩,⟨Sig.le_refl σ,h3.size,h3.os,h3.output,h3.tape,fun b hb hn=>⟨h3.block b hb,hn⟩⟩,Only.refl σ base⟩
 obtain ⟨p,hp,ho⟩:=hH.obj n o hn
 exact ⟨p,hp,ho.mono (Sig.le_refl σ) (h3.block _ ho.lt)⟩
theorem repeat_ok (s:List UInt8) (c:Nat) (hc:c≤1000) (hs:s.length≤1000):CallOk Tryd.prog 30 [.str s,.int .i64 (c:Int)] (.pure (.str (Lib.repeatL s c))):=callOk_below fun σ args' w hl=>by
 obtain ⟨a,b,rfl,ha,hb⟩:∃ a b,args' = #[a,b]∧VR σ (.str s) a∧VR σ (.int .i64 (c:Int)) b:=by
  have h1:=hl.1
  obtain ⟨l⟩:=args'
  match l,h1 with
  | [a,b],_=>exact ⟨a,b,rfl,hl.2 0 _ _ rfl rfl,hl.2 1 _ _ rfl rfl⟩
 cases ha
 cases hb
 refine (Tryd.strings_Repeat ⟨s.toArray⟩ c w (by omega) ?_).mono fun e w' ⟨h1,h2⟩=>⟨_,h1,fun σ' => ?_,h2⟩
 ·show s.toArray.size * c≤_
  rw [List.size_toArray]
  have:s.length * c≤1000 * 1000:=Nat.mul_le_mul hs hc
  omega
 ·exact .str _
end Go.Proofs.YtcjkbimdmcfppaaDoor
namespace Go.Proofs.YtcjkbimdmcfppaaDoor
open Go Go.Eng Go.Num
def wCells (n:W4):List AVal:=[.u64 n.x0,.u64 n.x1,.u64 n.x2,.u64 n.x3]
def S24 (p:P4 E5) (n:W4) (s:List UInt8) (q:P4 E5) (i:Int):SA:=⟨[(0,pAv p),(1,n.av),(2,.ptr 2 0),(3,.ptr 10 0),(4,.ptr 18 0),(9,.bool false),(5,.ptr 66 0),(6,.str s),(7,.int .i64 i)],[(2,.cells false (pCells p)),(10,.cells false (wCells n)),(18,.cells false (pCells emptyE)),(66,.cells false (pCells q))],130⟩
noncomputable def cd24:List Code:=pieces (bodyOf Tryd.f14)
noncomputable def b24:Code:=loopOf (cd24.getD 5 .skip)
theorem gl1:Tryd.prog.globals.size=2:=by kernel_rfl
theorem m24z (φ:Fi) (p:P4 E5) (n:W4):ansO (run1O Tryd.prog (psnh φ) (nh φ) [9] [true] [] (mask 14) 1000 14 [pAv p,n.av] [] 2)=some (pAv emptyE,[φ.none p]):=by kernel_rfl
theorem pre24 (φ:Fi) (p:P4 E5) (n:W4):segO (evSO Tryd.prog (psnh φ) (nh φ) [9,200017] Tryd.f14.ntmps (mask 14) 1000 2 (cd24.take 5) ⟨startT [pAv p,n.av] 0,[],2⟩ ⟨[false],[.int .i64 255],[]⟩)=some (S24 p n (φ.sby n) φ.zero 255,[eqS (.int .i64 (IntKind.wrap .i64 (IntKind.wrap .i64 (8 * ((φ.sby n).length:Int)) - 1))) (.int .i64 255),!(φ.none p)]):=by kernel_rfl
theorem rd24t (φ:Fi) (p:P4 E5) (n:W4) (s:List UInt8) (q q0:P4 E5) (i j:Int):roundO2 Tryd.prog (psnh φ) (nh φ) [19,28,34] [true,true] [] Tryd.f14.ntmps (mask 14) 1000 2 b24 (S24 p n s q0 j) (S24 p n s q i)=some (S24 p n s (φ.add (φ.add q q) p) (IntKind.wrap .i64 (i - 1)),[(shr_u8 (List.getD s (Int.toNat (IntKind.wrap IntKind.i64 (Int.tdiv i 8))) 0) (UInt64.toNat (UInt64.ofInt (Int.tmod i 8))) &&& 1) == 1,(decide ((0:Int)≤IntKind.wrap IntKind.i64 (Int.tdiv i 8)) && decide (IntKind.wrap IntKind.i64 (Int.tdiv i 8) < (s.length:Int))),decide ((0:Int)≤i)]):=by kernel_rfl
theorem rd24f (φ:Fi) (p:P4 E5) (n:W4) (s:List UInt8) (q q0:P4 E5) (i j:Int):roundO2 Tryd.prog (psnh φ) (nh φ) [19,28,34] [true,false] [] Tryd.f14.ntmps (mask 14) 1000 2 b24 (S24 p n s q0 j) (S24 p n s q i)=some (S24 p n s (φ.add q q) (IntKind.wrap .i64 (i - 1)),[!((shr_u8 (List.getD s (Int.toNat (IntKind.wrap IntKind.i64 (Int.tdiv i 8))) 0) (UInt64.toNat (UInt64.ofInt (Int.tmod i 8))) &&& 1) == 1),(decide ((0:Int)≤IntKind.wrap IntKind.i64 (Int.tdiv i 8)) && decide (IntKind.wrap IntKind.i64 (Int.tdiv i 8) < (s.length:Int))),decide ((0:Int)≤i)]):=by kernel_rfl
theorem end24 (φ:Fi) (p:P4 E5) (n:W4) (s:List UInt8) (q:P4 E5) (i:Int):endO Tryd.prog (psnh φ) (nh φ) [19] Tryd.f14 (mask 14) 1000 2 0 b24 (cd24.drop 6) (S24 p n s q i) ⟨[false],[],[]⟩=some (pAv q,[!decide ((0:Int)≤i)]):=by kernel_rfl
theorem ok24 (p:P4 E5) (n:W4) (s:List UInt8) (q:P4 E5) (i:Int):okS Tryd.prog (S24 p n s q i)=true:=by
 simp [okS,gl1,S24,ltT,ltH,ltV,ltS,ltL,pAv,pCells,W4.av,wCells,nble]
theorem bit_div (m k:Nat) (hm:m < 1000000) (hk:0 < k) (hk2:k < 1000):IntKind.wrap .i64 (Int.tdiv (m:Int) k)=((m / k:Nat):Int):=by
 have e1:Int.tdiv (m:Int) k=((m / k:Nat):Int):=by rw [Int.tdiv_eq_ediv_of_nonneg (by omega)]; rfl
 have hle:=Nat.div_le_self m k
 rw [e1]
 generalize m / k=t at hle ⊢
 exact wrapI _ (by omega) (by omega)
theorem bit_rem (m k:Nat) (hm:m < 1000000) (hk:0 < k) (hk2:k < 1000):UInt64.toNat (UInt64.ofInt (Int.tmod (m:Int) k))=m % k:=by
 have e2:Int.tmod (m:Int) k=((m % k:Nat):Int):=by rw [Int.tmod_eq_emod_of_nonneg (by omega)]; rfl
 have:=Nat.mod_lt m hk
 rw [e2,ofInt_nat,UInt64.toNat_ofNat_of_lt']
 show _ < 18446744073709551616; omega
theorem st24 (φ:Fi) (p:P4 E5) (n:W4) (s:List UInt8) (hs:s.length=32) (q q0:P4 E5) (j:Int) (m:Nat) (hm:m≤255):roundA (evC Tryd.prog (nh φ) Tryd.f14.ntmps (mask 14) 1000 2 b24) (headA Tryd.prog 1 (S24 p n s q0 j)) (S24 p n s q m)=some (S24 p n s (cond (bitK s m) (φ.add (φ.add q q) p) (φ.add q q)) ((m:Int) - 1)):=by
 have hw:IntKind.wrap .i64 ((m:Int) - 1)=(m:Int) - 1:=wrapI _ (by omega) (by omega)
 have hd:=bit_div m 8 (by omega) (by omega) (by omega)
 have hr:=bit_rem m 8 (by omega) (by omega) (by omega)
 have h1:decide ((0:Int)≤((m / 8:Nat):Int))=true:=by rw [decide_eq_true_iff]; omega
 have h2:decide (((m / 8:Nat):Int) < (s.length:Int))=true:=by rw [decide_eq_true_iff]; omega
 have h3:decide ((0:Int)≤(m:Int))=true:=by rw [decide_eq_true_iff]; omega
 rw [← hw]
 cases hK:bitK s m
 ·have hK2:(bitB s m == 1)=false:=hK
  refine roundO2_ok (nh_ps φ) (rd24f φ p n s q q0 m j) ?_ (ok24 _ _ _ _ _)
  rw [show ((8:Int))=((8:Nat):Int) from rfl,hd,hr,h1,h2,h3]
  show allT [!(bitB s m == 1),true && true,true]=true
  rw [hK2]; rfl
 ·have hK2:(bitB s m == 1)=true:=hK
  refine roundO2_ok (nh_ps φ) (rd24t φ p n s q q0 m j) ?_ (ok24 _ _ _ _ _)
  rw [show ((8:Int))=((8:Nat):Int) from rfl,hd,hr,h1,h2,h3]
  show allT [bitB s m == 1,true && true,true]=true
  rw [hK2]; rfl
theorem rmul (φ:Fi) (hb:∀ n,(φ.sby n).length=32) (p:P4 E5) (n:W4):(run1 Tryd.prog (nh φ) (mask 14) 1000 14 [pAv p,n.av] [] Tryd.prog.globals.size).map (·.1)=some (pAv (mulG φ.add φ.zero emptyE φ.none p (bitK (φ.sby n)))):=by
 rw [gl1]
 unfold mulG
 cases hn:φ.none p
 rotate_left
 ·exact ansO_run (nh_ps φ) (m24z φ p n) (by rw [hn]; rfl)
 refine run_loopO (nh_ps φ) (fn:=Tryd.f14) (c:=bodyOf Tryd.f14) (by kernel_rfl) (by kernel_rfl) (by kernel_rfl) 5 (id:=0) (b:=b24) (by kernel_rfl) (fun j=>S24 p n (φ.sby n) (iterG φ.add φ.zero p (bitK (φ.sby n)) j) (255 - (j:Int))) 256 (pre24 φ p n) ?_ (fun j hj => ?_) (end24 φ p n _ _ _) rfl (by omega)
 ·rw [hn,hb]; rfl
 ·have e1:(255:Int) - (j:Int)=((255 - j:Nat):Int):=by omega
  have e2:(255:Int) - ((j+1:Nat):Int)=((255 - j:Nat):Int) - 1:=by omega
  rw [e1,e2]
  exact st24 φ p n _ (hb n) _ _ _ (255 - j) (by omega)
theorem rsm (φ:Fi) (p:P4 E5):(run1 Tryd.prog (nh φ) (mask 21) 200 21 [pAv p] [] Tryd.prog.globals.size).map (·.1)=some (.bool (smallG φ.add φ.same φ.zero p)):=by kernel_rfl
def h54 (args:List AVal):Option EffA:=match args with
 | [.str s,.int .i64 (.ofNat c)]=>cond (Nat.ble c 1000 && Nat.ble s.length 1000) (some (.pure (.str (Go.Lib.repeatL s c)))) none
 | _=>none
theorem h54_ok:CSOk Tryd.prog (csOne 30 h54):=csOne_ok fun args e he=>by
 unfold h54 at he
 split at he
 ·rename_i s c
  cases hb:(Nat.ble c 1000 && Nat.ble s.length 1000) <;> rw [hb] at he
  ·cases he
  ·cases he
   simp only [Bool.and_eq_true] at hb
   exact repeat_ok s c (Nat.le_of_ble_eq_true hb.1) (Nat.le_of_ble_eq_true hb.2)
 ·cases he
def nhr (φ:Fi):CS:=csAlt (csOne 30 h54) (nh φ)
theorem nhr_ok:CSOk Tryd.prog (nhr realFi):=csAlt_ok h54_ok nh_ok
theorem rba (φ:Fi):(run1 Tryd.prog (nhr φ) (mask 13) 200 13 [] [] Tryd.prog.globals.size).map (·.1)=some (pAv (φ.dec baseL)):=by kernel_rfl
end Go.Proofs.YtcjkbimdmcfppaaDoor
namespace Go.Proofs.YtcjkbimdmcfppaaDoor
open Go Go.Eng Go.Num
def i21 (φ:Fi):List AVal→Option EffA
 | [a,b]=>match pOf a,wOf b with
  | some x0,some x1=>some (.pure (pAv (φ.mul x0 x1)))
  | _,_=>none
 | _=>none
theorem i21_ok:CSOk Tryd.prog (csOne 14 (i21 realFi)):=csOne_ok fun args e he=>by
 unfold i21 at he
 split at he
 ·split at he
  ·rename_i x0 x1 h0 h1
   cases he
   rw [pOf_eq h0,wOf_eq h1]
   exact (by rw [mul_eq]; exact callOk_val nh_ok hmix (rmul realFi sby_len x0 x1) rfl rfl)
  ·cases he
 ·cases he
def i16 (φ:Fi):List AVal→Option (EffA × Bool)
 | [a,b]=>match qOf a,nOf b with
  | some x0,some x1=>some (.pure (qAv (φ.mulQ x0 x1)),φ.okQ x0)
  | _,_=>none
 | _=>none
theorem i16_ok:CSOk Tryd.prog (csP (psNo (i16 realFi))):=psNo_ok _
def i32 (φ:Fi):List AVal→Option EffA
 | [a]=>match pOf a with
  | some x0=>some (.pure (.bool (φ.small x0)))
  | _=>none
 | _=>none
theorem i32_ok:CSOk Tryd.prog (csOne 21 (i32 realFi)):=csOne_ok fun args e he=>by
 unfold i32 at he
 split at he
 ·split at he
  ·rename_i x0 h0
   cases he
   rw [pOf_eq h0]
   exact (by rw [small_eq]; exact callOk_val nh_ok hmix (rsm realFi x0) rfl rfl)
  ·cases he
 ·cases he
def i38 (φ:Fi):List AVal→Option (EffA × Bool)
 | [a]=>match qOf a with
  | some x0=>some (.pure (.bool (φ.smallQ x0)),φ.okQ x0)
  | _=>none
 | _=>none
theorem i38_ok:CSOk Tryd.prog (csP (psNo (i38 realFi))):=psNo_ok _
def i20 (φ:Fi):List AVal→Option EffA
 | []=>some (.pure (pAv φ.base))
 | _=>none
theorem i20_ok:CSOk Tryd.prog (csOne 13 (i20 realFi)):=csOne_ok fun args e he=>by
 unfold i20 at he
 split at he
 ·cases he
  exact (by rw [base_eq]; exact callOk_val nhr_ok hmix (rba realFi) rfl rfl)
 ·cases he
def i15 (φ:Fi):List AVal→Option EffA
 | []=>some (.pure (qAv φ.baseQ))
 | _=>none
theorem i15_ok:CSOk Tryd.prog (csNo (i15 realFi)):=csNo_ok _
def i33 (φ:Fi):List AVal→Option EffA
 | [a]=>match sOf a with
  | some x0=>some (.pure (.tup [W4.av (φ.sof x0),.int .i64 (φ.sofR x0)]))
  | _=>none
 | _=>none
theorem i33_ok:CSOk Tryd.prog (csOne 22 (i33 realFi)):=csOne_ok fun args e he=>by
 unfold i33 at he
 split at he
 ·split at he
  ·rename_i x0 h0
   cases he
   rw [sOf_eq h0]
   exact callOk_val cs3i_ok hmix (run33 x0) rfl rfl
  ·cases he
 ·cases he
def i23 (φ:Fi):List AVal→Option EffA
 | [a,b]=>match wOf a,wOf b with
  | some x0,some x1=>some (.pure (W4.av (φ.sadd x0 x1)))
  | _,_=>none
 | _=>none
theorem i23_ok:CSOk Tryd.prog (csOne 16 (i23 realFi)):=csOne_ok fun args e he=>by
 unfold i23 at he
 split at he
 ·split at he
  ·rename_i x0 x1 h0 h1
   cases he
   rw [wOf_eq h0,wOf_eq h1]
   exact callOk_val cs2_ok hmix (run23 x0 x1) rfl rfl
  ·cases he
 ·cases he
def i24 (φ:Fi):List AVal→Option EffA
 | [a,b]=>match wOf a,wOf b with
  | some x0,some x1=>some (.pure (W4.av (φ.smul x0 x1)))
  | _,_=>none
 | _=>none
theorem i24_ok:CSOk Tryd.prog (csOne 17 (i24 realFi)):=csOne_ok fun args e he=>by
 unfold i24 at he
 split at he
 ·split at he
  ·rename_i x0 x1 h0 h1
   cases he
   rw [wOf_eq h0,wOf_eq h1]
   exact callOk_val cs5i_ok hmix (run24 x0 x1) rfl rfl
  ·cases he
 ·cases he
def i17 (φ:Fi):List AVal→Option (EffA × Bool)
 | [a]=>match sOf a with
  | some x0=>some (.pure (N16.av (φ.nof x0)),Nat.ble x0.length 100000)
  | _=>none
 | _=>none
theorem i17_ok:CSOk Tryd.prog (csP (psNo (i17 realFi))):=psNo_ok _
def psnj (φ:Fi):PS:=(psAlt (psNo (i16 φ)) (psAlt (psNo (i38 φ)) (psAlt (psNo (i17 φ)) (psnh φ))))
theorem psnj_ok:CSOk Tryd.prog (csP (psnj realFi)):=(csP_alt i16_ok (csP_alt i38_ok (csP_alt i17_ok psnh_ok)))
def chnj (φ:Fi):CS:=(csAlt (csOne 14 (i21 φ)) (csAlt (csOne 21 (i32 φ)) (csAlt (csOne 13 (i20 φ)) (csAlt (csNo (i15 φ)) (csAlt (csOne 22 (i33 φ)) (csAlt (csOne 16 (i23 φ)) (csAlt (csOne 17 (i24 φ)) (chnh φ))))))))
theorem chnj_ok:CSOk Tryd.prog (chnj realFi):=(csAlt_ok i21_ok (csAlt_ok i32_ok (csAlt_ok i20_ok (csAlt_ok i15_ok (csAlt_ok i33_ok (csAlt_ok i23_ok (csAlt_ok i24_ok chnh_ok)))))))
end Go.Proofs.YtcjkbimdmcfppaaDoor
namespace Go.Eng
open Go
def cellsU (n:Nat) (f:Nat→UInt64):List AVal:=(List.range n).map fun j=>.u64 (f j)
def cellsB (n:Nat) (f:Nat→UInt8):List AVal:=(List.range n).map fun j=>.u8 (f j)
def updF {α:Type}(w:Nat→α) (k:Nat) (v:α):Nat→α:=fun j=>if j=k then v else w j
theorem cellsU_len {n:Nat}{f:Nat→UInt64}:(cellsU n f).length=n:=by simp [cellsU]
theorem cellsB_len {n:Nat}{f:Nat→UInt8}:(cellsB n f).length=n:=by simp [cellsB]
theorem cellsU_at {n i:Nat}(f:Nat→UInt64) (h:i < n):(cellsU n f)[i]? = some (.u64 (f i)):=by simp [cellsU,h]
theorem cellsB_at {n i:Nat}(f:Nat→UInt8) (h:i < n):(cellsB n f)[i]? = some (.u8 (f i)):=by simp [cellsB,h]
theorem off_nat (i:Nat):0+((i:Int).toNat * 1)=i:=by simp
theorem eqS_u64 (x:UInt64):eqS (.u64 x) (.u64 x)=true:=by simp [eqS]
theorem eqS_u8 (x:UInt8):eqS (.u8 x) (.u8 x)=true:=by simp [eqS]
theorem eqS_int (k:IntKind) (x:Int):eqS (.int k x) (.int k x)=true:=by simp [eqS]
theorem eqS_i64 {x y:Int}(h:IntKind.wrap .i64 x=y):eqS (.int .i64 (IntKind.wrap .i64 x)) (.int .i64 y)=true:=by rw [h]; exact eqS_int ..
theorem isAt_get {c:List AVal}{i:Nat}{x:UInt64}(h:c[i]? = some (.u64 x)):isAt c (0+((i:Int).toNat * 1)) (.u64 x)=true:=by
 rw [off_nat]; exact isAt_of h (eqS_u64 x)
theorem isAt_cellsU {n i:Nat}(f:Nat→UInt64) (h:i < n):isAt (cellsU n f) (0+((i:Int).toNat * 1)) (.u64 (f i))=true:=isAt_get (cellsU_at f h)
theorem set_cellsU {n i:Nat}(f:Nat→UInt64) (v:UInt64) (h:i < n):(cellsU n f).set i (.u64 v)=cellsU n (updF f i v):=by
 apply List.ext_getElem?
 intro j
 by_cases hj:j < n
 ·rw [cellsU_at _ hj]
  by_cases e:i=j
  ·subst e
   rw [List.getElem?_set_self (by rw [cellsU_len]; exact h)]
   simp [updF]
  ·rw [List.getElem?_set_ne e,cellsU_at _ hj]
   simp [updF,Ne.symm e]
 ·rw [List.getElem?_eq_none (by rw [List.length_set,cellsU_len]; omega),List.getElem?_eq_none (by rw [cellsU_len]; omega)]
theorem set_cellsB {n i:Nat}(f:Nat→UInt8) (v:UInt8) (h:i < n):(cellsB n f).set i (.u8 v)=cellsB n (updF f i v):=by
 apply List.ext_getElem?
 intro j
 by_cases hj:j < n
 ·rw [cellsB_at _ hj]
  by_cases e:i=j
  ·subst e
   rw [List.getElem?_set_self (by rw [cellsB_len]; exact h)]
   simp [updF]
  ·rw [List.getElem?_set_ne e,cellsB_at _ hj]
   simp [updF,Ne.symm e]
 ·rw [List.getElem?_eq_none (by rw [List.length_set,cellsB_len]; omega),List.getElem?_eq_none (by rw [cellsB_len]; omega)]
theorem putA_set {c:List AVal}{i:Nat}(v:AVal) (hv:cellsA v=[v]) (h:i < c.length):putA c i (cellsA v)=c.set i v:=by
 unfold putA
 rw [hv,List.set_eq_take_append_cons_drop,if_pos h]
 simp
theorem putA_cellsU {n i:Nat}(f:Nat→UInt64) (v:UInt64) (h:i < n):putA (cellsU n f) (0+((i:Int).toNat * 1)) (cellsA (.u64 v))=cellsU n (updF f i v):=by
 rw [off_nat,putA_set _ rfl (by rw [cellsU_len]; exact h),set_cellsU f v h]
theorem getD_cellsB {n i:Nat}(f:Nat→UInt8) (h:i < n):(cellsB n f).getD i (.bool false)=.u8 (f i):=by
 rw [List.getD_eq_getElem?_getD,cellsB_at f h]; rfl
theorem getD_cellsU {n i:Nat}(f:Nat→UInt64) (h:i < n):(cellsU n f).getD i (.bool false)=.u64 (f i):=by
 rw [List.getD_eq_getElem?_getD,cellsU_at f h]; rfl
theorem cellsU_congr {n:Nat}{f g:Nat→UInt64}(h:∀ i,i < n→f i=g i):cellsU n f=cellsU n g:=by
 unfold cellsU
 exact List.map_congr_left fun i hi=>by rw [h i (List.mem_range.1 hi)]
theorem cellsB_congr {n:Nat}{f g:Nat→UInt8}(h:∀ i,i < n→f i=g i):cellsB n f=cellsB n g:=by
 unfold cellsB
 exact List.map_congr_left fun i hi=>by rw [h i (List.mem_range.1 hi)]
theorem run1_fin {P:Program}{cs:CS}{nn F:Nat}{f:FuncId}{fn:Func}{c:Code}{args:List AVal}{H:HL}{fr:Nat}(hf:P.funcs[f]? = some fn) (hb:fn.body=some c) (hn:Nat.ble args.length fn.ntmps=true)
  {x:XA} {s:SA} (he:evS P cs fn.ntmps nn F fr (pieces c) ⟨startT args 0,H,fr⟩=some (x,s)) (hx:x=.normal ∨ x=.ret) {vs:List AVal} (hr:resA P s.T s.H fn.results.toList=some vs) (h1:vs.length ≠ 1):run1 P cs nn F f args H fr=some (.tup vs,s.H,s.fr):=by
 unfold run1
 simp only [hf,hb]
 unfold runF
 rw [hn,evC_pieces,he]
 rcases hx with rfl | rfl
 all_goals
  simp only [cond_true,hr]
  match vs,h1 with
  | [],_=>rfl
  | [_],h=>exact absurd rfl h
  | _::_::_,_=>rfl
end Go.Eng
namespace Go.Proofs.YtcjkbimdmcfppaaDoor.Sha
open Go Go.Eng
set_option maxRecDepth 1000000
def roundsL:List UInt64:=[4794697086780616226,8158064640168781261,13096744586834688815,16840607885511220156,4131703408338449720,6480981068601479193,10538285296894168987,12329834152419229976,15566598209576043074,1334009975649890238,2608012711638119052,6128411473006802146,8268148722764581231,9286055187155687089,11230858885718282805,13951009754708518548,16472876342353939154,17275323862435702243,1135362057144423861,2597628984639134821,3308224258029322869,5365058923640841347,6679025012923562964,8573033837759648693,10970295158949994411,12119686244451234320,12683024718118986047,13788192230050041572,14330467153632333762,15395433587784984357,489312712824947311,1452737877330783856,2861767655752347644,3322285676063803686,5560940570517711597,5996557281743188959,7280758554555802590,8532644243296465576,9350256976987008742,10552545826968843579,11727347734174303076,12113106623233404929,14000437183269869457,14369950271660146224,15101387698204529176,15463397548674623760,17586052441742319658,1182934255886127544,1847814050463011016,2177327727835720531,2830643537854262169,3796741975233480872,4115178125766777443,5681478168544905931,6601373596472566643,7507060721942968483,8399075790359081724,8693463985226723168,9568029438360202098,10144078919501101548,10430055236837252648,11840083180663258601,13761210420658862357,14299343276471374635,14566680578165727644,15097957966210449927,16922976911328602910,17689382322260857208,500013540394364858,748580250866718886,1242879168328830382,1977374033974150939,2944078676154940804,3659926193048069267,4368137639120453308,4836135668995329356,5532061633213252278,6448918945643986474,6902733635092675308,7801388544844847127]
def beginL:List UInt64:=[7640891576956012808,13503953896175478587,4354685564936845355,11912009170470909681,5840696475078001361,11170449401992604703,2270897969802886507,6620516959819538809]
structure Fr where
 rot:UInt64→Int→UInt64
 rotd:UInt64→UInt64→UInt64
def k23 (φ:Fr):List AVal→Option EffA
 | [.u64 x,.int .i64 n]=>some (.pure (.u64 (φ.rot x n)))
 | _=>none
def k19 (φ:Fr):List AVal→Option EffA
 | [.u64 x,.u64 n]=>some (.pure (.u64 (φ.rotd x n)))
 | _=>none
def nr (φ:Fr):CS:=csAlt (csOne 75 (k23 φ)) (csNo (k19 φ))
def hashC (h:Nat→UInt64) (b:Nat→UInt8) (n:UInt64):List AVal:=cellsU 8 h++cellsB 128 b++[.u64 n,.bool true]
noncomputable def p22:List Code:=pieces (bodyOf Tryd.f69)
end Go.Proofs.YtcjkbimdmcfppaaDoor.Sha
namespace Go.Proofs.YtcjkbimdmcfppaaDoor.Sha
open Go Go.Eng
set_option maxRecDepth 1000000
def H3 (g h:Nat→UInt64) (b:Nat→UInt8) (n:UInt64) (w:Nat→UInt64):HL:=[(0,.cells true (cellsU 80 g)),(2,.cells false (hashC h b n)),(3,.cells false (cellsU 80 w))]
def S1 (g h:Nat→UInt64) (b:Nat→UInt8) (n:UInt64) (w:Nat→UInt64) (i:Nat):SA:=⟨[(0,.ptr 2 0),(2,.ptr 3 0),(19,.agg (cellsB 128 b)),(20,.int .i64 (i:Int))],H3 g h b n w,51⟩
end Go.Proofs.YtcjkbimdmcfppaaDoor.Sha
namespace Go.Eng
open Go
def Fw (ro:Option Nat):Fence:={ Fence.wide with round:=ro }
section
variable {P:Program}{cs:CS}{nt:Nat}{ro:Option Nat}{n:Nat}{D:List Deferred}{pin:List (Tmp × Value)}
end
end Go.Eng
namespace Go.Proofs.YtcjkbimdmcfppaaDoor.Sha
open Go Go.Eng
set_option maxRecDepth 1000000
def shlW (x:UInt64) (c:UInt8):UInt64:=shl_u64 x 8 ||| c.toUInt64
def sched (φ:Fr) (w0 w1 w9 w14:UInt64):UInt64:=((w0+w9)+((φ.rot w1 1 ^^^ φ.rot w1 8) ^^^ shr_u64 w1 7))+((φ.rot w14 19 ^^^ φ.rot w14 61) ^^^ shr_u64 w14 6)
def rndT (φ:Fr) (g w:UInt64) (x:Nat→UInt64):UInt64:=(((x 7+((φ.rot (x 4) 14 ^^^ φ.rot (x 4) 18) ^^^ φ.rot (x 4) 41))+((x 4 &&& x 5) ^^^ (~~~(x 4) &&& x 6)))+g)+w
def rndL (φ:Fr) (g w:UInt64) (x:Nat→UInt64):List UInt64:=[(rndT φ g w x+((φ.rot (x 0) 28 ^^^ φ.rot (x 0) 34) ^^^ φ.rot (x 0) 39))+(((x 0 &&& x 1) ^^^ (x 0 &&& x 2)) ^^^ (x 1 &&& x 2)),x 0,x 1,x 2,x 3+rndT φ g w x,x 4,x 5,x 6]
def rnd (φ:Fr) (g w:UInt64) (x:Nat→UInt64):Nat→UInt64:=fun j=>(rndL φ g w x).getD j 0
def W1 (b:Nat→UInt8):Nat→Nat→UInt64
 | 0=>fun _=>0
 | i+1=>updF (W1 b i) (i / 8) (shlW (W1 b i (i / 8)) (b i))
def W2 (φ:Fr) (w:Nat→UInt64):Nat→Nat→UInt64
 | 0=>w
 | i+1=>updF (W2 φ w i) (i+16) (sched φ (W2 φ w i i) (W2 φ w i (i+1)) (W2 φ w i (i+9)) (W2 φ w i (i+14)))
def X3 (φ:Fr) (g w h:Nat→UInt64):Nat→Nat→UInt64
 | 0=>h
 | i+1=>rnd φ (g i) (w i) (X3 φ g w h i)
def A4 (h x:Nat→UInt64):Nat→Nat→UInt64
 | 0=>h
 | i+1=>updF (A4 h x i) i (A4 h x i i+x i)
def takeF (φ:Fr) (g h:Nat→UInt64) (b:Nat→UInt8):Nat→UInt64:=A4 h (X3 φ g (W2 φ (W1 b 128) 64) h 80) 8
def T1 (b:Nat→UInt8) (i:Nat):TL:=[(0,.ptr 2 0),(2,.ptr 3 0),(19,.agg (cellsB 128 b)),(20,.int .i64 (i:Int))]
def T2 (b:Nat→UInt8) (j:Nat):TL:=T1 b 128++[(21,.bool false),(5,.fn 75 []),(6,.int .i64 (j:Int))]
def S2 (g h:Nat→UInt64) (b:Nat→UInt8) (n:UInt64) (w:Nat→UInt64) (i:Nat):SA:=⟨T2 b i,H3 g h b n w,75⟩
def H4 (g h:Nat→UInt64) (b:Nat→UInt8) (n:UInt64) (w x:Nat→UInt64):HL:=[(0,.cells true (cellsU 80 g)),(2,.cells false (hashC h b n)),(3,.cells false (cellsU 80 w)),(123,.cells false (cellsU 8 x))]
def T3 (b:Nat→UInt8) (j:Nat):TL:=T2 b 80++[(37,.bool false),(9,.ptr 123 0),(85,.int .i64 (j:Int))]
def S3 (g h:Nat→UInt64) (b:Nat→UInt8) (n:UInt64) (w x:Nat→UInt64) (i:Nat):SA:=⟨T3 b i,H4 g h b n w x,147⟩
def T4 (b:Nat→UInt8) (x:Nat→UInt64) (j:Nat):TL:=T3 b 80++[(86,.bool false),(164,.agg (cellsU 8 x)),(165,.int .i64 (j:Int))]
def S4 (g h:Nat→UInt64) (b:Nat→UInt8) (n:UInt64) (w x:Nat→UInt64) (i:Nat):SA:=⟨T4 b x i,H4 g h b n w x,171⟩
noncomputable def b1:Code:=loopOf (p22.getD 2 .skip)
noncomputable def b2:Code:=loopOf (p22.getD 5 .skip)
noncomputable def b3:Code:=loopOf (p22.getD 8 .skip)
noncomputable def b4:Code:=loopOf (p22.getD 10 .skip)
theorem p22_2:p22[2]? = some (.block 0 (.loop b1)):=by kernel_rfl
theorem p22_5:p22[5]? = some (.block 2 (.loop b2)):=by kernel_rfl
theorem p22_8:p22[8]? = some (.block 4 (.loop b3)):=by kernel_rfl
theorem p22_10:p22[10]? = some (.block 6 (.loop b4)):=by kernel_rfl
theorem p22_11:p22.drop 11=[]:=by kernel_rfl
theorem s22a (φ:Fr) (g h:Nat→UInt64) (b:Nat→UInt8) (n:UInt64) (F:Nat):segO (evSO Tryd.prog noPS (nr φ) [] Tryd.f69.ntmps (mask 69) F 3 ((p22.drop 0).take 2) ⟨startT [.ptr 2 0] 0,[(0,.cells true (cellsU 80 g)),(2,.cells false (hashC h b n))],3⟩ ⟨[],[],[]⟩)=some (S1 g h b n (fun _=>0) 0,[]):=by kernel_rfl
theorem x22a (φ:Fr) (g h w:Nat→UInt64) (b:Nat→UInt8) (n:UInt64) (i F:Nat):evSO Tryd.prog noPS (nr φ) [21] Tryd.f69.ntmps (mask 69) F 3 [b1] (S1 g h b n w i) ⟨[false],[],[]⟩=some (.exit 0,⟨T1 b i++[(21,.bool false)],H3 g h b n w,59⟩,⟨[],[],[!(decide ((i:Int) < 128))]⟩):=by kernel_rfl
theorem s22b (φ:Fr) (g h w:Nat→UInt64) (b:Nat→UInt8) (n:UInt64) (F:Nat):segO (evSO Tryd.prog noPS (nr φ) [] Tryd.f69.ntmps (mask 69) F 3 ((p22.drop 3).take 2) ⟨T1 b 128++[(21,.bool false)],H3 g h b n w,59⟩ ⟨[],[],[]⟩)=some (S2 g h b n w 16,[]):=by kernel_rfl
theorem x22b (φ:Fr) (g h w:Nat→UInt64) (b:Nat→UInt8) (n:UInt64) (i F:Nat):evSO Tryd.prog noPS (nr φ) [37] Tryd.f69.ntmps (mask 69) F 3 [b2] (S2 g h b n w i) ⟨[false],[],[]⟩=some (.exit 2,⟨T2 b i++[(37,.bool false)],H3 g h b n w,91⟩,⟨[],[],[!(decide ((i:Int) < 80))]⟩):=by kernel_rfl
theorem s22c (φ:Fr) (g h w:Nat→UInt64) (b:Nat→UInt8) (n:UInt64) (F:Nat):segO (evSO Tryd.prog noPS (nr φ) [] Tryd.f69.ntmps (mask 69) F 3 ((p22.drop 6).take 2) ⟨T2 b 80++[(37,.bool false)],H3 g h b n w,91⟩ ⟨[],[],[]⟩)=some (S3 g h b n w h 0,[]):=by kernel_rfl
theorem x22c (φ:Fr) (g h w x:Nat→UInt64) (b:Nat→UInt8) (n:UInt64) (i F:Nat):evSO Tryd.prog noPS (nr φ) [86] Tryd.f69.ntmps (mask 69) F 3 [b3] (S3 g h b n w x i) ⟨[false],[],[]⟩=some (.exit 4,⟨T3 b i++[(86,.bool false)],H4 g h b n w x,155⟩,⟨[],[],[!(decide ((i:Int) < 80))]⟩):=by kernel_rfl
theorem s22d (φ:Fr) (g h w x:Nat→UInt64) (b:Nat→UInt8) (n:UInt64) (F:Nat):segO (evSO Tryd.prog noPS (nr φ) [] Tryd.f69.ntmps (mask 69) F 3 ((p22.drop 9).take 1) ⟨T3 b 80++[(86,.bool false)],H4 g h b n w x,155⟩ ⟨[],[],[]⟩)=some (S4 g h b n w x 0,[]):=by kernel_rfl
theorem x22d (φ:Fr) (g h w x:Nat→UInt64) (b:Nat→UInt8) (n:UInt64) (i F:Nat):evSO Tryd.prog noPS (nr φ) [166] Tryd.f69.ntmps (mask 69) F 3 [b4] (S4 g h b n w x i) ⟨[false],[],[]⟩=some (.exit 6,⟨T4 b x i++[(166,.bool false)],H4 g h b n w x,179⟩,⟨[],[],[!(decide ((i:Int) < 8))]⟩):=by kernel_rfl
theorem r22a (φ:Fr) (g h w w0:Nat→UInt64) (b:Nat→UInt8) (n:UInt64) (i k y F:Nat):roundO2 Tryd.prog noPS (nr φ) [21,23,200004,200025,200027,28,29,34,100034,200035] [true] [.u8 (b i),.int .i64 (k:Int),.int .i64 (k:Int),.u64 (w k),.int .i64 (y:Int)] Tryd.f69.ntmps (mask 69) F 3 b1 (S1 g h b n w0 0) (S1 g h b n w i) =
    some (⟨T1 b y,[(0,.cells true (cellsU 80 g)),(2,.cells false (hashC h b n)),(3,.cells false (putA (cellsU 80 w) (0+(k:Int).toNat * 1) (cellsA (.u64 (shlW (w k) (b i))))))],51⟩,
      [eqS (.int .i64 (IntKind.wrap .i64 ((i:Int)+1))) (.int .i64 (y:Int)),Nat.ble (0+(k:Int).toNat * 1+1) (cellsU 80 w).length,decide (0≤(k:Int)) && decide ((k:Int) < 80),isAt (cellsU 80 w) (0+(k:Int).toNat * 1) (.u64 (w k)),decide (0≤(k:Int)) && decide ((k:Int) < 80),eqS (.int .i64 (IntKind.wrap .i64 (Int.tdiv (i:Int) 8))) (.int .i64 (k:Int)),eqS (.int .i64 (IntKind.wrap .i64 (Int.tdiv (i:Int) 8))) (.int .i64 (k:Int)),
       eqS (likeA ((cellsB 128 b).getD 0 (.bool false)) ((cellsB 128 b).getD ((i:Int).toNat * 1) (.bool false))) (.u8 (b i)),decide (0≤(i:Int)) && (decide ((i:Int) < 128) && (Nat.blt ((i:Int).toNat * 1) (cellsB 128 b).length && eqS (likeA ((cellsB 128 b).getD 0 (.bool false)) ((cellsB 128 b).getD ((i:Int).toNat * 1) (.bool false))) ((cellsB 128 b).getD ((i:Int).toNat * 1) (.bool false)))),decide ((i:Int) < 128)]):=by kernel_rfl
theorem r22b (φ:Fr) (g h w w0:Nat→UInt64) (b:Nat→UInt8) (n:UInt64) (j0 i p q r s y F:Nat):roundO2 Tryd.prog noPS (nr φ) [37,200041,42,43,200045,46,47,200050,51,52,200054,55,56,80,100080,200039] [true] [.int .i64 (p:Int),.u64 (w p),.int .i64 (q:Int),.u64 (w q),.int .i64 (r:Int),.u64 (w r),.int .i64 (s:Int),.u64 (w s),.int .i64 (y:Int)] Tryd.f69.ntmps (mask 69) F 3 b2 (S2 g h b n w0 j0) (S2 g h b n w i) =
    some (⟨T2 b y,[(0,.cells true (cellsU 80 g)),(2,.cells false (hashC h b n)),(3,.cells false (putA (cellsU 80 w) (0+(i:Int).toNat * 1) (cellsA (.u64 (sched φ (w r) (w p) (w s) (w q))))))],75⟩,
      [eqS (.int .i64 (IntKind.wrap .i64 ((i:Int)+1))) (.int .i64 (y:Int)),Nat.ble (0+(i:Int).toNat * 1+1) (cellsU 80 w).length,decide (0≤(i:Int)) && decide ((i:Int) < 80),
       isAt (cellsU 80 w) (0+(s:Int).toNat * 1) (.u64 (w s)),decide (0≤(s:Int)) && decide ((s:Int) < 80),eqS (.int .i64 (IntKind.wrap .i64 ((i:Int) - 7))) (.int .i64 (s:Int)),
       isAt (cellsU 80 w) (0+(r:Int).toNat * 1) (.u64 (w r)),decide (0≤(r:Int)) && decide ((r:Int) < 80),eqS (.int .i64 (IntKind.wrap .i64 ((i:Int) - 16))) (.int .i64 (r:Int)),
       isAt (cellsU 80 w) (0+(q:Int).toNat * 1) (.u64 (w q)),decide (0≤(q:Int)) && decide ((q:Int) < 80),eqS (.int .i64 (IntKind.wrap .i64 ((i:Int) - 2))) (.int .i64 (q:Int)),
       isAt (cellsU 80 w) (0+(p:Int).toNat * 1) (.u64 (w p)),decide (0≤(p:Int)) && decide ((p:Int) < 80),eqS (.int .i64 (IntKind.wrap .i64 ((i:Int) - 15))) (.int .i64 (p:Int)),decide ((i:Int) < 80)]):=by kernel_rfl
theorem r22c (φ:Fr) (g h w x x0:Nat→UInt64) (b:Nat→UInt8) (n:UInt64) (i y F:Nat):roundO2 Tryd.prog noPS (nr φ) [86,118,119,122,123,200163] [true] [.u64 (g i),.u64 (w i),.int .i64 (y:Int)] Tryd.f69.ntmps (mask 69) F 3 b3 (S3 g h b n w x0 0) (S3 g h b n w x i) =
  some (S3 g h b n w (rnd φ (g i) (w i) x) y,
   [eqS (.int .i64 (IntKind.wrap .i64 ((i:Int)+1))) (.int .i64 (y:Int)),isAt (cellsU 80 w) (0+(i:Int).toNat * 1) (.u64 (w i)),decide (0≤(i:Int)) && decide ((i:Int) < 80),isAt (cellsU 80 g) (0+(i:Int).toNat * 1) (.u64 (g i)),decide (0≤(i:Int)) && decide ((i:Int) < 80),decide ((i:Int) < 80)]):=by kernel_rfl
theorem r22d (φ:Fr) (g h h0 w x:Nat→UInt64) (b:Nat→UInt8) (n:UInt64) (i y F:Nat):roundO2 Tryd.prog noPS (nr φ) [166,168,200015,173,174,179,100179,200180] [true] [.u64 (x i),.u64 (h i),.int .i64 (y:Int)] Tryd.f69.ntmps (mask 69) F 3 b4 (S4 g h0 b n w x 0) (S4 g h b n w x i) =
    some (⟨T4 b x y,[(0,.cells true (cellsU 80 g)),(2,.cells false (putA (hashC h b n) (0+(i:Int).toNat * 1) (cellsA (.u64 (h i+x i))))),(3,.cells false (cellsU 80 w)),(123,.cells false (cellsU 8 x))],171⟩,
      [eqS (.int .i64 (IntKind.wrap .i64 ((i:Int)+1))) (.int .i64 (y:Int)),Nat.ble (0+(i:Int).toNat * 1+1) (hashC h b n).length,decide (0≤(i:Int)) && decide ((i:Int) < 8),isAt (hashC h b n) (0+(i:Int).toNat * 1) (.u64 (h i)),decide (0≤(i:Int)) && decide ((i:Int) < 8),
       eqS (likeA ((cellsU 8 x).getD 0 (.bool false)) ((cellsU 8 x).getD ((i:Int).toNat * 1) (.bool false))) (.u64 (x i)),decide (0≤(i:Int)) && (decide ((i:Int) < 8) && (Nat.blt ((i:Int).toNat * 1) (cellsU 8 x).length && eqS (likeA ((cellsU 8 x).getD 0 (.bool false)) ((cellsU 8 x).getD ((i:Int).toNat * 1) (.bool false))) ((cellsU 8 x).getD ((i:Int).toNat * 1) (.bool false)))),decide ((i:Int) < 8)]):=by kernel_rfl
end Go.Proofs.YtcjkbimdmcfppaaDoor.Sha
namespace Go.Proofs.YtcjkbimdmcfppaaDoor.Sha
open Go Go.Eng
set_option maxRecDepth 1000000
theorem hashC_len {h:Nat→UInt64}{b:Nat→UInt8}{n:UInt64}:(hashC h b n).length=138:=by simp [hashC,cellsU_len,cellsB_len]
theorem hashC_h {h:Nat→UInt64}{b:Nat→UInt8}{n:UInt64}{i:Nat}(hi:i < 8):(hashC h b n)[i]? = some (.u64 (h i)):=by
 unfold hashC
 rw [List.append_assoc,List.getElem?_append_left (by rw [cellsU_len]; exact hi),cellsU_at h hi]
theorem hashC_set {h:Nat→UInt64}{b:Nat→UInt8}{n v:UInt64}{i:Nat}(hi:i < 8):(hashC h b n).set i (.u64 v)=hashC (updF h i v) b n:=by
 unfold hashC
 rw [List.append_assoc,List.set_append_left _ _ (by rw [cellsU_len]; exact hi),set_cellsU h v hi,← List.append_assoc]
theorem in_rng {i n:Nat}{k:Int}(h:i < n) (e:(n:Int)=k:=by rfl):(decide (0≤(i:Int)) && decide ((i:Int) < k))=true:=by subst e; simp; omega
theorem plus1 {i:Nat}(h:i < 1000):eqS (.int .i64 (IntKind.wrap .i64 ((i:Int)+1))) (.int .i64 ((i+1:Nat):Int))=true:=eqS_i64 (by rw [wrapI _ (by omega) (by omega)]; omega)
theorem minus {i k d:Nat}(h:i=k+d) (hi:i < 1000):eqS (.int .i64 (IntKind.wrap .i64 ((i:Int) - (d:Int)))) (.int .i64 (k:Int))=true:=eqS_i64 (by rw [wrapI _ (by omega) (by omega)]; omega)
theorem quo8 {i:Nat}(h:i < 1000):eqS (.int .i64 (IntKind.wrap .i64 (Int.tdiv (i:Int) 8))) (.int .i64 ((i / 8:Nat):Int))=true:=eqS_i64 (by
 have:Int.tdiv (i:Int) 8=((i / 8:Nat):Int):=rfl
 rw [this,wrapI _ (by omega) (by omega)])
theorem like_b {n i:Nat}{b:Nat→UInt8}(h:i < n):likeA ((cellsB n b).getD 0 (.bool false)) ((cellsB n b).getD ((i:Int).toNat * 1) (.bool false))=.u8 (b i):=by
 have e:(i:Int).toNat * 1=i:=by simp
 rw [e,getD_cellsB b h,getD_cellsB b (by omega:0 < n)]; rfl
theorem like_u {n i:Nat}{x:Nat→UInt64}(h:i < n):likeA ((cellsU n x).getD 0 (.bool false)) ((cellsU n x).getD ((i:Int).toNat * 1) (.bool false))=.u64 (x i):=by
 have e:(i:Int).toNat * 1=i:=by simp
 rw [e,getD_cellsU x h,getD_cellsU x (by omega:0 < n)]; rfl
theorem blt_i {i k:Nat}(h:i < k):Nat.blt ((i:Int).toNat * 1) k=true:=by simp [h]
theorem ble_i {i k:Nat}(h:i < k):Nat.ble (0+(i:Int).toNat * 1+1) k=true:=by simp; omega
theorem lt_i {i n:Nat}{k:Int}(h:i < n) (e:(n:Int)=k:=by rfl):decide ((i:Int) < k)=true:=by subst e; simp; omega
theorem gl:Tryd.prog.globals.size=2:=by kernel_rfl
theorem ltL_U (n k:Nat) (f:Nat→UInt64):ltL k (cellsU n f)=true:=by
 have:cellsU n f=((List.range n).map f).map .u64:=by simp [cellsU]
 rw [this]; exact ltL_u64 ..
theorem ltL_B (n k:Nat) (f:Nat→UInt8):ltL k (cellsB n f)=true:=by
 have:cellsB n f=((List.range n).map f).map .u8:=by simp [cellsB]
 rw [this]; exact ltL_u8 ..
theorem ok1 (g h w:Nat→UInt64) (b:Nat→UInt8) (n:UInt64) (i:Nat):okS Tryd.prog (S1 g h b n w i)=true:=by kernel_rfl
theorem ok2 (g h w:Nat→UInt64) (b:Nat→UInt8) (n:UInt64) (i:Nat):okS Tryd.prog (S2 g h b n w i)=true:=by kernel_rfl
theorem ok3 (g h w x:Nat→UInt64) (b:Nat→UInt8) (n:UInt64) (i:Nat):okS Tryd.prog (S3 g h b n w x i)=true:=by kernel_rfl
theorem ok4 (g h w x:Nat→UInt64) (b:Nat→UInt8) (n:UInt64) (i:Nat):okS Tryd.prog (S4 g h b n w x i)=true:=by kernel_rfl
theorem st1 (φ:Fr) (g h:Nat→UInt64) (b:Nat→UInt8) (n:UInt64) (F i:Nat) (hi:i < 128):roundA (evC Tryd.prog (nr φ) Tryd.f69.ntmps (mask 69) F 3 b1) (headA Tryd.prog 2 (S1 g h b n (W1 b 0) 0)) (S1 g h b n (W1 b i) i)=some (S1 g h b n (W1 b (i+1)) (i+1)):=by
 have hk:i / 8 < 80:=by omega
 have e:putA (cellsU 80 (W1 b i)) (0+((i / 8:Nat):Int).toNat * 1) (cellsA (.u64 (shlW (W1 b i (i / 8)) (b i))))=cellsU 80 (W1 b (i+1)):=putA_cellsU _ _ hk
 have r:=r22a φ g h (W1 b i) (W1 b 0) b n i (i / 8) (i+1) F
 rw [e] at r
 refine roundO2_ok (noPS_ok _) r ?_ (ok1 g h (W1 b (i+1)) b n (i+1))
 simp only [allT,plus1 (show i < 1000 by omega),cellsU_len,cellsB_len,ble_i hk,in_rng (k:=80) hk,isAt_cellsU (W1 b i) hk,quo8 (show i < 1000 by omega),like_b hi,eqS_u8,cond_true,blt_i hi]
 have e0:((i:Int).toNat * 1)=i:=by simp
 have d0:decide (0≤(i:Int))=true:=by simp
 rw [e0,getD_cellsB b hi,eqS_u8,lt_i (k:=128) hi,d0]; rfl
theorem st2 (φ:Fr) (g h w:Nat→UInt64) (b:Nat→UInt8) (n:UInt64) (F i:Nat) (hi:i < 64):roundA (evC Tryd.prog (nr φ) Tryd.f69.ntmps (mask 69) F 3 b2) (headA Tryd.prog 2 (S2 g h b n (W2 φ w 0) (0+16))) (S2 g h b n (W2 φ w i) (i+16))=some (S2 g h b n (W2 φ w (i+1)) (i+1+16)):=by
 have h1:i+1 < 80:=by omega
 have h14:i+14 < 80:=by omega
 have h0:i < 80:=by omega
 have h9:i+9 < 80:=by omega
 have h16:i+16 < 80:=by omega
 have e:putA (cellsU 80 (W2 φ w i)) (0+((i+16:Nat):Int).toNat * 1) (cellsA (.u64 (sched φ (W2 φ w i i) (W2 φ w i (i+1)) (W2 φ w i (i+9)) (W2 φ w i (i+14)))))=cellsU 80 (W2 φ w (i+1)):=putA_cellsU _ _ h16
 have r:=r22b φ g h (W2 φ w i) (W2 φ w 0) b n (0+16) (i+16) (i+1) (i+14) i (i+9) (i+1+16) F
 rw [e] at r
 refine roundO2_ok (noPS_ok _) r ?_ (ok2 g h (W2 φ w (i+1)) b n (i+1+16))
 have q:eqS (.int .i64 (IntKind.wrap .i64 (((i+16:Nat):Int)+1))) (.int .i64 ((i+1+16:Nat):Int))=true:=by
  have:=plus1 (show i+16 < 1000 by omega)
  rwa [show i+1+16=i+16+1 by omega]
 have m7:eqS (.int .i64 (IntKind.wrap .i64 (((i+16:Nat):Int) - 7))) (.int .i64 ((i+9:Nat):Int))=true:=minus (d:=7) (by omega) (by omega)
 have m16:eqS (.int .i64 (IntKind.wrap .i64 (((i+16:Nat):Int) - 16))) (.int .i64 ((i:Nat):Int))=true:=minus (d:=16) (by omega) (by omega)
 have m2:eqS (.int .i64 (IntKind.wrap .i64 (((i+16:Nat):Int) - 2))) (.int .i64 ((i+14:Nat):Int))=true:=minus (d:=2) (by omega) (by omega)
 have m15:eqS (.int .i64 (IntKind.wrap .i64 (((i+16:Nat):Int) - 15))) (.int .i64 ((i+1:Nat):Int))=true:=minus (d:=15) (by omega) (by omega)
 simp only [allT,q,m7,m16,m2,m15,cellsU_len,ble_i h16,in_rng (k:=80) h16,in_rng (k:=80) h1,in_rng (k:=80) h14,in_rng (k:=80) h0,in_rng (k:=80) h9,isAt_cellsU (W2 φ w i) h1,isAt_cellsU (W2 φ w i) h14,isAt_cellsU (W2 φ w i) h0,isAt_cellsU (W2 φ w i) h9,cond_true]
 rw [lt_i (k:=80) h16]; rfl
theorem st3 (φ:Fr) (g h w:Nat→UInt64) (b:Nat→UInt8) (n:UInt64) (F i:Nat) (hi:i < 80):roundA (evC Tryd.prog (nr φ) Tryd.f69.ntmps (mask 69) F 3 b3) (headA Tryd.prog 2 (S3 g h b n w (X3 φ g w h 0) 0)) (S3 g h b n w (X3 φ g w h i) i)=some (S3 g h b n w (X3 φ g w h (i+1)) (i+1)):=by
 have r:=r22c φ g h w (X3 φ g w h i) (X3 φ g w h 0) b n i (i+1) F
 refine roundO2_ok (noPS_ok _) r ?_ (ok3 g h w (X3 φ g w h (i+1)) b n (i+1))
 simp only [allT,plus1 (show i < 1000 by omega),isAt_cellsU w hi,isAt_cellsU g hi,cond_true]
 rw [in_rng (k:=80) hi,lt_i (k:=80) hi]; rfl
theorem st4 (φ:Fr) (g h w x:Nat→UInt64) (b:Nat→UInt8) (n:UInt64) (F i:Nat) (hi:i < 8):roundA (evC Tryd.prog (nr φ) Tryd.f69.ntmps (mask 69) F 3 b4) (headA Tryd.prog 2 (S4 g (A4 h x 0) b n w x 0)) (S4 g (A4 h x i) b n w x i)=some (S4 g (A4 h x (i+1)) b n w x (i+1)):=by
 have e:putA (hashC (A4 h x i) b n) (0+(i:Int).toNat * 1) (cellsA (.u64 (A4 h x i i+x i)))=hashC (A4 h x (i+1)) b n:=by
  rw [off_nat,putA_set _ rfl (by rw [hashC_len]; omega),hashC_set hi]; rfl
 have r:=r22d φ g (A4 h x i) (A4 h x 0) w x b n i (i+1) F
 rw [e] at r
 refine roundO2_ok (noPS_ok _) r ?_ (ok4 g (A4 h x (i+1)) w x b n (i+1))
 have e0:((i:Int).toNat * 1)=i:=by simp
 have d0:decide (0≤(i:Int))=true:=by simp
 simp only [allT,plus1 (show i < 1000 by omega),hashC_len,cellsU_len,ble_i (show i < 138 by omega),isAt_get (hashC_h (h:=A4 h x i) (b:=b) (n:=n) hi),like_u hi,eqS_u64,blt_i hi,cond_true]
 rw [in_rng (k:=8) hi,e0,getD_cellsU x hi,eqS_u64,lt_i (k:=8) hi,d0]; rfl
theorem end_of {φ:Fr}{sy:List Nat}{F:Nat}{b:Code}{s s':SA}{id:Nat}{c:Bool}(h:evSO Tryd.prog noPS (nr φ) sy Tryd.f69.ntmps (mask 69) F 3 [b] s ⟨[false],[],[]⟩=some (.exit id,s',⟨[],[],[!c]⟩)) (hc:c=false):evC Tryd.prog (nr φ) Tryd.f69.ntmps (mask 69) F 3 b s=some (.exit id,s'):=by
 have:=(evSO_ok (noPS_ok _) _ _ _ _ _ _ h (by rw [hc]; rfl)).1
 rwa [evS_one] at this
theorem ev22 (φ:Fr) (g h:Nat→UInt64) (b:Nat→UInt8) (n:UInt64) (F:Nat) (hF:128 < F):∃ T' fr',evS Tryd.prog (nr φ) Tryd.f69.ntmps (mask 69) F 3 p22 ⟨startT [.ptr 2 0] 0,[(0,.cells true (cellsU 80 g)),(2,.cells false (hashC h b n))],3⟩ =
  some (.normal,⟨T',H4 g (takeF φ g h b) b n (W2 φ (W1 b 128) 64) (X3 φ g (W2 φ (W1 b 128) 64) h 80),fr'⟩):=by
 have a1:=segO_ok (noPS_ok _) (s22a φ g h b n F) rfl
 rw [List.drop_zero] at a1
 have l1:=evS_loop p22_2 (fun i=>S1 g h b n (W1 b i) i) 128 (fun i hi=>st1 φ g h b n F i hi) (end_of (x22a φ g h (W1 b 128) b n 128 F) (by decide)) hF
 have a2:=segO_ok (noPS_ok _) (s22b φ g h (W1 b 128) b n F) rfl
 have l2:=evS_loop p22_5 (fun i=>S2 g h b n (W2 φ (W1 b 128) i) (i+16)) 64 (fun i hi=>st2 φ g h (W1 b 128) b n F i hi) (end_of (x22b φ g h (W2 φ (W1 b 128) 64) b n (64+16) F) (by decide)) (by omega)
 have a3:=segO_ok (noPS_ok _) (s22c φ g h (W2 φ (W1 b 128) 64) b n F) rfl
 have l3:=evS_loop p22_8 (fun i=>S3 g h b n (W2 φ (W1 b 128) 64) (X3 φ g (W2 φ (W1 b 128) 64) h i) i) 80 (fun i hi=>st3 φ g h (W2 φ (W1 b 128) 64) b n F i hi) (end_of (x22c φ g h (W2 φ (W1 b 128) 64) (X3 φ g (W2 φ (W1 b 128) 64) h 80) b n 80 F) (by decide)) (by omega)
 have a4:=segO_ok (noPS_ok _) (s22d φ g h (W2 φ (W1 b 128) 64) (X3 φ g (W2 φ (W1 b 128) 64) h 80) b n F) rfl
 have l4:=evS_loop p22_10 (fun i=>S4 g (A4 h (X3 φ g (W2 φ (W1 b 128) 64) h 80) i) b n (W2 φ (W1 b 128) 64) (X3 φ g (W2 φ (W1 b 128) 64) h 80) i) 8 (fun i hi=>st4 φ g h (W2 φ (W1 b 128) 64) (X3 φ g (W2 φ (W1 b 128) 64) h 80) b n F i hi) (end_of (x22d φ g (A4 h (X3 φ g (W2 φ (W1 b 128) 64) h 80) 8) (W2 φ (W1 b 128) 64) (X3 φ g (W2 φ (W1 b 128) 64) h 80) b n 8 F) (by decide)) (by omega)
 refine ⟨T4 b (X3 φ g (W2 φ (W1 b 128) 64) h 80) 8++[(166,.bool false)],179,?_⟩
 rw [a1]
 refine l1.trans ?_
 rw [a2]
 refine l2.trans ?_
 rw [a3]
 refine l3.trans ?_
 rw [a4]
 refine l4.trans ?_
 rw [p22_11]; rfl
end Go.Proofs.YtcjkbimdmcfppaaDoor.Sha
namespace Go.Eng
open Go
def oneE (n:Nat) (k:(Nat→Option AObj)→List AVal→Option (AVal × List AVal)):EffA:=
 .eff fun _ η=>match η n with
  | some (.cells false c)=>match k η c with
   | some (v,c')=>some (v,[(n,some (.cells false c'))])
   | none=>none
  | _=>none
theorem callOk_one {P:Program}{cs:CS}(hcs:CSOk P cs) (hm:P.follows .mixedOrders=true){f:FuncId}{args cargs:List AVal}{n:Nat}(hcan:canL P.globals.size [] args=some (cargs,[n])){k:(Nat→Option AObj)→List AVal→Option (AVal × List AVal)}
  (h:∀ η c v c',k η c=some (v,c')→ltL 0 c=true∧ltL 0 c'=true∧ltV 0 v=true∧∃ F nn H' fr',run1 P cs nn F f cargs (globA η P.globals.size 0++[(P.globals.size,.cells false c)]) (P.globals.size+1)=some (v,H',fr')∧aget H' P.globals.size=some (.cells false c')):CallOk P f args (oneE n k):=by
 intro σ args' H w base v0 H0 hl hg hH happ hfree
 unfold oneE EffA.app at happ
 simp only at happ
 cases hn:aget H n with
 | none=>rw [hn] at happ; cases happ
 | some ob =>
  obtain ⟨ro,c⟩:=ob
  rw [hn] at happ
  cases ro with
  | true=>cases happ
  | false =>
   simp only at happ
   cases hk:k (aget H) c with
   | none=>rw [hk] at happ; cases happ
   | some r =>
    obtain ⟨v,c'⟩:=r
    rw [hk] at happ
    simp only [Option.some.injEq,Prod.mk.injEq] at happ
    obtain ⟨rfl,rfl⟩:=happ
    obtain ⟨h1,h2,h3,F,nn,H',fr',h4,h5⟩:=h (aget H) c v c' hk
    refine callOk_view hcs hm (nn:=nn) (F:=F) hcan σ args' H w base v _ hl hg hH ?_ hfree
    unfold viewE EffA.app
    simp only [objsA,hn,h1,cond_true]
    have h4':run1 P cs nn F f cargs (globA (aget H) P.globals.size 0++[(P.globals.size,.cells false c)]) (P.globals.size+[n].length)=some (v,H',fr'):=h4
    rw [h4']
    simp only [backA,hn,h5,h2,cond_true,h3,nodupB,List.all_nil,Bool.and_self]
theorem run1_fin1 {P:Program}{cs:CS}{nn F:Nat}{f:FuncId}{fn:Func}{c:Code}{args:List AVal}{H:HL}{fr:Nat}(hf:P.funcs[f]? = some fn) (hb:fn.body=some c) (hn:Nat.ble args.length fn.ntmps=true)
  {x:XA} {s:SA} (he:evS P cs fn.ntmps nn F fr (pieces c) ⟨startT args 0,H,fr⟩=some (x,s)) (hx:x=.normal ∨ x=.ret) {v:AVal} (hr:resA P s.T s.H fn.results.toList=some [v]):run1 P cs nn F f args H fr=some (v,s.H,s.fr):=by
 unfold run1
 simp only [hf,hb]
 unfold runF
 rw [hn,evC_pieces,he]
 rcases hx with rfl | rfl
 all_goals simp only [cond_true,hr]
theorem psOne_ok {P:Program}{f:FuncId}{g:List AVal→Option (EffA × Bool)}(h:∀ args e,g args=some (e,true)→CallOk P f args e):CSOk P (csP (psOne f g)):=by
 intro f' args e he
 unfold csP psOne at he
 cases hf:Nat.beq f' f with
 | false=>rw [hf] at he; cases he
 | true =>
  rw [hf] at he
  have hf:=Nat.eq_of_beq_eq_true hf
  subst hf
  simp only at he
  cases hg:g args with
  | none=>rw [hg] at he; cases he
  | some r =>
   obtain ⟨e',c⟩:=r
   rw [hg] at he
   cases c with
   | false=>cases he
   | true=>cases he; exact h args _ hg
def gU (c:List AVal) (j:Nat):UInt64:=match c[j]? with
 | some (.u64 x)=>x
 | _=>0
def gB (c:List AVal) (j:Nat):UInt8:=match c[j]? with
 | some (.u8 x)=>x
 | _=>0
def shU:Nat→List AVal→Option (List AVal)
 | 0,c=>some c
 | n+1,.u64 _::c=>shU n c
 | _+1,_=>none
def shB:Nat→List AVal→Option (List AVal)
 | 0,c=>some c
 | n+1,.u8 _::c=>shB n c
 | _+1,_=>none
theorem cellsU_succ (n:Nat) (f:Nat→UInt64):cellsU (n+1) f=.u64 (f 0)::cellsU n fun j=>f (j+1):=by
 unfold cellsU
 rw [List.range_succ_eq_map,List.map_cons,List.map_map]; rfl
theorem cellsB_succ (n:Nat) (f:Nat→UInt8):cellsB (n+1) f=.u8 (f 0)::cellsB n fun j=>f (j+1):=by
 unfold cellsB
 rw [List.range_succ_eq_map,List.map_cons,List.map_map]; rfl
theorem shU_ok:∀ {n:Nat}{c r:List AVal},shU n c=some r→c=cellsU n (gU c)++r
 | 0,c,r,h=>by cases h; rfl
 | n+1,[],r,h=>by cases h
 | n+1,.u64 x::c,r,h=>by
  have:=shU_ok (n:=n) (c:=c) h
  rw [cellsU_succ]
  have e:cellsU n (fun j=>gU (.u64 x::c) (j+1))=cellsU n (gU c):=cellsU_congr fun i _=>by unfold gU; simp
  rw [e]
  show AVal.u64 x::c=AVal.u64 x::(cellsU n (gU c)++r)
  rw [← this]
 | n+1,.bool _::c,r,h | n+1,.u8 _::c,r,h | n+1,.u32 _::c,r,h | n+1,.b64 _::c,r,h | n+1,.int _ _::c,r,h | n+1,.str _::c,r,h | n+1,.nilPtr::c,r,h | n+1,.ptr _ _::c,r,h | n+1,.nilSlice::c,r,h
 | n+1,.slice _ _ _ _::c,r,h | n+1,.nilMap::c,r,h | n+1,.map _::c,r,h | n+1,.nilFunc::c,r,h | n+1,.fn _ _::c,r,h | n+1,.nilIface::c,r,h | n+1,.iface _ _::c,r,h | n+1,.agg _::c,r,h | n+1,.tup _::c,r,h | n+1,.tp _ _ _::c,r,h=>by cases h
theorem shB_ok:∀ {n:Nat}{c r:List AVal},shB n c=some r→c=cellsB n (gB c)++r
 | 0,c,r,h=>by cases h; rfl
 | n+1,[],r,h=>by cases h
 | n+1,.u8 x::c,r,h=>by
  have:=shB_ok (n:=n) (c:=c) h
  rw [cellsB_succ]
  have e:cellsB n (fun j=>gB (.u8 x::c) (j+1))=cellsB n (gB c):=cellsB_congr fun i _=>by unfold gB; simp
  rw [e]
  show AVal.u8 x::c=AVal.u8 x::(cellsB n (gB c)++r)
  rw [← this]
 | n+1,.bool _::c,r,h | n+1,.u64 _::c,r,h | n+1,.u32 _::c,r,h | n+1,.b64 _::c,r,h | n+1,.int _ _::c,r,h | n+1,.str _::c,r,h | n+1,.nilPtr::c,r,h | n+1,.ptr _ _::c,r,h | n+1,.nilSlice::c,r,h
 | n+1,.slice _ _ _ _::c,r,h | n+1,.nilMap::c,r,h | n+1,.map _::c,r,h | n+1,.nilFunc::c,r,h | n+1,.fn _ _::c,r,h | n+1,.nilIface::c,r,h | n+1,.iface _ _::c,r,h | n+1,.agg _::c,r,h | n+1,.tup _::c,r,h | n+1,.tp _ _ _::c,r,h=>by cases h
def nU (k:Nat) (f:Nat→UInt64):Nat→UInt64:=fun j=>if j < k then f j else 0
def nB (k:Nat) (f:Nat→UInt8):Nat→UInt8:=fun j=>if j < k then f j else 0
theorem gU_cellsU (k:Nat) (f:Nat→UInt64):gU (cellsU k f)=nU k f:=by
 funext j
 unfold gU nU
 by_cases h:j < k
 ·rw [cellsU_at f h,if_pos h]
 ·rw [List.getElem?_eq_none (by rw [cellsU_len]; omega),if_neg h]
theorem nU_nU (k:Nat) (f:Nat→UInt64):nU k (nU k f)=nU k f:=by
 funext j
 unfold nU
 by_cases h:j < k <;> simp [h]
theorem nB_nB (k:Nat) (f:Nat→UInt8):nB k (nB k f)=nB k f:=by
 funext j
 unfold nB
 by_cases h:j < k <;> simp [h]
theorem cellsU_nU (k:Nat) (f:Nat→UInt64):cellsU k (nU k f)=cellsU k f:=cellsU_congr fun i h=>by unfold nU; rw [if_pos h]
theorem cellsB_nB (k:Nat) (f:Nat→UInt8):cellsB k (nB k f)=cellsB k f:=cellsB_congr fun i h=>by unfold nB; rw [if_pos h]
end Go.Eng
namespace Go.Proofs.YtcjkbimdmcfppaaDoor.Sha
open Go Go.Eng
set_option maxRecDepth 1000000
structure St where
 h:Nat→UInt64
 b:Nat→UInt8
 n:UInt64
def stC (s:St):List AVal:=hashC s.h s.b s.n
def shH (c:List AVal):Bool:=match shU 8 c with
 | some c1=>match shB 128 c1 with
  | some [.u64 _,.bool true]=>true
  | _=>false
 | none=>false
def shG (c:List AVal):Bool:=match shU 80 c with
 | some []=>true
 | _=>false
def hst (c:List AVal):St:=⟨nU 8 (gU c),nB 128 (gB (c.drop 8)),gU (c.drop 136) 0⟩
theorem shG_ok {c:List AVal}(h:shG c=true):c=cellsU 80 (gU c):=by
 unfold shG at h
 split at h
 ·rename_i hs
  have:=shU_ok hs
  rwa [List.append_nil] at this
 ·cases h
theorem shH_ok {c:List AVal}(h:shH c=true):c=stC (hst c):=by
 unfold shH at h
 split at h
 ·rename_i c1 h1
  split at h
  ·rename_i x h2
   have e1:=shU_ok h1
   have e2:=shB_ok h2
   have l8:(cellsU 8 (gU c)).length=8:=cellsU_len
   have d8:c.drop 8=c1:=by
    rw [e1,List.drop_append_of_le_length (by rw [l8]; exact Nat.le_refl 8),List.drop_of_length_le (by rw [l8]; exact Nat.le_refl 8),List.nil_append]
   have l128:(cellsB 128 (gB c1)).length=128:=cellsB_len
   have d136:c.drop 136=[.u64 x,.bool true]:=by
    rw [show (136:Nat)=8+128 by rfl,← List.drop_drop,d8,e2,List.drop_append_of_le_length (by rw [l128]; exact Nat.le_refl 128),List.drop_of_length_le (by rw [l128]; exact Nat.le_refl 128),List.nil_append]
   unfold stC hashC hst
   simp only
   rw [cellsU_nU,cellsB_nB,d8,d136]
   have e3:gU [AVal.u64 x,.bool true] 0=x:=rfl
   rw [e3,List.append_assoc,← e2]
   exact e1
  ·cases h
 ·cases h
theorem hst_stC (s:St):hst (stC s)=⟨nU 8 s.h,nB 128 s.b,s.n⟩:=by
 unfold hst stC hashC
 have l8:(cellsU 8 s.h).length=8:=cellsU_len
 have l128:(cellsB 128 s.b).length=128:=cellsB_len
 have d8:(cellsU 8 s.h++cellsB 128 s.b++[AVal.u64 s.n,.bool true]).drop 8=cellsB 128 s.b++[AVal.u64 s.n,.bool true]:=by
  rw [List.append_assoc,List.drop_append_of_le_length (by rw [l8]; exact Nat.le_refl 8),List.drop_of_length_le (by rw [l8]; exact Nat.le_refl 8),List.nil_append]
 have d136:(cellsU 8 s.h++cellsB 128 s.b++[AVal.u64 s.n,.bool true]).drop 136=[AVal.u64 s.n,.bool true]:=by
  rw [show (136:Nat)=8+128 by rfl,← List.drop_drop,d8,List.drop_append_of_le_length (by rw [l128]; exact Nat.le_refl 128),List.drop_of_length_le (by rw [l128]; exact Nat.le_refl 128),List.nil_append]
 rw [d8,d136]
 congr 1
 ·funext j
  unfold nU gU
  by_cases hj:j < 8
  ·rw [if_pos hj,if_pos hj,List.append_assoc,List.getElem?_append_left (by rw [l8]; exact hj),cellsU_at _ hj]
  ·rw [if_neg hj,if_neg hj]
 ·funext j
  unfold nB gB
  by_cases hj:j < 128
  ·rw [if_pos hj,if_pos hj,List.getElem?_append_left (by rw [l128]; exact hj),cellsB_at _ hj]
  ·rw [if_neg hj,if_neg hj]
def nS (s:St):St:=⟨nU 8 s.h,nB 128 s.b,s.n⟩
theorem stC_nS (s:St):stC (nS s)=stC s:=by unfold stC nS hashC; simp only [cellsU_nU,cellsB_nB]
theorem nS_nS (s:St):nS (nS s)=nS s:=by unfold nS; simp only [nU_nU,nB_nB]
def hashK (v:(Nat→UInt64)→St→AVal) (t:(Nat→UInt64)→St→St) (η:Nat→Option AObj) (c:List AVal):Option (AVal × List AVal):=match η 0,η 1 with
 | some (.cells true g),none=>cond (shG g && shH c) (some (v (gU g) (hst c),stC (t (gU g) (hst c)))) none
 | _,_=>none
theorem ltH_stC (s:St) (k:Nat):ltL k (stC s)=true:=by
 unfold stC hashC
 have a:∀ (l m:List AVal),ltL k l=true→ltL k m=true→ltL k (l++m)=true:=fun l m h1 h2=>by
  induction l with
  | nil=>exact h2
  | cons x l ih =>
   simp only [ltL] at h1
   cases hx:ltS k x <;> rw [hx] at h1 <;> simp only [cond_true,cond_false] at h1
   ·cases h1
   ·simp only [List.cons_append,ltL,hx,ih h1,cond_true]
 exact a _ _ (a _ _ (ltL_U ..) (ltL_B ..)) rfl
theorem callOk_hash {cs:CS}(hcs:CSOk Tryd.prog cs){f:FuncId}{args cargs:List AVal}{m:Nat}(hcan:canL 2 [] args=some (cargs,[m])){v:(Nat→UInt64)→St→AVal}{t:(Nat→UInt64)→St→St}
  (hv:∀ g s,ltV 0 (v g s)=true)
  (h:∀ g s,nU 80 g=g→nS s=s→∃ F nn H' fr',run1 Tryd.prog cs nn F f cargs [(0,.cells true (cellsU 80 g)),(2,.cells false (stC s))] 3=some (v g s,H',fr')∧aget H' 2=some (.cells false (stC (t g s)))):CallOk Tryd.prog f args (oneE m (hashK v t)):=by
 have e1:Tryd.prog.globals.size=2:=gl
 refine callOk_one hcs (by kernel_rfl) (by rw [e1]; exact hcan) fun η c w c' hk => ?_
 unfold hashK at hk
 split at hk
 ·rename_i g0 h0 h00
  cases hb:(shG g0 && shH c) <;> rw [hb] at hk <;> simp only [cond_true,cond_false] at hk
  ·cases hk
  ·rw [Bool.and_eq_true] at hb
   simp only [Option.some.injEq,Prod.mk.injEq] at hk
   obtain ⟨rfl,rfl⟩:=hk
   have ec:=shH_ok hb.2
   have eg:=shG_ok hb.1
   have en:nU 80 (gU g0)=gU g0:=by
    have:gU g0=gU (cellsU 80 (gU g0)):=congrArg gU eg
    rw [gU_cellsU] at this
    exact this.symm
   have es:nS (hst c)=hst c:=by
    have:hst c=hst (stC (hst c)):=congrArg hst ec
    rw [hst_stC] at this
    exact this.symm
   refine ⟨by rw [ec]; exact ltH_stC ..,ltH_stC ..,hv ..,?_⟩
   obtain ⟨F,nn,H',fr',h1,h2⟩:=h (gU g0) (hst c) en es
   refine ⟨F,nn,H',fr',?_,by rw [e1]; exact h2⟩
   rw [e1]
   have hg:globA η 2 0=[(0,.cells true (cellsU 80 (gU g0)))]:=by
    have:ltL 0 g0=true:=by rw [eg]; exact ltL_U ..
    simp only [globA,h0,h00,this,cond_true]
    rw [← eg]
   rw [hg,ec]
   rw [← ec]
   rw [← ec] at h1
   exact h1
 ·cases hk
def takeS (φ:Fr) (g:Nat→UInt64) (s:St):St:=nS ⟨takeF φ g s.h s.b,s.b,s.n⟩
def k22 (φ:Fr):List AVal→Option EffA
 | [.ptr m 0]=>some (oneE m (hashK (fun _ _=>.tup []) (takeS φ)))
 | _=>none
theorem f22_at:Tryd.prog.funcs[69]? = some Tryd.f69:=by kernel_rfl
theorem f22_body:Tryd.f69.body=some (bodyOf Tryd.f69):=by kernel_rfl
theorem callOk22 (φ:Fr) (hcs:CSOk Tryd.prog (nr φ)):CSOk Tryd.prog (csOne 69 (k22 φ)):=by
 refine csOne_ok fun args e h => ?_
 unfold k22 at h
 split at h
 ·rename_i m
  cases h
  refine callOk_hash (cargs:=[.ptr 2 0]) hcs rfl (fun _ _=>rfl) fun g s hg hs => ?_
  obtain ⟨T',fr',he⟩:=ev22 φ g s.h s.b s.n 200 (by omega)
  exact ⟨200,mask 69,_,fr',run1_fin f22_at f22_body (by kernel_rfl) he (.inl rfl) rfl (by decide),by unfold takeS; rw [stC_nS]; rfl⟩
 ·cases h
end Go.Proofs.YtcjkbimdmcfppaaDoor.Sha
namespace Go.Proofs.YtcjkbimdmcfppaaDoor.Sha
open Go Go.Eng
set_option maxRecDepth 1000000
def n18 (φ:Fr):CS:=csAlt (nr φ) (csOne 69 (k22 φ))
noncomputable def p18:List Code:=pieces (bodyOf Tryd.f51)
def HS (g:Nat→UInt64) (c:List AVal):HL:=[(0,.cells true (cellsU 80 g)),(2,.cells false c)]
theorem s18a (φ:Fr) (g h:Nat→UInt64) (b:Nat→UInt8) (n:UInt64) (x:UInt8) (F:Nat):segO (evSO Tryd.prog noPS (n18 φ) [13,100013] Tryd.f51.ntmps (mask 51) F 3 ((p18.drop 0).take 1) ⟨startT [.ptr 2 0,.u8 x] 0,HS g (hashC h b n),3⟩ ⟨[],[],[]⟩) =
  some (⟨[(0,.ptr 2 0),(1,.u8 x)],HS g (putA (hashC h b n) ((0+8)+((n % 128).toNat:Int).toNat * 1) (cellsA (.u8 x))),91⟩,[Nat.ble (((0+8)+((n % 128).toNat:Int).toNat * 1)+(cellsA (.u8 x)).length) (hashC h b n).length,decide (0≤((n % 128).toNat:Int)) && decide (((n % 128).toNat:Int) < 128)]):=by kernel_rfl
theorem s18b (φ:Fr) (g h:Nat→UInt64) (b:Nat→UInt8) (n:UInt64) (x:UInt8) (F:Nat):evSO Tryd.prog noPS (n18 φ) [26] Tryd.f51.ntmps (mask 51) F 3 (p18.drop 1) ⟨[(0,.ptr 2 0),(1,.u8 x)],HS g (hashC h b n),91⟩ ⟨[true],[],[]⟩ =
  some (.normal,⟨[(0,.ptr 2 0),(1,.u8 x),(26,.bool true)],HS g (stC (takeS φ (gU (cellsU 80 g)) (hst (hashC h b (n+1))))),219⟩,⟨[],[],[((n+1) % 128) == 0]⟩):=by kernel_rfl
theorem s18c (φ:Fr) (g h:Nat→UInt64) (b:Nat→UInt8) (n:UInt64) (x:UInt8) (F:Nat):evSO Tryd.prog noPS (n18 φ) [26] Tryd.f51.ntmps (mask 51) F 3 (p18.drop 1) ⟨[(0,.ptr 2 0),(1,.u8 x)],HS g (hashC h b n),91⟩ ⟨[false],[],[]⟩ =
  some (.normal,⟨[(0,.ptr 2 0),(1,.u8 x),(26,.bool false)],HS g (hashC h b (n+1)),203⟩,⟨[],[],[!(((n+1) % 128) == 0)]⟩):=by kernel_rfl
theorem hashC_b {h:Nat→UInt64}{b:Nat→UInt8}{n:UInt64}{x:UInt8}{i:Nat}(hi:i < 128):(hashC h b n).set (8+i) (.u8 x)=hashC h (updF b i x) n:=by
 unfold hashC
 have l8:(cellsU 8 h).length=8:=cellsU_len
 have l128:(cellsB 128 b).length=128:=cellsB_len
 rw [List.append_assoc,List.set_append_right _ _ (by omega),l8,show 8+i - 8=i by omega,List.set_append_left _ _ (by rw [l128]; exact hi),set_cellsB b x hi,← List.append_assoc]
def add0 (s:St) (x:UInt8):St:=nS ⟨s.h,updF s.b (s.n % 128).toNat x,s.n+1⟩
def addS (φ:Fr) (g:Nat→UInt64) (s:St) (x:UInt8):St:=cond ((s.n+1) % 128 == 0) (takeS φ g (add0 s x)) (add0 s x)
def k18 (φ:Fr):List AVal→Option EffA
 | [.ptr m 0,.u8 x]=>some (oneE m (hashK (fun _ _=>.tup []) (fun g s=>addS φ g s x)))
 | _=>none
theorem f18_at:Tryd.prog.funcs[51]? = some Tryd.f51:=by kernel_rfl
theorem f18_body:Tryd.f51.body=some (bodyOf Tryd.f51):=by kernel_rfl
theorem n18_ok {φ:Fr}(hcs:CSOk Tryd.prog (nr φ)):CSOk Tryd.prog (n18 φ):=csAlt_ok hcs (callOk22 φ hcs)
theorem mod128 (n:UInt64):(n % 128).toNat < 128:=by rw [UInt64.toNat_mod]; exact Nat.mod_lt _ (by decide)
theorem stC_eq {s t:St}(h:nS s=nS t):stC s=stC t:=by rw [← stC_nS s,h,stC_nS t]
theorem nS_add0 (s:St) (x:UInt8):nS (add0 s x)=add0 s x:=nS_nS _
theorem nS_takeS (φ:Fr) (g:Nat→UInt64) (s:St):nS (takeS φ g s)=takeS φ g s:=nS_nS _
theorem nS_addS (φ:Fr) (g:Nat→UInt64) (s:St) (x:UInt8):nS (addS φ g s x)=addS φ g s x:=by
 unfold addS
 cases ((s.n+1) % 128 == 0) with
 | true=>exact nS_takeS ..
 | false=>exact nS_add0 ..
theorem callOk18 (φ:Fr) (hcs:CSOk Tryd.prog (nr φ)):CSOk Tryd.prog (csOne 51 (k18 φ)):=by
 refine csOne_ok fun args e h => ?_
 unfold k18 at h
 split at h
 ·rename_i m x
  cases h
  refine callOk_hash (cargs:=[.ptr 2 0,.u8 x]) (n18_ok hcs) rfl (fun _ _=>rfl) fun g s hg hs => ?_
  have e8:0+8+(((s.n % 128).toNat:Int).toNat * 1)=8+(s.n % 128).toNat:=by
   rw [Int.toNat_natCast]; omega
  have h128:=mod128 s.n
  have e1:putA (hashC s.h s.b s.n) (0+8+(((s.n % 128).toNat:Int).toNat * 1)) (cellsA (.u8 x))=hashC s.h (updF s.b (s.n % 128).toNat x) s.n:=by
   rw [e8,putA_set _ rfl (by rw [hashC_len]; omega),hashC_b h128]
  have r:=segO_ok (noPS_ok _) (s18a φ g s.h s.b s.n x 200) (by
   have a1:(decide (0≤((s.n % 128).toNat:Int)) && decide (((s.n % 128).toNat:Int) < 128))=true:=by
    rw [Bool.and_eq_true,decide_eq_true_eq,decide_eq_true_eq]; omega
   have a2:Nat.ble (0+8+(((s.n % 128).toNat:Int).toNat * 1)+(cellsA (.u8 x)).length) (hashC s.h s.b s.n).length=true:=by
    rw [e8,hashC_len]; simp [cellsA]; omega
   simp only [allT,a1,a2,cond_true])
  rw [List.drop_zero,e1] at r
  have hn0:stC ⟨s.h,updF s.b (s.n % 128).toNat x,s.n+1⟩=stC (add0 s x):=stC_eq (nS_nS _).symm
  cases hz:((s.n+1) % 128 == 0) with
  | true =>
   have q:=(evSO_ok (noPS_ok _) _ _ _ _ _ _ (s18b φ g s.h (updF s.b (s.n % 128).toNat x) s.n x 200) (by simp only [allT,hz,cond_true])).1
   have ev:=r.trans q
   refine ⟨200,mask 51,_,_,run1_fin f18_at f18_body (by kernel_rfl) ev (.inl rfl) rfl (by decide),?_⟩
   have:gU (cellsU 80 g)=g:=by rw [gU_cellsU,hg]
   have e2:hst (hashC s.h (updF s.b (s.n % 128).toNat x) (s.n+1))=add0 s x:=hst_stC ⟨s.h,updF s.b (s.n % 128).toNat x,s.n+1⟩
   show some (AObj.cells false (stC (takeS φ (gU (cellsU 80 g)) (hst (hashC s.h (updF s.b (s.n % 128).toNat x) (s.n+1))))))=_
   rw [this,e2]
   unfold addS
   rw [hz]; rfl
  | false =>
   have q:=(evSO_ok (noPS_ok _) _ _ _ _ _ _ (s18c φ g s.h (updF s.b (s.n % 128).toNat x) s.n x 200) (by simp only [allT,hz,Bool.not_false,cond_true])).1
   have ev:=r.trans q
   refine ⟨200,mask 51,_,_,run1_fin f18_at f18_body (by kernel_rfl) ev (.inl rfl) rfl (by decide),?_⟩
   show some (AObj.cells false (stC ⟨s.h,updF s.b (s.n % 128).toNat x,s.n+1⟩))=_
   unfold addS
   rw [hz,hn0]; rfl
 ·cases h
end Go.Proofs.YtcjkbimdmcfppaaDoor.Sha
namespace Go.Proofs.YtcjkbimdmcfppaaDoor.Sha
open Go Go.Eng
set_option maxRecDepth 1000000
def n14 (φ:Fr):CS:=csAlt (nr φ) (csOne 51 (k18 φ))
theorem n14_ok {φ:Fr}(hcs:CSOk Tryd.prog (nr φ)):CSOk Tryd.prog (n14 φ):=csAlt_ok hcs (callOk18 φ hcs)
noncomputable def p14:List Code:=pieces (bodyOf Tryd.f28)
def loopOf:Code→Code
 | .block _ (.loop b)=>b
 | c=>c
noncomputable def b14:Code:=loopOf (p14.getD 4 .skip)
def S14 (g:Nat→UInt64) (s:St) (l:List UInt8) (fr:Nat) (t:TL) (i:Nat):SA:=⟨[(0,.ptr 2 0),(1,.str l)]++t++[(16,.int .i64 (l.length:Int)),(17,.int .i64 (i:Int))],HS g (stC s),fr⟩
theorem p14_4:p14[4]? = some (.block 0 (.loop b14)):=by kernel_rfl
theorem s14a (φ:Fr) (g:Nat→UInt64) (s:St) (l:List UInt8) (F:Nat):segO (evSO Tryd.prog noPS (n14 φ) [] Tryd.f28.ntmps (mask 28) F 3 ((p14.drop 0).take 4) ⟨startT [.ptr 2 0,.str l] 0,HS g (stC s),3⟩ ⟨[],[],[]⟩) =
  some (S14 g s l 107 [(4,.int .i64 0),(14,.bool false)] 0,[]):=by kernel_rfl
theorem r14 (φ:Fr) (g:Nat→UInt64) (s s0:St) (l:List UInt8) (i j F:Nat):roundO2 Tryd.prog noPS (n14 φ) [18,23,200025] [true] [.int .i64 (j:Int)] Tryd.f28.ntmps (mask 28) F 3 b14 (S14 g s0 l 107 [(4,.int .i64 0),(14,.bool false)] 0) (S14 g s l 107 [(4,.int .i64 0),(14,.bool false)] i) =
  some (S14 g (addS φ (gU (cellsU 80 g)) (hst (stC s)) (l.getD (Int.toNat (i:Int)) 0)) l 107 [(4,.int .i64 0),(14,.bool false)] j,[eqS (.int .i64 (IntKind.wrap .i64 ((i:Int)+1))) (.int .i64 (j:Int)),decide (0≤(i:Int)) && decide ((i:Int) < (l.length:Int)),decide ((i:Int) < (l.length:Int))]):=by kernel_rfl
theorem x14 (φ:Fr) (g:Nat→UInt64) (s:St) (l:List UInt8) (i F:Nat):evSO Tryd.prog noPS (n14 φ) [18] Tryd.f28.ntmps (mask 28) F 3 [b14] (S14 g s l 107 [(4,.int .i64 0),(14,.bool false)] i) ⟨[false],[],[]⟩ =
  some (.exit 0,⟨(S14 g s l 107 [(4,.int .i64 0),(14,.bool false)] i).T++[(18,.bool false)],HS g (stC s),115⟩,⟨[],[],[!(decide ((i:Int) < (l.length:Int)))]⟩):=by kernel_rfl
theorem ok14 (g:Nat→UInt64) (s:St) (l:List UInt8) (i:Nat):okS Tryd.prog (S14 g s l 107 [(4,.int .i64 0),(14,.bool false)] i)=true:=by kernel_rfl
theorem z14 (φ:Fr) (g:Nat→UInt64) (s:St) (l:List UInt8) (i F:Nat):evS Tryd.prog (n14 φ) Tryd.f28.ntmps (mask 28) F 3 (p14.drop 5) ⟨(S14 g s l 107 [(4,.int .i64 0),(14,.bool false)] i).T++[(18,.bool false)],HS g (stC s),115⟩ =
  some (.ret,⟨[(0,.ptr 2 0),(1,.str l),(4,.int .i64 0),(14,.bool false),(16,.int .i64 (l.length:Int)),(17,.int .i64 (i:Int)),(18,.bool false)],HS g (stC s),123⟩):=by kernel_rfl
end Go.Proofs.YtcjkbimdmcfppaaDoor.Sha
