/- Texts Dg15, Dg16, Sg18, Dg17, Dg18, Dg19, Dg20, Eng29, Eng42, DgJ: what they show that this claim uses. -/
import Derived.Test.YtcjkbimdmcfppaaDoorS9
import Derived.Test.YtcjkbimdmcfppaaDoorS7
import Derived.Test.YtcjkbimdmcfppaaDoorS4
import Derived.Deep.Slices
import Derived.WideKeyArgs
import Derived.Test.YtcjkbimdmcfppaaDoorS8
import Derived.OpenShut
import Derived.Test.YtcjkbimdmcfppaaDoorRows
import Derived.WalkKit
import Derived.ProofKit
import Derived.LaidMore
import Derived.ShutString
import Derived.Stop.Joined
set_option maxRecDepth 100000
set_option maxHeartbeats 1000000
set_option linter.unusedVariables false
set_option linter.unusedSimpArgs false
namespace Go.Proofs.YtcjkbimdmcfppaaDoor
open Go Go.Eng Go.Num Sha
set_option maxRecDepth 1000000
theorem msg0_z:msg0=z0:=by kernel_rfl
theorem keyV:(Sgn.keyW docR z0).val=Sgn.numA:=by
 rw [keyW_of,ofW_val,← msg0_z,dig0_eq]
 kernel_rfl
theorem pubV:Sgn.pubB docR z0=Sgn.encA:=Sgn.encA_of keyV
theorem msg1_z:Sgn.preB docR z0++tx1=msg1:=by
 unfold Sgn.preB
 rw [← msg0_z,dig0_eq]
 kernel_rfl
theorem rV:(Sgn.rW docR z0 tx1).val=Sgn.numR:=by
 unfold Sgn.rW
 rw [numW_of,msg1_z,ofW_val,dig1_eq]
 kernel_rfl
theorem rBV:Sgn.rB docR z0 tx1=Sgn.encR:=Sgn.encR_of rV
theorem msg2_z:Sgn.encR++(Sgn.encA++tx1)=msg2:=by kernel_rfl
theorem msg3_z:Sgn.encR++(Sgn.encA++tx2)=msg3:=by kernel_rfl
theorem k_ne:(Sgn.numW docR (Sgn.rB docR z0 tx1++(Sgn.pubB docR z0++tx1))).val ≠ (Sgn.numW docR (Sgn.rB docR z0 tx1++(Sgn.pubB docR z0++tx2))).val:=by
 rw [pubV,rBV,msg2_z,msg3_z,numW_of,numW_of,ofW_val,ofW_val,dig2_eq,dig3_eq]
 have h:(leNat dig2 % Lq == leNat dig3 % Lq)=false:=by kernel_rfl
 exact fun e=>by rw [e,beq_self_eq_true] at h; cases h
end Go.Proofs.YtcjkbimdmcfppaaDoor
namespace Go.Proofs.YtcjkbimdmcfppaaDoor
open Go Go.Eng Go.Num Sha
def G0:HL:=[(0,.cells true (cellsU 80 kF))]
theorem sigB_len (a b:List UInt8):(Sgn.sigB docR a b).length=64:=by
 unfold Sgn.sigB
 rw [List.length_append,rB_len,Sgn.fi_sby,bytesW_len]
theorem ta63_len (l:List UInt8) (h:l.length=64):(ta63 l).length=63:=by
 unfold ta63
 rw [List.length_drop,List.length_take,h]
 rfl
theorem ver63 (p t x:List UInt8) (h:x.length=63):Sgn.verP docR p t x=false:=by
 unfold Sgn.verP
 have e:isLen x 64=false:=by
  unfold isLen
  rw [h]
  rfl
 rw [e,Bool.false_and,cond_false]
def alV (τ:Ft) (g:Nat→UInt64):Option AVal:=cond (allT (alOb τ g) && !τ.ver (gg g) (τ.pub (gg g) z0) tx1 (ta63 (τ.sgn (gg g) z0 tx1))) (some (.bool true)) none
theorem nTr_ok:CSOk Tryd.prog (nT ftr):=csAlt_ok psTr_ok (noCS_ok _)
theorem y6_ok:CSOk Tryd.prog (csOne 4 (y6 (alV ftr))):=csOne_ok fun args e he=>by
 unfold y6 at he
 split at he
 ·cases he
  refine callOk_tabL nTr_ok rfl fun g x _ hx => ?_
  unfold alV at hx
  cases hc:(allT (alOb ftr g) && !ftr.ver (gg g) (ftr.pub (gg g) z0) tx1 (ta63 (ftr.sgn (gg g) z0 tx1))) with
  | false=>rw [hc,cond_false] at hx; cases hx
  | true =>
   rw [hc,cond_true] at hx
   cases hx
   rw [Bool.and_eq_true] at hc
   have hr:=ansO_run (nT_ps ftr) (a6 ftr g) hc.1
   rw [hc.2] at hr
   refine ⟨rfl,_,_,run_of hr⟩
 ·cases he
theorem al_true:alV ftr kF=some (.bool true):=by
 have hp:ftr.pub (gg kF) z0=Sgn.pubB docR z0:=by rw [ggk]; exact pubT_doc z0 (by decide)
 have hs:ftr.sgn (gg kF) z0 tx1=Sgn.sigB docR z0 tx1:=by rw [ggk]; exact sgn_doc z0 tx1 (by decide) (by decide)
 have lp:=pubB_len z0
 have ls:=sigB_len z0 tx1
 have l63:=ta63_len _ ls
 have v1:ftr.ver (gg kF) (Sgn.pubB docR z0) tx1 (Sgn.sigB docR z0 tx1)=true:=by
  rw [ggk,ver_doc _ _ _ (by rw [lp]; decide) (by decide)]
  exact Sgn.sign_back docR_len z0 tx1
 have v2:ftr.ver (gg kF) (Sgn.pubB docR z0) tx2 (Sgn.sigB docR z0 tx1)=false:=by
  rw [ggk,ver_doc _ _ _ (by rw [lp]; decide) (by decide)]
  exact Sgn.sign_other docR_len k_ne
 have v3:ftr.ver (gg kF) (Sgn.pubB docR z0) tx1 (ta63 (Sgn.sigB docR z0 tx1))=false:=by
  rw [ggk,ver_doc _ _ _ (by rw [lp]; decide) (by decide)]
  exact ver63 _ _ _ l63
 unfold alV alOb
 rw [hp,hs]
 generalize Sgn.pubB docR z0=p at lp v1 v2 v3 ⊢
 generalize Sgn.sigB docR z0 tx1=s at ls l63 v1 v2 v3 ⊢
 rw [v1,v2,v3,lp,ls]
 rfl
end Go.Proofs.YtcjkbimdmcfppaaDoor
namespace Go.Sgn
open Go Go.Eng Go.Num
def addL:List UInt64→List UInt64→UInt64→List UInt64
 | x::l,y::m,c=>((x+y+c) &&& 65535)::addL l m (shr_u64 (x+y+c) 16)
 | _,_,_=>[]
theorem addL_len:∀ (l m:List UInt64) (c:UInt64),l.length=m.length→(addL l m c).length=l.length
 | [],[],_,_=>rfl
 | [],_::_,_,h=>by cases h
 | _::_,[],_,h=>by cases h
 | x::l,y::m,c,h=>by
  have:=addL_len l m (shr_u64 (x+y+c) 16) (by simpa using h)
  simp only [addL,List.length_cons,this]
theorem addL_val:∀ (l m:List UInt64) (c:UInt64),l.length=m.length→ok16 l→ok16 m→c.toNat≤1→ok16 (addL l m c)∧∃ k,k≤1∧val16 (addL l m c)+65536 ^ l.length * k=val16 l+val16 m+c.toNat
 | [],[],c,_,_,_,hc=>⟨trivial,c.toNat,hc,by simp [addL,val16]⟩
 | [],_::_,_,h,_,_,_=>by cases h
 | _::_,[],_,h,_,_,_=>by cases h
 | x::l,y::m,c,h,h1,h2,hc=>by
  have hx:=h1.1
  have hy:=h2.1
  have e:(x+y+c).toNat=x.toNat+y.toNat+c.toNat:=by
   rw [UInt64.toNat_add,UInt64.toNat_add]
   simp only [Nat.reducePow]
   omega
  have hlo:=low16 (x+y+c)
  have hhi:=high16 (x+y+c)
  rw [e] at hlo hhi
  obtain ⟨o,k,hk,hv⟩:=addL_val l m (shr_u64 (x+y+c) 16) (by simpa using h) h1.2 h2.2 (by omega)
  refine ⟨⟨by omega,o⟩,k,hk,?_⟩
  simp only [addL,val16,List.length_cons,Nat.pow_succ]
  rw [hhi] at hv
  rw [hlo]
  have:65536 ^ l.length * 65536 * k=65536 * (65536 ^ l.length * k):=by rw [Nat.mul_right_comm,Nat.mul_comm]
  rw [this]
  generalize 65536 ^ l.length * k=q at *
  omega
def addO (a b:N16):N16:=N16.ofL (addL a.list b.list 0)
theorem addO_val (a b:N16) (ha:a.ok) (hb:b.ok) (h:a.val+b.val < 65536 ^ 16):(addO a b).ok∧(addO a b).val=a.val+b.val:=by
 obtain ⟨o,k,hk,hv⟩:=addL_val a.list b.list 0 rfl ha hb (by decide)
 have e:(addO a b).list=addL a.list b.list 0:=list_ofL (by rw [addL_len a.list b.list 0 rfl]; rfl)
 refine ⟨by unfold N16.ok; rw [e]; exact o,?_⟩
 have hl:a.list.length=16:=rfl
 rw [hl] at hv
 have hz:(0:UInt64).toNat=0:=rfl
 rw [hz] at hv
 unfold N16.val at *
 rw [e]
 rcases Nat.eq_zero_or_pos k with h0 | h0
 ·subst h0; omega
 ·have:k=1:=by omega
  subst this
  omega
theorem canon_big {s:List UInt8}(h:Lq≤leNat s):canonW s=false:=by
 cases hc:canonW s with
 | false=>rfl
 | true =>
  unfold canonW at hc
  rw [Bool.and_eq_true,beq_iff_eq,beq_iff_eq] at hc
  have e:=congrArg leNat hc.2
  rw [bytesW_val] at e
  have hk:okL s=true:=by
   have h1:=hc.1
   unfold oE at h1
   cases hk:okL s with
   | true=>rfl
   | false=>rw [hk] at h1; simp at h1
  rw [oV_ok hk,ofW_val] at e
  have:=Nat.mod_lt (leNat s) Lq_pos
  omega
theorem canon_add (w:W4) (hw:w.val < Lq):canonW (bytesN (addO (partsN (bytesW w)) orderN))=false:=by
 have hp:=partsN_val (bytesW w) (bytesW_len w)
 rw [bytesW_val] at hp
 have ho:=orderN_val
 have hok:=orderN_ok
 generalize partsN (bytesW w)=p at hp ⊢
 generalize orderN=o at ho hok ⊢
 have hL:Lq+Lq < 65536 ^ 16:=by decide
 obtain ⟨k,v⟩:=addO_val p o hp.1 hok (by rw [ho,hp.2]; omega)
 refine canon_big ?_
 rw [bytesN_val _ k,v,ho]
 omega
def oneB:List UInt8:=[1,0,0,0,0,0,0,0,0,0,0,0,0,0,0,0,0,0,0,0,0,0,0,0,0,0,0,0,0,0,0,0]
theorem base_zero:mulA dF aB 0=(toF 0,toF 1):=rfl
theorem small_one:realFi.small (realFi.dec oneB)=true:=by
 have hw:(⟨0,0,0,0⟩:W4).val=0:=by decide
 have hb:realFi.bytes (realFi.mul realFi.base ⟨0,0,0,0⟩)=oneB:=by
  rw [base_bytes (l:=oneB) hw base_zero (by decide) rfl (by decide)]
  rfl
 obtain ⟨q,f,h,hf⟩:=b_mul ⟨0,0,0,0⟩
 obtain ⟨_,_,q',g,hg,ha⟩:=pi_back h
 rw [hb] at hg
 have e0:mulA dF aB 0=Num.zeroA:=rfl
 rw [small_iff hg,ha,hf,hw,e0]
 exact mulA_zero dF 8
end Go.Sgn
namespace Go.Proofs.YtcjkbimdmcfppaaDoor
open Go Go.Eng Go.Num Sha
structure Fq where
 pp:List UInt8→N16
 ord:N16
 nb:N16→List UInt8
def p7 (q:Fq):List AVal→Option (EffA × Bool)
 | [.str s]=>some (.pure (N16.av (q.pp s)),isLen s 32)
 | _=>none
def k8 (q:Fq):List AVal→Option EffA
 | []=>some (.pure q.ord.av)
 | _=>none
def k10 (q:Fq):List AVal→Option EffA
 | [.agg [.u64 a0,.u64 a1,.u64 a2,.u64 a3,.u64 a4,.u64 a5,.u64 a6,.u64 a7,.u64 a8,.u64 a9,.u64 a10,.u64 a11,.u64 a12,.u64 a13,.u64 a14,.u64 a15]]=>some (.pure (.str (q.nb (N16.mk a0 a1 a2 a3 a4 a5 a6 a7 a8 a9 a10 a11 a12 a13 a14 a15))))
 | _=>none
def fqr:Fq:=⟨partsN,orderN,bytesN⟩
def psS (τ:Ft) (q:Fq):PS:=psAlt (psOne 7 (p7 q)) (psT τ)
def csS (q:Fq) (v:(Nat→UInt64)→Option AVal):CS:=csAlt (csOne 4 (y6 v)) (csAlt (csOne 8 (k8 q)) (csOne 10 (k10 q)))
def nS3 (τ:Ft) (q:Fq) (v:(Nat→UInt64)→Option AVal):CS:=csAlt (csP (psS τ q)) (csS q v)
theorem nS3_ps (τ:Ft) (q:Fq) (v:(Nat→UInt64)→Option AVal):PSOk (psS τ q) (nS3 τ q v):=csP_ok
theorem p7_ok:CSOk Tryd.prog (csP (psOne 7 (p7 fqr))):=psOne_ok fun args e he=>by
 unfold p7 at he
 split at he
 ·rename_i s
  simp only [Option.some.injEq,Prod.mk.injEq] at he
  obtain ⟨rfl,hl⟩:=he
  obtain ⟨a0,a1,a2,a3,a4,a5,a6,a7,a8,a9,a10,a11,a12,a13,a14,a15,a16,a17,a18,a19,a20,a21,a22,a23,a24,a25,a26,a27,a28,a29,a30,a31,rfl⟩:=len32 (Nat.eq_of_beq_eq_true hl)
  exact g78_ok 7 _ _ rfl
 ·cases he
theorem k8_ok:CSOk Tryd.prog (csOne 8 (k8 fqr)):=csOne_ok fun args e he=>by
 unfold k8 at he
 split at he
 ·cases he
  exact g47_ok 8 [] _ rfl
 ·cases he
theorem k10_ok:CSOk Tryd.prog (csOne 10 (k10 fqr)):=csOne_ok fun args e he=>by
 unfold k10 at he
 split at he
 ·rename_i a0 a1 a2 a3 a4 a5 a6 a7 a8 a9 a10 a11 a12 a13 a14 a15
  cases he
  exact g29_ok 10 [.agg [.u64 a0,.u64 a1,.u64 a2,.u64 a3,.u64 a4,.u64 a5,.u64 a6,.u64 a7,.u64 a8,.u64 a9,.u64 a10,.u64 a11,.u64 a12,.u64 a13,.u64 a14,.u64 a15]] _ rfl
 ·cases he
end Go.Proofs.YtcjkbimdmcfppaaDoor
namespace Go.Proofs.YtcjkbimdmcfppaaDoor
open Go Go.Eng Go.Num Sha
def S3 (g:Nat→UInt64) (a b P S:List UInt8) (e1 e2:Int) (X L:List UInt64) (c:UInt64) (i:Int):SA:=⟨[(0,.str a),(1,.str b),(4,.bool false),(22,.bool false),(5,.str P),(6,.int .i64 e1),(7,.str S),(8,.int .i64 e2),(45,.bool false),(9,.ptr 306 0),(10,.ptr 330 0),(11,.u64 c),(12,.int .i64 i)],[(0,.cells true (cellsU 80 g)),(306,.cells false (X.map .u64)),(330,.cells false (L.map .u64))],362⟩
noncomputable def cd3:List Code:=pieces (bodyOf Tryd.f3)
noncomputable def b3:Code:=Eng.loopOf (cd3.getD 11 .skip)
end Go.Proofs.YtcjkbimdmcfppaaDoor
namespace Go.Proofs.YtcjkbimdmcfppaaDoor
open Go Go.Eng Go.Num Sha
def dr32L (S:List UInt8):List UInt8:=List.drop (Int.toNat 32) (List.take (Int.toNat ((List.length S:Nat):Int)) S)
def zr31:List UInt8:=[1]++[0,0,0,0,0,0,0,0,0,0,0,0,0,0,0,0,0,0,0,0,0,0,0,0,0,0,0,0,0,0,0]
def zr32:List UInt8:=[0,0,0,0,0,0,0,0,0,0,0,0,0,0,0,0,0,0,0,0,0,0,0,0,0,0,0,0,0,0,0,0]
def ta32L (S:List UInt8):List UInt8:=List.drop (Int.toNat 0) (List.take (Int.toNat 32) S)
def HE (g:Nat→UInt64) (X L:List UInt64):HL:=[(0,.cells true (cellsU 80 g)),(306,.cells false (X.map .u64)),(330,.cells false (L.map .u64)),(378,.cells false (zrow (cellsA (AVal.u8 0)) 31)),(562,.cells false (zrow (cellsA (AVal.u8 0)) 32))]
section
variable (τ:Ft) (q:Fq) (al:(Nat→UInt64)→Option AVal) (g:Nat→UInt64) (a b P S:List UInt8) (e1 e2:Int) (X L:List UInt64) (c x y w:UInt64) (n:N16) (i j:Int)
def preOb:List Bool:=[(isLen (dr32L (sc a (τ.sgn (gg g) a b))) 32),((decide ((0:Int)≤32)) && ((decide ((32:Int)≤((List.length (sc a (τ.sgn (gg g) a b)):Nat):Int))) && (decide (((List.length (sc a (τ.sgn (gg g) a b)):Nat):Int)≤((List.length (sc a (τ.sgn (gg g) a b)):Nat):Int))))),!(((List.length (sc a (τ.sgn (gg g) a b)):Nat):Int) != 64),!((cond (isLen a 32) (0:Int) 2) != 0),!((cond (isLen a 32) (0:Int) 2) != 0),((Nat.ble (List.length a) 100000000) && (Nat.ble (List.length b) 10000000)),(Nat.ble (List.length a) 100000000),!(decide ((1024:Int) < ((List.length b:Nat):Int))),!(((List.length a:Nat):Int) != 32)]
theorem pre3:segO (evSO Tryd.prog (psS τ q) (nS3 τ q al) [17,21,26,32,36,39,44,47,48] Tryd.f3.ntmps (mask 3) 200 2 (cd3.take 11) ⟨startT [.str a,.str b] 0,[(0,.cells true (cellsU 80 g))],2⟩ ⟨[false,false,false,false,false],[],[]⟩) =
  some (S3 g a b (sc a (τ.pub (gg g) a)) (sc a (τ.sgn (gg g) a b)) (cond (isLen a 32) 0 2) (cond (isLen a 32) 0 2) (q.pp (dr32L (sc a (τ.sgn (gg g) a b)))).list q.ord.list 0 0,preOb τ g a b):=by kernel_rfl
theorem rd3 (c0:UInt64) (X0:List UInt64):roundO2 Tryd.prog (psS τ q) (nS3 τ q al) [51,55,56,58,59,200062,66,100066,200053] [true] [.u64 x,.u64 y,.u64 w,.int .i64 j] Tryd.f3.ntmps (mask 3) 200 2 b3 (S3 g a b P S e1 e2 X0 L c0 0) (S3 g a b P S e1 e2 X L c i) =
  some (⟨(S3 g a b P S e1 e2 X L (shr_u64 w 16) j).T,[(0,.cells true (cellsU 80 g)),(306,.cells false (putA (X.map .u64) (0+i.toNat * 1) (cellsA (.u64 (w &&& 65535))))),(330,.cells false (L.map .u64))],362⟩,
   [eqS (.int .i64 (IntKind.wrap .i64 (i+1))) (.int .i64 j),Nat.ble (0+i.toNat * 1+(cellsA (.u64 (w &&& 65535))).length) (X.map AVal.u64).length,decide (0≤i) && decide (i < 16),eqS (.u64 (x+y+c)) (.u64 w),isAt (L.map .u64) (0+i.toNat * 1) (.u64 y),decide (0≤i) && decide (i < 16),isAt (X.map .u64) (0+i.toNat * 1) (.u64 x),decide (0≤i) && decide (i < 16),decide (i < 16)]):=by kernel_rfl
noncomputable def endOb:List Bool:=[alP al 618 (HE g n.list L),!(τ.ver (gg g) zr31 b (zr31++zr32)),(Nat.ble (List.length zr31) 10000000 && Nat.ble (List.length b) 10000000),!(τ.ver (gg g) P b (ta32L S++q.nb n)),(Nat.ble (List.length P) 10000000 && Nat.ble (List.length b) 10000000),Nat.ble ((ta32L S).length+(q.nb n).length) 9223372036854775807,(decide ((0:Int)≤0) && (decide ((0:Int)≤32) && decide ((32:Int)≤((List.length S:Nat):Int)))),τ.ver (gg g) P b S,(Nat.ble (List.length P) 10000000 && Nat.ble (List.length b) 10000000),true]
theorem end3:endO Tryd.prog (psS τ q) (nS3 τ q al) [51,75,80,83,84,94,300098] Tryd.f3 (mask 3) 200 2 0 b3 (cd3.drop 12) (S3 g a b P S e1 e2 n.list L c 16) ⟨[false,true,false,false],[.bool true,.tup []],[]⟩=some (.bool true,endOb τ q al g b P S L n):=by kernel_rfl
theorem sA:ansO (run1O Tryd.prog (psS τ q) (nS3 τ q al) [17,21,26,32,36,39,44,47,48,300023] [true] [.bool true,.tup []] (mask 3) 200 3 [.str a,.str b] [(0,.cells true (cellsU 80 g))] 2)=some (.bool true,[alP al 74 [(0,.cells true (cellsU 80 g))],(((List.length a:Nat):Int) != 32)]):=by kernel_rfl
theorem sB:ansO (run1O Tryd.prog (psS τ q) (nS3 τ q al) [17,21,26,32,36,39,44,47,48,300023] [false,true] [.bool true,.tup []] (mask 3) 200 3 [.str a,.str b] [(0,.cells true (cellsU 80 g))] 2)=some (.bool true,[alP al 74 [(0,.cells true (cellsU 80 g))],decide ((1024:Int) < ((List.length b:Nat):Int)),!(((List.length a:Nat):Int) != 32)]):=by kernel_rfl
end
end Go.Proofs.YtcjkbimdmcfppaaDoor
namespace Go.Sgn
open Go Go.Eng Go.Num
def crL:List UInt64→List UInt64→UInt64→UInt64
 | x::l,y::m,c=>crL l m (shr_u64 (x+y+c) 16)
 | _,_,c=>c
theorem addL_snoc:∀ (l m:List UInt64) (x y c:UInt64),l.length=m.length→addL (l++[x]) (m++[y]) c=addL l m c++[(x+y+crL l m c) &&& 65535]∧crL (l++[x]) (m++[y]) c=shr_u64 (x+y+crL l m c) 16
 | [],[],_,_,_,_=>⟨rfl,rfl⟩
 | [],_::_,_,_,_,h=>by cases h
 | _::_,[],_,_,_,h=>by cases h
 | z::l,w::m,x,y,c,h=>by
  obtain ⟨h1,h2⟩:=addL_snoc l m x y (shr_u64 (z+w+c) 16) (by simpa using h)
  simp only [List.cons_append,addL,crL]
  exact ⟨by rw [h1],h2⟩
def XK (n l:List UInt64) (k:Nat):List UInt64:=addL (n.take k) (l.take k) 0++n.drop k
def CK (n l:List UInt64) (k:Nat):UInt64:=crL (n.take k) (l.take k) 0
theorem XK_len {n l:List UInt64}(h:n.length=l.length) (k:Nat):(XK n l k).length=n.length:=by
 unfold XK
 rw [List.length_append,addL_len _ _ _ (by rw [List.length_take,List.length_take,h]),List.length_take,List.length_drop]
 omega
theorem XK_at {n l:List UInt64}(h:n.length=l.length){k:Nat}(hk:k < n.length):(XK n l k)[k]? = some n[k]:=by
 unfold XK
 have e:(addL (n.take k) (l.take k) 0).length=k:=by rw [addL_len _ _ _ (by rw [List.length_take,List.length_take,h]),List.length_take]; omega
 rw [List.getElem?_append_right (by omega),e,Nat.sub_self,List.getElem?_drop,Nat.add_zero,List.getElem?_eq_getElem hk]
theorem XK_succ {n l:List UInt64}(h:n.length=l.length){k:Nat}(hk:k < n.length):XK n l (k+1)=(XK n l k).set k ((n[k]+l[k]'(by omega)+CK n l k) &&& 65535)∧CK n l (k+1)=shr_u64 (n[k]+l[k]'(by omega)+CK n l k) 16:=by
 have hl:k < l.length:=by omega
 have e:(addL (n.take k) (l.take k) 0).length=k:=by rw [addL_len _ _ _ (by rw [List.length_take,List.length_take,h]),List.length_take]; omega
 obtain ⟨a1,a2⟩:=addL_snoc (n.take k) (l.take k) n[k] l[k] 0 (by rw [List.length_take,List.length_take,h])
 have t1:n.take (k+1)=n.take k++[n[k]]:=(List.take_append_getElem hk).symm
 have t2:l.take (k+1)=l.take k++[l[k]]:=(List.take_append_getElem hl).symm
 have t3:n.drop k=n[k]::n.drop (k+1):=(List.getElem_cons_drop (h:=hk)).symm
 unfold XK CK
 refine ⟨?_,by rw [t1,t2]; exact a2⟩
 rw [t1,t2,a1,t3,List.set_append_right _ _ (by omega),e,Nat.sub_self,List.set_cons_zero,List.append_assoc]
 rfl
theorem XK_end (n l:N16):XK n.list l.list 16=(addO n l).list:=by
 have e:(addO n l).list=addL n.list l.list 0:=list_ofL (by rw [addL_len n.list l.list 0 rfl]; rfl)
 rw [e]
 unfold XK
 have t1:n.list.take 16=n.list:=rfl
 have t2:l.list.take 16=l.list:=rfl
 have t3:n.list.drop 16=[]:=rfl
 rw [t1,t2,t3,List.append_nil]
section
variable {hs:List UInt8→List UInt8}(h64:∀ l,(hs l).length=64)
include h64
theorem xW_lt (s t:List UInt8):(xW hs s t).val < Lq:=by
 have rlt:(rW hs s t).val < Lq:=num_lt h64 _
 unfold xW
 rw [fi_sadd,fi_smul]
 generalize numW hs (rB hs s t++(pubB hs s++t))=k
 have hm:(mulW k (keyW hs s)).val < Lq:=by rw [mulW_val]; exact Nat.mod_lt _ Lq_pos
 rw [addW_val _ _ rlt hm]
 exact Nat.mod_lt _ Lq_pos
theorem ver_plus (s t p u:List UInt8) (hr:(rB hs s t).length=32):(sigB hs s t).drop 32=bytesW (xW hs s t)∧∀ r:List UInt8,r.length=32→verP hs p u (r++bytesN (addO (partsN (bytesW (xW hs s t))) orderN))=false:=by
 refine ⟨?_,fun r hl => ?_⟩
 ·unfold sigB
  rw [← hr,List.drop_left',fi_sby]
  rfl
 ·have hc:=canon_add _ (xW_lt h64 s t)
  generalize bytesN (addO (partsN (bytesW (xW hs s t))) orderN)=x at hc ⊢
  unfold verP
  have e:(r++x).drop 32=x:=by rw [← hl,List.drop_left']; rfl
  rw [e,hc,Bool.and_false,cond_false]
end
theorem ver_one (hs:List UInt8→List UInt8) (u x:List UInt8):verP hs oneB u x=false:=by
 unfold verP
 rw [small_one]
 cases isLen x 64 && canonW (x.drop 32)
 ·rfl
 ·rw [cond_true,Bool.not_true,Bool.and_false,Bool.and_false,cond_false]
end Go.Sgn
namespace Go.Proofs.YtcjkbimdmcfppaaDoor
open Go Go.Eng Go.Num Sha
theorem csS_ok:CSOk Tryd.prog (csS fqr (alV ftr)):=csAlt_ok y6_ok (csAlt_ok k8_ok k10_ok)
theorem psS_ok:CSOk Tryd.prog (csP (psS ftr fqr)):=csP_alt p7_ok psTr_ok
noncomputable def nS3r:CS:=nS3 ftr fqr (alV ftr)
theorem nS3r_ok:CSOk Tryd.prog nS3r:=csAlt_ok psS_ok csS_ok
theorem shG_c (g:Nat→UInt64):shG (cellsU 80 g)=true:=by kernel_rfl
theorem alP_v {v:(Nat→UInt64)→Option AVal}{base:Nat}{H:HL}{g:Nat→UInt64}(h0:aget H 0=some (.cells true (cellsU 80 g))) (h1:aget H 1=none) (hg:nU 80 g=g) (hv:v g=some (.bool true)):alP v base H=true:=by
 unfold alP
 refine decP_of ?_
 unfold tabL
 simp only [EffA.app,tabK_cut]
 have hk:tabK v (aget H)=some (.bool true):=by
  unfold tabK
  rw [h0,h1]
  simp only
  rw [shG_c,cond_true,gU_cellsU,hg,hv]
 rw [hk]
theorem alP_r {base:Nat}{H:HL}(h0:aget H 0=some (.cells true (cellsU 80 kF))) (h1:aget H 1=none):alP (alV ftr) base H=true:=alP_v h0 h1 nkF al_true
theorem g0_0 (g:Nat→UInt64):aget [(0,AObj.cells true (cellsU 80 g))] 0=some (.cells true (cellsU 80 g)):=rfl
theorem g0_1 (g:Nat→UInt64):aget [(0,AObj.cells true (cellsU 80 g))] 1=none:=rfl
theorem he_0 (g:Nat→UInt64) (X L:List UInt64):aget (HE g X L) 0=some (.cells true (cellsU 80 g)):=rfl
theorem he_1 (g:Nat→UInt64) (X L:List UInt64):aget (HE g X L) 1=none:=rfl
theorem bl {a b:Nat}(h:a≤b):Nat.ble a b=true:=Nat.ble_eq_true_of_le h
theorem ok3 (g:Nat→UInt64) (a b P S:List UInt8) (e1 e2:Int) (X L:List UInt64) (c:UInt64) (i:Int):okS Tryd.prog (S3 g a b P S e1 e2 X L c i)=true:=by
 have hu:∀ (l:List UInt64),ltL 362 (l.map AVal.u64)=true:=fun l=>by
  induction l with
  | nil=>rfl
  | cons x l ih=>simp only [List.map_cons,ltL,ltV,ltS,ih,Bool.and_self,cond_true]
 have hc:ltL 362 (cellsU 80 g)=true:=rfl
 have hg:Tryd.prog.globals.size=2:=gl
 simp [okS,hg,S3,ltT,ltH,ltV,ltS,hu,hc,nble]
theorem st3 (τ:Ft) (q:Fq) (al:(Nat→UInt64)→Option AVal) (g:Nat→UInt64) (a b P S:List UInt8) (e1 e2:Int) (n l:List UInt64) (hn:n.length=16) (hl:l.length=16) (X0:List UInt64) (c0:UInt64) (k:Nat) (hk:k < 16) :
  roundA (evC Tryd.prog (nS3 τ q al) Tryd.f3.ntmps (mask 3) 200 2 b3) (headA Tryd.prog 2 (S3 g a b P S e1 e2 X0 l c0 0)) (S3 g a b P S e1 e2 (Sgn.XK n l k) l (Sgn.CK n l k) (k:Int))=some (S3 g a b P S e1 e2 (Sgn.XK n l (k+1)) l (Sgn.CK n l (k+1)) ((k+1:Nat):Int)):=by
 have hkn:k < n.length:=by omega
 have hkl:k < l.length:=by omega
 obtain ⟨s1,s2⟩:=Sgn.XK_succ (l:=l) (by rw [hn,hl]) hkn
 have hx:=Sgn.XK_at (l:=l) (by rw [hn,hl]) hkn
 have hX:(Sgn.XK n l k).length=16:=by rw [Sgn.XK_len (by rw [hn,hl]),hn]
 rw [s1,s2]
 have hy:l[k]? = some l[k]:=List.getElem?_eq_getElem hkl
 generalize Sgn.XK n l k=X at hx hX ⊢
 generalize Sgn.CK n l k=c
 generalize n[k]=x at hx ⊢
 generalize l[k]=y at hy ⊢
 have r:=rd3 τ q al g a b P S e1 e2 X l c x y (x+y+c) (k:Int) ((k+1:Nat):Int) c0 X0
 have i1:decide ((0:Int)≤(k:Int))=true:=decide_eq_true (by omega)
 have i2:decide ((k:Int) < 16)=true:=decide_eq_true (by omega)
 have hp:putA (X.map AVal.u64) (0+(k:Int).toNat * 1) (cellsA (.u64 ((x+y+c) &&& 65535)))=(X.set k ((x+y+c) &&& 65535)).map .u64:=by
  rw [Int.toNat_natCast,Nat.mul_one,Nat.zero_add]
  exact putA_map .u64 X k _ (by omega)
 rw [hp] at r
 refine roundO2_ok (nS3_ps τ q al) r ?_ (ok3 ..)
 have w1:IntKind.wrap .i64 ((k:Int)+1)=((k+1:Nat):Int):=by rw [wrapI _ (by omega) (by omega)]; rfl
 have w2:Nat.ble (0+(k:Int).toNat * 1+(cellsA (.u64 ((x+y+c) &&& 65535))).length) (X.map AVal.u64).length=true:=by
  rw [Int.toNat_natCast,Nat.mul_one,Nat.zero_add,List.length_map]
  exact Nat.ble_eq_true_of_le (by rw [hX]; exact hk)
 have w3:isAt (l.map .u64) (0+(k:Int).toNat * 1) (.u64 y)=true:=isAt_of (by rw [Int.toNat_natCast,Nat.mul_one,Nat.zero_add,List.getElem?_map,hy]; rfl) (by simp [eqS])
 have w4:isAt (X.map .u64) (0+(k:Int).toNat * 1) (.u64 x)=true:=isAt_of (by rw [Int.toNat_natCast,Nat.mul_one,Nat.zero_add,List.getElem?_map,hx]; rfl) (by simp [eqS])
 rw [w1,w2,w3,w4,i1,i2]
 simp [allT,eqS]
def preT (τ:Ft) (g:Nat→UInt64) (a b:List UInt8):List UInt8:=sc a (τ.sgn (gg g) a b)
theorem run3 (τ:Ft) (q:Fq) (al:(Nat→UInt64)→Option AVal) (g:Nat→UInt64) (a b:List UInt8) (h0:allT (preOb τ g a b)=true)
  (h1:allT (endOb τ q al g b (sc a (τ.pub (gg g) a)) (preT τ g a b) q.ord.list (Sgn.addO (q.pp (dr32L (preT τ g a b))) q.ord))=true) :
  (run1 Tryd.prog (nS3 τ q al) (mask 3) 200 3 [.str a,.str b] [(0,.cells true (cellsU 80 g))] 2).map (·.1)=some (.bool true):=by
 have hp:=pre3 τ q al g a b
 have he:=fun c=>end3 τ q al g a b (sc a (τ.pub (gg g) a)) (sc a (τ.sgn (gg g) a b)) (cond (isLen a 32) 0 2) (cond (isLen a 32) 0 2) q.ord.list c (Sgn.addO (q.pp (dr32L (sc a (τ.sgn (gg g) a b)))) q.ord)
 unfold preT at h1
 generalize sc a (τ.pub (gg g) a)=P at hp he h1
 generalize hS:sc a (τ.sgn (gg g) a b)=S at hp he h1
 generalize cond (isLen a 32) (0:Int) 2=e at hp he
 have hx:=Sgn.XK_end (q.pp (dr32L S)) q.ord
 generalize q.pp (dr32L S)=n at hp he h1 hx
 rw [← hx] at he
 refine run_loopO (nS3_ps τ q al) (fn:=Tryd.f3) (c:=bodyOf Tryd.f3) (by kernel_rfl) (by kernel_rfl) (by kernel_rfl) 11 (id:=0) (b:=b3) (by kernel_rfl) (fun j=>S3 g a b P S e e (Sgn.XK n.list q.ord.list j) q.ord.list (Sgn.CK n.list q.ord.list j) (j:Int)) 16 hp h0 (fun j hj=>st3 τ q al g a b P S e e n.list q.ord.list rfl rfl _ _ j hj) (he _) h1 (by omega)
theorem zr31_one:zr31=Sgn.oneB:=rfl
theorem dr32L_eq (S:List UInt8):dr32L S=S.drop 32:=by
 unfold dr32L
 rw [Int.toNat_natCast,List.take_length]
 rfl
theorem ta32L_eq (S:List UInt8):ta32L S=S.take 32:=rfl
theorem law3 (a b:List UInt8) (ha:a.length≤reachBytes) (hb:b.length≤reachBytes):∃ nn F,(run1 Tryd.prog nS3r nn F 3 [.str a,.str b] G0 2).map (·.1)=some (.bool true):=by
 unfold nS3r G0
 by_cases h1:a.length=32
 case neg =>
  have e:((a.length:Int) != 32)=true:=by simp only [bne_iff_ne,ne_eq]; omega
  exact ⟨_,_,ansO_run (nS3_ps ftr fqr (alV ftr)) (sA ftr fqr (alV ftr) kF a b) (by rw [e,alP_r (g0_0 _) (g0_1 _)]; rfl)⟩
 have e1:((a.length:Int) != 32)=false:=by rw [h1]; rfl
 have i1:isLen a 32=true:=isLen_of h1
 cases h2:decide ((1024:Int) < (b.length:Int)) with
 | true=>exact ⟨_,_,ansO_run (nS3_ps ftr fqr (alV ftr)) (sB ftr fqr (alV ftr) kF a b) (by rw [e1,h2,alP_r (g0_0 _) (g0_1 _)]; rfl)⟩
 | false =>
 have hl:=of_decide_eq_false h2
 have lb:b.length≤1024:=by omega
 have p1:ftr.pub (gg kF) a=Sgn.pubB docR a:=by rw [ggk]; exact pubT_doc a (by omega)
 have p2:ftr.sgn (gg kF) a b=Sgn.sigB docR a b:=by rw [ggk]; exact sgn_doc a b (by omega) (by omega)
 have lp:=pubB_len a
 have ls:=sigB_len a b
 obtain ⟨vd,vp⟩:=Sgn.ver_plus docR_len a b (Sgn.pubB docR a) b (rB_len a b)
 have v1:ftr.ver (gg kF) (Sgn.pubB docR a) b (Sgn.sigB docR a b)=true:=by
  rw [ggk,ver_doc _ _ _ (by rw [lp]; decide) (by omega)]
  exact Sgn.sign_back docR_len a b
 have lt:(ta32L (Sgn.sigB docR a b)).length=32:=by rw [ta32L_eq,List.length_take,ls]; rfl
 have v2:=vp (ta32L (Sgn.sigB docR a b)) lt
 have dd:=dr32L_eq (Sgn.sigB docR a b)
 rw [vd] at dd
 rw [← dd] at v2
 have hd32:isLen (dr32L (Sgn.sigB docR a b)) 32=true:=by rw [dd]; exact isLen_of (bytesW_len _)
 have v2':ftr.ver (gg kF) (Sgn.pubB docR a) b (ta32L (Sgn.sigB docR a b)++bytesN (Sgn.addO (partsN (dr32L (Sgn.sigB docR a b))) orderN))=false:=by
  rw [ggk,ver_doc _ _ _ (by rw [lp]; decide) (by omega)]
  exact v2
 have v3:ftr.ver (gg kF) zr31 b (zr31++zr32)=false:=by
  rw [ggk,ver_doc _ _ _ (by decide) (by omega),zr31_one]
  exact Sgn.ver_one docR b _
 have sca:∀ l,sc a l=l:=fun l=>by
  unfold sc
  rw [i1,cond_true]
 have hal:∀ X L,alP (alV ftr) 618 (HE kF X L)=true:=fun X L=>alP_r (he_0 ..) (he_1 ..)
 have q1:fqr.pp=partsN:=rfl
 have q2:fqr.ord=orderN:=rfl
 have q3:fqr.nb=bytesN:=rfl
 have lbb:=bl (show b.length≤10000000 by omega)
 have l32:Nat.ble 32 10000000=true:=by decide
 have l32':Nat.ble 32 100000000=true:=by decide
 have n64:∀ l:List UInt8,l.length=64→((l.length:Int) != 64)=false:=fun l h=>by rw [h]; rfl
 have nl:∀ x:N16,(bytesN x).length=32:=bytesN_len
 refine ⟨_,_,run3 ftr fqr (alV ftr) kF a b ?_ ?_⟩
 ·unfold preOb
  rw [p2,sca,hd32,n64 _ ls,ls,i1,cond_true,h2,e1,h1,l32',lbb]
  rfl
 ·unfold endOb preT
  rw [p1,p2,sca,sca,q1,q2,q3,v1,v2',v3,hal,lp,lt,ls,lbb,nl]
  rfl
end Go.Proofs.YtcjkbimdmcfppaaDoor
namespace Go.Eng
open Go Go.WideShapes Go.ChangeShapes
section
variable {H:Type}{enc:TypeId × Value→H}{P:Program}{w:World}{base:Nat}{spare:Nat→Bool}{held:Bool}
end
def Still (W w':World):Prop:=∀ b,b < W.heap.size→w'.heap[b]? = W.heap[b]?
theorem hrel_ro {σ:Sig}{H:Heap}{w:World}(h:∀ n o,H n=some o→o.ro=true∧∃ p,σ n=some p∧ORel σ w p o):HRel σ H w:=
 ⟨fun n o hn=>(h n o hn).2,fun n m o o' p q hn hm _ _ _=>.inr ⟨(h n o hn).1,(h m o' hm).1⟩⟩
theorem law_calls_H {P:Program}{cs:CS}(hcs:CSOk P cs) (hm:P.follows .mixedOrders=true){nn F:Nat}{f:FuncId}{args:List AVal}{H:HL}{fr:Nat}(h:(run1 P cs nn F f args H fr).map (·.1)=some (.bool true))
  {σ:Sig} {args':Array Value} {w:World} (hro:∀ n o,aget H n=some o→o.ro=true∧∃ p,σ n=some p∧ORel σ w p o) (hg:GRel P σ) (hfr:Fresh σ fr) (hl:LR σ args args') :
  Calls P f args' w fun r w'=>r=.returned (.bool true)∧Grew w w'∧Still w w':=by
 obtain ⟨r,hr,hrv⟩:=optMap h
 obtain ⟨v,H',fr'⟩:=r
 obtain ⟨fn,c,hf,hb,hrun⟩:=run1_some hr
 refine (runF_ok hcs hm hf hb hrun hl (hrel_ro hro) hg hfr).mono fun r w' ⟨σ',v',h1,h2,_,h4,_⟩ => ?_
 have hv:v=.bool true:=hrv
 subst hv
 cases h2
 have hs:Still w w':=fun b hb=>(h4.old b hb (by
  rintro ⟨n,o,p,g1,g2,_⟩
  rw [(hro n o g1).1] at g2
  cases g2)).1
 exact ⟨h1,grew_of h4.os h4.output h4.size hs,hs⟩
end Go.Eng
namespace Go.Eng
open Go
theorem table_u64 {H:Type}{enc:TypeId × Value→H}{P:Program}{W:World}{n:String}{g:Nat}{t e:TypeId}{cs:Array Value}{k:Nat}{l:List UInt64}{base:Nat}{spare:Nat→Bool}{held:Bool}{fuel:Nat}{x:DataW H × List MemPlace}
  (hg:P.globalNamed n=some g) (hv:W.var? P n=some cs) (ht:P.underlying t=some (.array k e)) (he:P.underlying e=some (.int .u64)) (hc:P.cellsOf e=1)
  (hd:DataW.trod enc P W base spare held fuel t cs.toList=some x) (hx:x.1=.agg (l.map fun y=>.lit (.int .u64 (y.toNat:Int)))) (σ:Sig):ORel σ W ⟨g,0,cs.size,none⟩ (.cells true (l.map .u64)):=by
 have hb:∃ t' fz,W.heap[g]? = some (.cells cs t' fz):=by
  simp only [World.var?,hg,Option.bind_some] at hv
  split at hv
  ·rename_i hh
   simp only [Option.some.injEq] at hv
   subst hv
   exact ⟨_,_,hh⟩
  ·cases hv
 obtain ⟨t',fz,hb⟩:=hb
 refine ⟨cs,t',fz,hb,rfl,fun i v hi => ?_,(fun h=>by cases h),fun T h=>by cases h⟩
 obtain ⟨xs,m,rfl,hx1,hlen,hn,hel⟩:=DataW.trod_array ht hd
 rw [hx1] at hx
 simp only [DataW.agg.injEq] at hx
 rw [List.getElem?_map] at hi
 cases hl:l[i]? with
 | none=>rw [hl] at hi; cases hi
 | some y =>
  rw [hl] at hi
  simp only [Option.map_some,Option.some.injEq] at hi
  subst hi
  have hxi:(xs.map (·.1))[i]? = some (.lit (.int .u64 (y.toNat:Int))):=by rw [hx,List.getElem?_map,hl]; rfl
  rw [List.getElem?_map] at hxi
  cases hxs:xs[i]? with
  | none=>rw [hxs] at hxi; cases hxi
  | some z =>
   rw [hxs] at hxi
   simp only [Option.map_some,Option.some.injEq] at hxi
   have hin:i < k:=by
    have:=(List.getElem?_eq_some_iff.1 hxs).1
    omega
   have h1:=hel i hin
   rw [hxs,hc,Nat.mul_one] at h1
   obtain ⟨r,e1,e2,_⟩:=DataW.trod_int he h1
   rw [e2] at hxi
   simp only [DataW.lit.injEq,Lit.int.injEq,true_and] at hxi
   have h2:cs.toList[i]? = some (.int .u64 r):=by
    have:(List.take 1 (cs.toList.drop i))[0]? = some (.int .u64 r):=by rw [e1]; rfl
    rw [List.getElem?_take_of_lt (by omega),List.getElem?_drop,Nat.add_zero] at this
    exact this
   refine ⟨.int .u64 r,by rw [Nat.zero_add]; simpa using h2,?_⟩
   rw [hxi]
   exact .u64 y
end Go.Eng
namespace Go.Proofs.YtcjkbimdmcfppaaDoor
open Go Go.Eng Go.ChangeShapes Go.WideShapes Go.ChangeAt Go.RowKit Sha
set_option maxRecDepth 1000000
def laid1 : List (String × DataW Unit) := [("isthmus/sha.rounds", Rows.laid_isthmus_sha_rounds)]
theorem gTab : Tryd.prog.globalNamed "isthmus/sha.rounds" = some 0 := by kernel_rfl
theorem tTab:(Tryd.prog.globals[0]?).map (·.type)=some 111:=by kernel_rfl
theorem uTab:Tryd.prog.underlying 111=some (.array 80 27):=by kernel_rfl
theorem uEl:Tryd.prog.underlying 27=some (.int .u64):=by kernel_rfl
theorem door_met (os:Os) (args:Array Value):laidMetH Tryd.prog laid1 ((World.doorLaid Tryd.prog 400 os).forCall (fun _ _=>0) ⟨#[],args,[]⟩).memory:=
 laidMetH_of_parts3 (fuel:=8) (laidMet_of_run' 8 (by kernel_rfl) (by kernel_rfl)) (by kernel_rfl) (by kernel_rfl)
theorem tabD {H:Type}:(Rows.laid_isthmus_sha_rounds:DataW H)=.agg (roundsL.map fun y=>.lit (.int .u64 (y.toNat:Int))):=by kernel_rfl
theorem tabA:cellsU 80 kF=roundsL.map .u64:=by kernel_rfl
theorem of_laid {W:World}(h:laidMetH Tryd.prog laid1 W):∃ n,∀ σ,ORel σ W ⟨0,0,n,none⟩ (.cells true (cellsU 80 kF)):=by
 rw [MakeChecks.laidMetH_plain _ _ _ (by kernel_rfl)] at h
 obtain ⟨ps,⟨g0,t0,cs0,f0,p0,q0,hg0,ht0,hv0,hd0,_⟩,_,_⟩:=h
 obtain rfl:=Option.some.inj (gTab.symm.trans hg0)
 obtain rfl:=Option.some.inj (tTab.symm.trans ht0)
 refine ⟨cs0.size,fun σ => ?_⟩
 rw [tabA]
 exact table_u64 hg0 hv0 uTab uEl (by kernel_rfl) hd0 tabD σ
def sigT (n:Nat):Sig:=fun g=>if g=0 then some ⟨0,0,n,none⟩ else if g=1 then some ⟨1,0,0,none⟩ else none
theorem sigT_g (n:Nat):GRel Tryd.prog (sigT n):=fun g hg=>by
 have e1:Tryd.prog.globals.size=2:=gl
 have:g=0 ∨ g=1:=by omega
 rcases this with rfl | rfl
 ·exact ⟨n,rfl⟩
 ·exact ⟨0,rfl⟩
theorem sigT_fresh (n:Nat):Fresh (sigT n) 2:=fun k hk=>by
 unfold sigT
 rw [if_neg (by omega),if_neg (by omega)]
theorem law_calls_T {cs:CS}(hcs:CSOk Tryd.prog cs){f:FuncId}{args:List AVal}(h:∃ nn F,(run1 Tryd.prog cs nn F f args G0 2).map (·.1)=some (.bool true)){args':Array Value}{W:World}(hL:laidMetH Tryd.prog laid1 W) (hl:∀ σ,LR σ args args') :
  Calls Tryd.prog f args' W fun r w'=>r=.returned (.bool true)∧Grew W w':=by
 obtain ⟨nn,F,h⟩:=h
 obtain ⟨n,ho⟩:=of_laid hL
 refine (law_calls_H hcs hmix h (σ:=sigT n) (fun k o hk => ?_) (sigT_g n) (sigT_fresh n) (hl _)).mono fun r w' h=>⟨h.1,h.2.1⟩
 unfold G0 at hk
 rcases beq_cases 0 k with ⟨e,hb⟩ | ⟨e,hb⟩
 ·simp only [aget,hb,cond_true,Option.some.injEq] at hk
  subst hk
  subst e
  exact ⟨rfl,_,rfl,ho _⟩
 ·simp only [aget,hb,cond_false] at hk
  cases hk
end Go.Proofs.YtcjkbimdmcfppaaDoor
