/- Texts Eng20, Num1, Wn0, Eng30, Eng31, Eng38, Eng39, Eng40, Eng41, Eng44, Eng45, Eng48, Eng60, Eng61, Eng49, Eng62, Eng63, Wb0, Bl1, Wb1, Eng65, Eng50, Eng51, Eng52, Eng53, Eng66, Wb2, Wb3, Wb4, Wb5, Eng67, Wb6, Wb7: what they show that this claim uses. -/
import Derived.Test.YtcplgmgpagekfaaGreatDoorP4
import Derived.WalkKit
import Derived.ProofKit
import Derived.OpenShut
import Derived.ShutString
import Derived.ChangeSame
import Derived.Test.YtcplgmgpagekfaaGreatDoorP5
import Derived.Test.YtcplgmgpagekfaaGreatDoorChecked
set_option maxRecDepth 100000
set_option maxHeartbeats 1000000
set_option linter.unusedVariables false
set_option linter.unusedSimpArgs false
namespace Go.Eng
open Go Go.WideShapes Go.ChangeShapes
theorem post_of_grew {H:Type}{enc:TypeId × Value→H}{P:Program}{f:Func}{s:ChangeSpec}{apart fresh handsOn again:Bool}{W W':World}{args:Array Value}{v:Value}{ds gs:List (DataW H)}{before pa pv:List MemPlace}
  (hW:DataW.Whole enc P f.params.toList s.vars apart W args.toList ds gs before)
  (hres:∀ (b:Nat) (sp:Nat→Bool) (hd:Bool),DataW.TrodAll enc P W' b sp hd f.resultTypes.toList (v.resultList f.resultTypes.size) (s.fn H (ds++gs)).results [])
  (hargs:∀ sp:Nat→Bool,(∀ p ∈ before,sp p.block=true)→DataW.TrodAll enc P W' 0 sp true f.params.toList args.toList (s.fn H (ds++gs)).args pa)
  (hvars:∀ sp:Nat→Bool,(∀ p ∈ before,sp p.block=true)→DataW.TrodVars enc P W' sp s.vars (s.fn H (ds++gs)).vars pv)
  (hps:before=pa++pv) (hg:UI W W')
  (hok:∀ (j:Nat) (t:TypeId) (r:Value),f.resultTypes[j]? = some t→(v.resultList f.resultTypes.size)[j]? = some r→Value.okWide P W' .any 0 t r) :
  s.post enc P f apart fresh handsOn again W args v W':=by
 have hlt:=hW.lt
 have hold:∀ p ∈ before,(fun b=>decide (b < W.heap.size)) p.block=true:=fun p hp=>by simpa using hlt p hp
 refine ⟨ds,gs,before,[],pa,pv,hW,hres _ _ _,hargs _ hold,hvars _ hold,World.keptBut_mono (fun p hp=>hp.elim) hg.1,fun _ => ?_⟩
 obtain ⟨_,_,_,_,_,hz,hn⟩:=hW
 have hmem:∀ p,p ∈ ([]++pa)++pv→p ∈ before:=fun p hp=>by rw [hps]; simpa using hp
 refine ⟨hok,_,_,([]++pa)++pv,⟨[]++pa,pv,trodAll_append (hargs _ (fun _ _=>rfl)) (hres _ _ _),hvars _ (fun _ _=>rfl),rfl,fun b off hp => ?_,fun ha => ?_⟩,fun p hp _ => ?_⟩
 ·have hb:=hmem _ hp
  rw [hg.2.1 ⟨b,off,none⟩ (hlt _ hb)]
  exact hz b off hb
 ·have:=hn ha
  rw [hps] at this
  simpa using this
 ·exact hmem _ hp
theorem EE (σ:Sig) (a:ByteArray):VR σ (.str a.data.toList) (.string a):=by
 have:=VR.str (σ:=σ) a.data.toList
 rwa [Array.toArray_toList] at this
theorem ah0 {k:IntKind}{n:Int}(h:(Lit.int k n).wf=true):k.min≤n∧n≤k.max:=by
 simpa only [Lit.wf,Bool.and_eq_true,decide_eq_true_eq] using h
theorem acO {a:Int}(h:(Lit.int .u8 a).wf=true):∃ x:UInt8,∀ σ,VR σ (.u8 x) (.int .u8 a):=by
 have h':=ah0 h
 have h1:(0:Int)≤a:=h'.1
 have h2:a≤255:=h'.2
 refine ⟨UInt8.ofNat a.toNat,fun σ => ?_⟩
 have e:((UInt8.ofNat a.toNat).toNat:Int)=a:=by rw [UInt8.toNat_ofNat_of_lt' (show a.toNat < 256 by omega)]; omega
 have:=VR.u8 (σ:=σ) (UInt8.ofNat a.toNat)
 rwa [e] at this
end Go.Eng
namespace Go.Num
open Go Go.Eng
structure E5 where
 x0:UInt64
 x1:UInt64
 x2:UInt64
 x3:UInt64
 x4:UInt64
 deriving DecidableEq
def E5.av (a:E5):AVal:=.agg [.u64 a.x0,.u64 a.x1,.u64 a.x2,.u64 a.x3,.u64 a.x4]
structure N16 where
 x0:UInt64
 x1:UInt64
 x2:UInt64
 x3:UInt64
 x4:UInt64
 x5:UInt64
 x6:UInt64
 x7:UInt64
 x8:UInt64
 x9:UInt64
 x10:UInt64
 x11:UInt64
 x12:UInt64
 x13:UInt64
 x14:UInt64
 x15:UInt64
 deriving DecidableEq
def N16.av (a:N16):AVal:=.agg [.u64 a.x0,.u64 a.x1,.u64 a.x2,.u64 a.x3,.u64 a.x4,.u64 a.x5,.u64 a.x6,.u64 a.x7,.u64 a.x8,.u64 a.x9,.u64 a.x10,.u64 a.x11,.u64 a.x12,.u64 a.x13,.u64 a.x14,.u64 a.x15]
def N16.list (a:N16):List UInt64:=[a.x0,a.x1,a.x2,a.x3,a.x4,a.x5,a.x6,a.x7,a.x8,a.x9,a.x10,a.x11,a.x12,a.x13,a.x14,a.x15]
def N16.ofL (l:List UInt64):N16:=⟨l.getD 0 0,l.getD 1 0,l.getD 2 0,l.getD 3 0,l.getD 4 0,l.getD 5 0,l.getD 6 0,l.getD 7 0,l.getD 8 0,l.getD 9 0,l.getD 10 0,l.getD 11 0,l.getD 12 0,l.getD 13 0,l.getD 14 0,l.getD 15 0⟩
def Qa (b:Bool):UInt64:=cond b 1 0
end Go.Num
namespace Go.Num
open Go Go.Eng
def Bp (s:List UInt8):List UInt8:=(s.set 0 (s.getD 0 0 &&& 248)).set 31 (s.getD 31 0 &&& 127 ||| 64)
def isLen (s:List UInt8) (n:Nat):Bool:=Nat.beq s.length n
def If (x y:UInt64):UInt64:=UInt64.ofNat (x.toNat * y.toNat / 18446744073709551616)
theorem L2 {α:Type}{l:List α}(h:l.length=32):∃ a0 a1 a2 a3 a4 a5 a6 a7 a8 a9 a10 a11 a12 a13 a14 a15 a16 a17 a18 a19 a20 a21 a22 a23 a24 a25 a26 a27 a28 a29 a30 a31,l=[a0,a1,a2,a3,a4,a5,a6,a7,a8,a9,a10,a11,a12,a13,a14,a15,a16,a17,a18,a19,a20,a21,a22,a23,a24,a25,a26,a27,a28,a29,a30,a31]:=
 match l,h with
 | [_,_,_,_,_,_,_,_,_,_,_,_,_,_,_,_,_,_,_,_,_,_,_,_,_,_,_,_,_,_,_,_],_=>⟨_,_,_,_,_,_,_,_,_,_,_,_,_,_,_,_,_,_,_,_,_,_,_,_,_,_,_,_,_,_,_,_,rfl⟩
end Go.Num
namespace Go.Num
open Go Go.Eng
theorem BK {s:List UInt8}{n:Nat}:isLen s n=true ↔ s.length=n:=by
 unfold isLen
 exact ⟨Nat.eq_of_beq_eq_true,fun h=>by rw [h]; exact Nat.beq_refl n⟩
end Go.Num
namespace Go.Num
open Go Go.Eng
theorem XR {s:List UInt8}{n:Nat}(h:isLen s n=false):¬ (s.length:Int)=(n:Int):=fun e=>by
 have:=BK.2 (Int.ofNat.inj e)
 rw [h] at this; cases this
theorem V1 {s:List UInt8}{n:Nat}(h:isLen s n=true):(s.length:Int)=(n:Int):=by rw [BK.1 h]
theorem Rg {s:List UInt8}(h:isLen s 32=false):¬ (s.length:Int)=32:=XR h
theorem JN {s:List UInt8}(h:isLen s 32=true):(s.length:Int)=32:=V1 h
end Go.Num
namespace Go.Eng
open Go
end Go.Eng
namespace Go.Proofs.YtcplgmgpagekfaaGreatDoor
open Go Go.Eng Go.Num
def AH (f:Func):Code:=f.body.getD .skip
def mask:FuncId→Nat:=fun f=>match f with | 2=>0 | 3=>456719261672553301917578507439996708271150858015 | 4=>101412048018405926072328081030095 | 5=>7 | 6=>19342813113834066795816939 | 7=>157 | 8=>39614081257132168801067301919 | 9=>9671480343897734874315807 | 10=>1479 | 11=>2475880078570760550066961351 | 12=>9904729535286590813598185415 | 13=>36893488149633726407 | 14=>9009398282484687 | 15=>288230376290125811 | 16=>288300753485964279 | 17=>5 | 18=>324518553658426744799753561702387 | 19=>115 | 20=>157 | 21=>3 | 22=>67125703 | 23=>2163 | 24=>115 | 25=>23 | 26=>526287 | 27=>119 | 28=>2163 | 29=>1049079 | 30=>29 | 31=>537005511 | 32=>13 | 33=>5 | 34=>5 | 35=>1151 | 36=>8959 | 37=>31 | 38=>7 | 39=>159 | 40=>13 | 41=>549755821491 | 42=>2113651 | 43=>60398112711 | 44=>4303411983 | 45=>5 | 46=>5 | 47=>2113651 | 48=>8423183 | 49=>5 | 50=>144115222574037775 | 51=>8796244086543 | 52=>1116103 | 53=>8522227 | 54=>19816712040022917843543179263 | 55=>95 | 56=>4125 | 57=>39 | 58=>1050743 | 59=>33267 | 60=>132039 | 61=>157 | 62=>157 | 63=>5 | 64=>131071 | 65=>442938030551212031999 | 66=>31 | 67=>2147484479 | 68=>1116103 | 69=>19 | 70=>609885634319 | 71=>528143 | 72=>125 | 73=>4722366487267960168391 | 74=>19 | 75=>283602206479 | 76=>783 | 77=>157 | 78=>14451 | 79=>65727 | 80=>39 | 81=>1535 | 82=>1099511758963 | 83=>34029619 | 84=>25769836669 | 85=>125 | 86=>543 | 87=>255 | 88=>6297727 | 89=>975 | 90=>7 | 91=>247 | 92=>2097335 | 93=>6442696815 | 94=>307 | 95=>19 | 96=>127 | 97=>4551 | 98=>309513344275821599845253107 | 99=>2013 | 100=>1 | 101=>45671926166590716193865151621903026828528189215 | 102=>590296091842272313287 | 103=>39614081552298092776981266419 | 104=>5 | 105=>1 | 106=>2090694862423093148849536486400876297056199 | 107=>16371 | 109=>247 | 110=>269353199 | 111=>928456800891898357834874823 | 112=>281475043836915 | 113=>95 | 114=>511 | 115=>4313087 | 116=>34359787583 | 117=>51 | 118=>51 | 119=>5 | 120=>262781 | 121=>16639 | 122=>5 | 123=>1087 | 124=>9671406628976826459979775 | 125=>4503599627442175 | 126=>2147516543 | 127=>129087 | 128=>51 | 129=>116767 | 130=>1073742391 | 131=>524353 | 132=>19 | 155=>0 | _=>0
theorem AB:Tryz.prog.follows .mixedOrders=true:=by kernel_rfl
def cs0:CS:=Bn
theorem Cm:Ai Tryz.prog cs0:=A7 _
end Go.Proofs.YtcplgmgpagekfaaGreatDoor
namespace Go.Eng
open Go
noncomputable def Vr (P:Program) (ps:PS) (cs:CS) (sy:List Nat) (fn:Func) (nn F bs id:Nat) (b:Code) (l:List Code) (s:SA) (q:OS):Option (AVal × List Bool):=
 match evT P ps cs sy fn.ntmps nn F bs b s q with
 | some (.exit id',s1,q1)=>cond (Nat.beq id' id) (Jg P fn (Bl P ps cs sy fn.ntmps nn F bs l s1 q1)) none
 | _=>none
theorem F9 {P:Program}{ps:PS}{cs:CS}(hps:Bt ps cs){sy:List Nat}{fn:Func}{nt nn F bs:Nat}{l:List Code}{s:SA}{q:OS}{v:AVal}{ob:List Bool}(h:Jg P fn (Bl P ps cs sy nt nn F bs l s q)=some (v,ob)) (ha:Am ob=true):CM P fn (evS P cs nt nn F bs l s)=some v∧Am q.ob=true:=by
 cases hx:Bl P ps cs sy nt nn F bs l s q with
 | none=>rw [hx] at h; cases h
 | some r =>
  obtain ⟨x,s',q'⟩:=r
  rw [hx] at h
  have hq:q'.ob=ob:=by
   unfold Jg at h
   cases hv:CM P fn (some (x,s')) with
   | none=>simp only [hv] at h; cases h
   | some u =>
    simp only [hv,Option.some.injEq,Prod.mk.injEq] at h
    exact h.2
  have h2:=CA hps l s q x s' q' hx (by rw [hq]; exact ha)
  refine ⟨?_,h2.2⟩
  rw [h2.1]
  unfold Jg at h
  cases hv:CM P fn (some (x,s')) with
  | none=>simp only [hv] at h; cases h
  | some u =>
   simp only [hv,Option.some.injEq,Prod.mk.injEq] at h
   rw [h.1]
theorem ZN {P:Program}{ps:PS}{cs:CS}(hps:Bt ps cs){sy:List Nat}{fn:Func}{nn F bs id:Nat}{b:Code}{l:List Code}{s:SA}{os:List Bool}{vs:List AVal}{v:AVal}{ob:List Bool}(h:Vr P ps cs sy fn nn F bs id b l s ⟨os,vs,[]⟩=some (v,ob)) (ha:Am ob=true) :
  ∃ s1,evC P cs fn.ntmps nn F bs b s=some (.exit id,s1)∧CM P fn (evS P cs fn.ntmps nn F bs l s1)=some v:=by
 unfold Vr at h
 split at h
 ·rename_i id' s1 q1 he
  cases hb:Nat.beq id' id with
  | false=>rw [hb] at h; cases h
  | true =>
   rw [hb,cond_true] at h
   have:=Nat.eq_of_beq_eq_true hb
   subst this
   obtain ⟨h1,h2⟩:=F9 hps h ha
   exact ⟨s1,(BC hps b _ _ _ _ _ he h2).1,h1⟩
 ·cases h
theorem CW {P:Program}{ps:PS}{cs:CS}(hps:Bt ps cs){sy:List Nat}{nt nn F bs:Nat}{l:List Code}{s s':SA}{os:List Bool}{vs:List AVal}{ob:List Bool}(h:CF (Bl P ps cs sy nt nn F bs l s ⟨os,vs,[]⟩)=some (s',ob)) (ha:Am ob=true):evS P cs nt nn F bs l s=some (.normal,s'):=by
 unfold CF at h
 split at h
 ·rename_i s1 q he
  simp only [Option.some.injEq,Prod.mk.injEq] at h
  obtain ⟨rfl,rfl⟩:=h
  exact (CA hps _ _ _ _ _ _ he ha).1
 ·cases h
theorem Gs {P:Program}{ps:PS}{cs:CS}(hps:Bt ps cs){nn F:Nat}{f:FuncId}{fn:Func}{c:Code}{args:List AVal}{H:HL}{fr:Nat}(hf:P.funcs[f]? = some fn) (hb:fn.body=some c) (hn:Nat.ble args.length fn.ntmps=true)
  (k:Nat) {id:Nat} {b:Code} (hk:(Aw c)[k]? = some (.block id (.loop b))) (I:Nat→SA) (N:Nat) {sy0 sy1:List Nat} {os0 os1:List Bool} {vs0 vs1:List AVal} {ob0 ob1:List Bool}
  (hpre:CF (Bl P ps cs sy0 fn.ntmps nn F fr ((Aw c).take k) ⟨AY args 0,H,fr⟩ ⟨os0,vs0,[]⟩)=some (I 0,ob0)) (ha0:Am ob0=true)
  (hstep:∀ j,j < N→AU (evC P cs fn.ntmps nn F fr b) (AW P fr (I 0)) (I j)=some (I (j+1)))
  {v:AVal} (hend:Vr P ps cs sy1 fn nn F fr id b ((Aw c).drop (k+1)) (I N) ⟨os1,vs1,[]⟩=some (v,ob1)) (ha1:Am ob1=true) (hF:N < F):(Au P cs nn F f args H fr).map (·.1)=some v:=by
 obtain ⟨s1,h1,h2⟩:=ZN hps hend ha1
 exact HB hf hb hn k hk I N (CW hps hpre ha0) hstep h1 hF h2
theorem JZ {c:List AVal}{off:Nat}{v:AVal}(h:c[off]? = some v) (hv:eqS v v=true):isAt c off v=true:=by
 unfold isAt
 rw [h]; exact hv
end Go.Eng
namespace Go.Eng
open Go
theorem UG {P:Program}{cs:CS}{nt nn F bs:Nat}{l:List Code}{k id:Nat}{b:Code}(hk:l[k]? = some (.block id (.loop b))) (I:Nat→SA) (N:Nat){s1:SA}(hstep:∀ k,k < N→AU (evC P cs nt nn F bs b) (AW P bs (I 0)) (I k)=some (I (k+1)))
  (hend:evC P cs nt nn F bs b (I N)=some (.ret,s1)) (hF:N < F):evS P cs nt nn F bs (l.drop k) (I 0)=some (.ret,s1):=by
 have hlt:=(List.getElem?_eq_some_iff.1 hk).1
 have e:l.drop k=.block id (.loop b)::l.drop (k+1):=by
  rw [List.drop_eq_getElem_cons hlt]
  rw [List.getElem?_eq_getElem hlt] at hk
  rw [Option.some.inj hk]
 rw [e]
 simp only [evS,NS I N (fun k h=>Jl (hstep k h)) hend hF]
end Go.Eng
namespace Go.Eng
open Go
def Ah (n:Nat) (f:Nat→UInt64):List AVal:=(List.range n).map fun j=>.u64 (f j)
def Aq (n:Nat) (f:Nat→UInt8):List AVal:=(List.range n).map fun j=>.u8 (f j)
def B0 {α:Type}(w:Nat→α) (k:Nat) (v:α):Nat→α:=fun j=>if j=k then v else w j
theorem B9 {n:Nat}{f:Nat→UInt64}:(Ah n f).length=n:=by simp [Ah]
theorem RH {n:Nat}{f:Nat→UInt8}:(Aq n f).length=n:=by simp [Aq]
theorem Ek {n i:Nat}(f:Nat→UInt64) (h:i < n):(Ah n f)[i]? = some (.u64 (f i)):=by simp [Ah,h]
theorem UZ {n i:Nat}(f:Nat→UInt8) (h:i < n):(Aq n f)[i]? = some (.u8 (f i)):=by simp [Aq,h]
theorem Tv (i:Nat):0+((i:Int).toNat * 1)=i:=by simp
theorem M8 (x:UInt64):eqS (.u64 x) (.u64 x)=true:=by simp [eqS]
theorem Zw (k:IntKind) (x:Int):eqS (.int k x) (.int k x)=true:=by simp [eqS]
theorem Tm {x y:Int}(h:IntKind.wrap .i64 x=y):eqS (.int .i64 (IntKind.wrap .i64 x)) (.int .i64 y)=true:=by rw [h]; exact Zw ..
theorem V7 {c:List AVal}{i:Nat}{x:UInt64}(h:c[i]? = some (.u64 x)):isAt c (0+((i:Int).toNat * 1)) (.u64 x)=true:=by
 rw [Tv]; exact JZ h (M8 x)
theorem F4 {n i:Nat}(f:Nat→UInt64) (h:i < n):isAt (Ah n f) (0+((i:Int).toNat * 1)) (.u64 (f i))=true:=V7 (Ek f h)
theorem Qt {n i:Nat}(f:Nat→UInt64) (v:UInt64) (h:i < n):(Ah n f).set i (.u64 v)=Ah n (B0 f i v):=by
 apply List.ext_getElem?
 intro j
 by_cases hj:j < n
 ·rw [Ek _ hj]
  by_cases e:i=j
  ·subst e
   rw [List.getElem?_set_self (by rw [B9]; exact h)]
   simp [B0]
  ·rw [List.getElem?_set_ne e,Ek _ hj]
   simp [B0,Ne.symm e]
 ·rw [List.getElem?_eq_none (by rw [List.length_set,B9]; omega),List.getElem?_eq_none (by rw [B9]; omega)]
theorem Ww {c:List AVal}{i:Nat}(v:AVal) (hv:AA v=[v]) (h:i < c.length):B4 c i (AA v)=c.set i v:=by
 unfold B4
 rw [hv,List.set_eq_take_append_cons_drop,if_pos h]
 simp
theorem FD {n i:Nat}(f:Nat→UInt64) (v:UInt64) (h:i < n):B4 (Ah n f) (0+((i:Int).toNat * 1)) (AA (.u64 v))=Ah n (B0 f i v):=by
 rw [Tv,Ww _ rfl (by rw [B9]; exact h),Qt f v h]
theorem FY {n i:Nat}(f:Nat→UInt64) (h:i < n):(Ah n f).getD i (.bool false)=.u64 (f i):=by
 rw [List.getD_eq_getElem?_getD,Ek f h]; rfl
theorem Ny {n:Nat}{f g:Nat→UInt64}(h:∀ i,i < n→f i=g i):Ah n f=Ah n g:=by
 unfold Ah
 exact List.map_congr_left fun i hi=>by rw [h i (List.mem_range.1 hi)]
theorem NL {n:Nat}{f g:Nat→UInt8}(h:∀ i,i < n→f i=g i):Aq n f=Aq n g:=by
 unfold Aq
 exact List.map_congr_left fun i hi=>by rw [h i (List.mem_range.1 hi)]
end Go.Eng
namespace Go.Eng
open Go
def ae4 (n:Nat) (k:(Nat→Option AObj)→List AVal→Option (AVal × List AVal)):EffA:=
 .eff fun _ η=>match η n with
  | some (.cells false c)=>match k η c with
   | some (v,c')=>some (v,[(n,some (.cells false c'))])
   | none=>none
  | _=>none
theorem Bc {P:Program}{f:FuncId}{g:List AVal→Option (EffA × Bool)}(h:∀ args e,g args=some (e,true)→AG P f args e):Ai P (csP (Al f g)):=by
 intro f' args e he
 unfold csP Al at he
 cases hf:Nat.beq f' f with
 | false=>rw [hf] at he; cases he
 | true =>
  rw [hf] at he
  have hf:=Nat.eq_of_beq_eq_true hf
  subst hf
  simp only at he
  cases hg:g args with
  | none=>rw [hg] at he; cases he
  | some r =>
   obtain ⟨e',c⟩:=r
   rw [hg] at he
   cases c with
   | false=>cases he
   | true=>cases he; exact h args _ hg
def gU (c:List AVal) (j:Nat):UInt64:=match c[j]? with
 | some (.u64 x)=>x
 | _=>0
def gB (c:List AVal) (j:Nat):UInt8:=match c[j]? with
 | some (.u8 x)=>x
 | _=>0
def shU:Nat→List AVal→Option (List AVal)
 | 0,c=>some c
 | n+1,.u64 _::c=>shU n c
 | _+1,_=>none
def shB:Nat→List AVal→Option (List AVal)
 | 0,c=>some c
 | n+1,.u8 _::c=>shB n c
 | _+1,_=>none
theorem OO (n:Nat) (f:Nat→UInt64):Ah (n+1) f=.u64 (f 0)::Ah n fun j=>f (j+1):=by
 unfold Ah
 rw [List.range_succ_eq_map,List.map_cons,List.map_map]; rfl
theorem Qh (n:Nat) (f:Nat→UInt8):Aq (n+1) f=.u8 (f 0)::Aq n fun j=>f (j+1):=by
 unfold Aq
 rw [List.range_succ_eq_map,List.map_cons,List.map_map]; rfl
theorem XN:∀ {n:Nat}{c r:List AVal},shU n c=some r→c=Ah n (gU c)++r
 | 0,c,r,h=>by cases h; rfl
 | n+1,[],r,h=>by cases h
 | n+1,.u64 x::c,r,h=>by
  have:=XN (n:=n) (c:=c) h
  rw [OO]
  have e:Ah n (fun j=>gU (.u64 x::c) (j+1))=Ah n (gU c):=Ny fun i _=>by unfold gU; simp
  rw [e]
  show AVal.u64 x::c=AVal.u64 x::(Ah n (gU c)++r)
  rw [← this]
 | n+1,.bool _::c,r,h | n+1,.u8 _::c,r,h | n+1,.u32 _::c,r,h | n+1,.b64 _::c,r,h | n+1,.int _ _::c,r,h | n+1,.str _::c,r,h | n+1,.nilPtr::c,r,h | n+1,.ptr _ _::c,r,h | n+1,.nilSlice::c,r,h
 | n+1,.slice _ _ _ _::c,r,h | n+1,.nilMap::c,r,h | n+1,.map _::c,r,h | n+1,.nilFunc::c,r,h | n+1,.fn _ _::c,r,h | n+1,.nilIface::c,r,h | n+1,.iface _ _::c,r,h | n+1,.agg _::c,r,h | n+1,.tup _::c,r,h | n+1,.tp _ _ _::c,r,h | n+1,.mth0 _::c,r,h | n+1,.mth _ _ _::c,r,h=>by cases h
theorem VX:∀ {n:Nat}{c r:List AVal},shB n c=some r→c=Aq n (gB c)++r
 | 0,c,r,h=>by cases h; rfl
 | n+1,[],r,h=>by cases h
 | n+1,.u8 x::c,r,h=>by
  have:=VX (n:=n) (c:=c) h
  rw [Qh]
  have e:Aq n (fun j=>gB (.u8 x::c) (j+1))=Aq n (gB c):=NL fun i _=>by unfold gB; simp
  rw [e]
  show AVal.u8 x::c=AVal.u8 x::(Aq n (gB c)++r)
  rw [← this]
 | n+1,.bool _::c,r,h | n+1,.u64 _::c,r,h | n+1,.u32 _::c,r,h | n+1,.b64 _::c,r,h | n+1,.int _ _::c,r,h | n+1,.str _::c,r,h | n+1,.nilPtr::c,r,h | n+1,.ptr _ _::c,r,h | n+1,.nilSlice::c,r,h
 | n+1,.slice _ _ _ _::c,r,h | n+1,.nilMap::c,r,h | n+1,.map _::c,r,h | n+1,.nilFunc::c,r,h | n+1,.fn _ _::c,r,h | n+1,.nilIface::c,r,h | n+1,.iface _ _::c,r,h | n+1,.agg _::c,r,h | n+1,.tup _::c,r,h | n+1,.tp _ _ _::c,r,h | n+1,.mth0 _::c,r,h | n+1,.mth _ _ _::c,r,h=>by cases h
def nU (k:Nat) (f:Nat→UInt64):Nat→UInt64:=fun j=>if j < k then f j else 0
def nB (k:Nat) (f:Nat→UInt8):Nat→UInt8:=fun j=>if j < k then f j else 0
theorem Bs (k:Nat) (f:Nat→UInt64):gU (Ah k f)=nU k f:=by
 funext j
 unfold gU nU
 by_cases h:j < k
 ·rw [Ek f h,if_pos h]
 ·rw [List.getElem?_eq_none (by rw [B9]; omega),if_neg h]
theorem UQ (k:Nat) (f:Nat→UInt8):gB (Aq k f)=nB k f:=by
 funext j
 unfold gB nB
 by_cases h:j < k
 ·rw [UZ f h,if_pos h]
 ·rw [List.getElem?_eq_none (by rw [RH]; omega),if_neg h]
end Go.Eng
namespace Go.Eng
open Go
def adF (k:(Nat→Option AObj)→Option AVal):EffA:=
 .eff fun _ η=>match k η with
  | some v=>some (v,[])
  | none=>none
theorem QT {P:Program}{cs:CS}(hcs:Ai P cs) (hm:P.follows .mixedOrders=true){f:FuncId}{args:List AVal}(hcan:GV P.globals.size [] args=some (args,[])){k:(Nat→Option AObj)→Option AVal}
  (h:∀ η v,k η=some v→ltV 0 v=true∧∃ F nn H' fr',Au P cs nn F f args (Cs η P.globals.size 0) P.globals.size=some (v,H',fr')):AG P f args (adF k):=by
 intro σ args' H w base v0 H0 hl hg hH happ hfree
 unfold adF EffA.app at happ
 simp only at happ
 cases hk:k (Aa H) with
 | none=>rw [hk] at happ; cases happ
 | some v =>
  rw [hk] at happ
  simp only [Option.some.injEq,Prod.mk.injEq] at happ
  obtain ⟨rfl,rfl⟩:=happ
  obtain ⟨h3,F,nn,H',fr',h4⟩:=h (Aa H) v hk
  refine D0 hcs hm (nn:=nn) (F:=F) hcan σ args' H w base v _ hl hg hH ?_ hfree
  unfold MK EffA.app
  simp only [DR,List.append_nil]
  have h4':Au P cs nn F f args (Cs (Aa H) P.globals.size 0) (P.globals.size+([]:List Nat).length)=some (v,H',fr'):=h4
  rw [h4']
  simp only [DN,h3,Bu,cond_true,Bool.and_self]
end Go.Eng
namespace Go.Eng
open Go
end Go.Eng
namespace Go.Eng
open Go
theorem Q5 {m n:Nat}{v:AVal}(h:ltS 0 v=true):F7 m n v=some v:=by
 have h0:∀ n:Nat,Nat.ble (n+1) 0=false:=fun n=>rfl
 cases v <;> first | rfl | (simp only [ltS,h0] at h; done) | skip
 all_goals simp only [ltS,h0] at h
 all_goals first | cases h | skip
 all_goals (rename_i cs; cases cs <;> first | rfl | cases h)
theorem Kr {m n:Nat}:∀ {c:List AVal},ltL 0 c=true→JR m n c=some c
 | [],_=>rfl
 | v::c,h=>by
  simp only [ltL] at h
  cases hv:ltS 0 v <;> rw [hv] at h <;> simp only [cond_true,cond_false] at h
  ·cases h
  ·simp only [JR,Q5 hv,Kr h]
def agT (k:Nat):List Nat→Bool
 | []=>false
 | m::l=>cond (Nat.beq k m) true (agT k l)
def Tt (dl:List Nat) (m n:Nat):HL→Option (HL × List Bool)
 | []=>some ([],[])
 | (k,.cells ro c)::l=>match Kk m n k,Tt dl m n l with
  | some k',some (l',ob)=>cond (agT k dl) (some ((k',.cells ro c)::l',ltL 0 c::ob)) (match JR m n c with
   | some c'=>some ((k',.cells ro c')::l',ob)
   | none=>none)
  | _,_=>none
theorem J8 {dl:List Nat}{m n:Nat}:∀ {H H':HL}{ob:List Bool},Tt dl m n H=some (H',ob)→Am ob=true→Sq m n H=some H'
 | [],H',ob,h,_=>by cases h; rfl
 | (k,.cells ro c)::l,H',ob,h,ha=>by
  simp only [Tt] at h
  split at h
  ·rename_i k' l' ob' h1 h2
   cases hm:agT k dl <;> rw [hm] at h <;> simp only [cond_true,cond_false] at h
   ·split at h
    ·rename_i c' hc
     cases h
     simp only [Sq,h1,hc,J8 h2 ha]
    ·cases h
   ·cases h
    have:=A1 ha
    simp only [Sq,h1,Kr this.1,J8 h2 this.2]
  ·cases h
def Yz (dl:List Nat) (P:Program) (bs m n:Nat) (s:SA):Option (SA × List Bool):=
 cond (Nat.ble bs m && Nat.ble bs n && Nat.ble P.globals.size bs && Nat.ble (n+1) s.fr && !(Nat.beq m n)) (match Y4 m n s.T,Tt dl m n (Hd s.H n) with
  | some T,some (H,ob)=>some (⟨T,H,s.fr⟩,ob)
  | _,_=>none) none
theorem YM {dl:List Nat}{P:Program}{bs m n:Nat}{s s':SA}{ob:List Bool}(h:Yz dl P bs m n s=some (s',ob)) (ha:Am ob=true):Ws P bs m n s=some s':=by
 unfold Yz at h
 unfold Ws abX
 simp only at h ⊢
 cases hc:(Nat.ble bs m && Nat.ble bs n && Nat.ble P.globals.size bs && Nat.ble (n+1) s.fr && !(Nat.beq m n)) <;> rw [hc] at h <;> simp only [cond_true,cond_false] at h ⊢
 ·cases h
 ·split at h
  ·rename_i T H ob' h1 h2
   cases h
   simp only [h1,J8 h2 ha]
  ·cases h
def Gh (dl:List Nat) (P:Program) (bs:Nat):List (Nat × Nat)→SA→List Bool→Option (SA × List Bool)
 | [],s,ob=>some (s,ob)
 | (m,n)::l,s,ob=>match Yz dl P bs m n s with
  | some (s',ob')=>Gh dl P bs l s' (ob' ++ ob)
  | none=>none
theorem Js:∀ {a b:List Bool},Am (a++b)=true→Am a=true∧Am b=true
 | [],b,h=>⟨rfl,h⟩
 | x::a,b,h=>by
  have h1:=A1 (b:=x) (l:=a++b) h
  have h2:=Js h1.2
  refine ⟨?_,h2.2⟩
  simp only [Am,h1.1,h2.1,cond_true]
theorem EJ {dl:List Nat}{P:Program}{bs:Nat}:∀ {l:List (Nat × Nat)}{s s':SA}{ob ob':List Bool},Gh dl P bs l s ob=some (s',ob')→Am ob'=true→BS P bs l s=s'∧Am ob=true
 | [],s,s',ob,ob',h,ha=>by cases h; exact ⟨rfl,ha⟩
 | (m,n)::l,s,s',ob,ob',h,ha=>by
  simp only [Gh] at h
  split at h
  ·rename_i s1 ob1 h1
   obtain ⟨e1,e2⟩:=EJ h ha
   have e3:=Js e2
   refine ⟨?_,e3.2⟩
   simp only [BS,YM h1 e3.1]
   exact e1
  ·cases h
end Go.Eng
namespace Go.Eng
open Go
def TU (dl:List Nat) (P:Program) (bs:Nat) (s0 s:SA):Option (SA × List Bool):=
 match Gh dl P bs (Cd s0.fr 0 s0.T s.T) s [] with
 | some (r,ob)=>some (⟨BU s0.T r.T,BQ s0.H r.H++CD s0.H s0.fr r.H,s0.fr⟩,ob)
 | none=>none
theorem YP {dl:List Nat}{P:Program}{bs:Nat}{s0 s s1:SA}{ob:List Bool}(h:TU dl P bs s0 s=some (s1,ob)) (ha:Am ob=true) (ho:okS P s1=true):AW P bs s0 s=s1:=by
 unfold TU at h
 split at h
 ·rename_i r ob' hr
  simp only [Option.some.injEq,Prod.mk.injEq] at h
  obtain ⟨h1,rfl⟩:=h
  obtain ⟨e1,_⟩:=EJ hr ha
  refine OY ?_ ho
  unfold Uh
  simp only
  rw [e1]
  exact h1
 ·cases h
theorem R7 {P:Program}{cs:CS}{nt nn F bs:Nat}{b:Code}{s0 s s1 s2:SA}{dl:List Nat}{ob:List Bool}(he:evS P cs nt nn F bs (Aw b) s=some (.normal,s1)) (hh:TU dl P bs s0 s1=some (s2,ob)) (ha:Am ob=true) (ho:okS P s2=true) :
  AU (evC P cs nt nn F bs b) (AW P bs s0) s=some s2:=by
 simp only [AU,Ca,he,YP hh ha ho]
end Go.Eng
namespace Go.Eng
open Go
theorem acF {i:Nat}(h:i < 1000):eqS (.int .i64 (IntKind.wrap .i64 ((i:Int)+1))) (.int .i64 ((i+1:Nat):Int))=true:=Tm (by rw [CK _ (by omega) (by omega)]; omega)
theorem XU {n i:Nat}{x:Nat→UInt64}(h:i < n):LC ((Ah n x).getD 0 (.bool false)) ((Ah n x).getD ((i:Int).toNat * 1) (.bool false))=.u64 (x i):=by
 have e:(i:Int).toNat * 1=i:=by simp
 rw [e,FY x h,FY x (by omega:0 < n)]; rfl
theorem air {i k:Nat}(h:i < k):Nat.blt ((i:Int).toNat * 1) k=true:=by simp [h]
theorem acq {i k:Nat}(h:i < k):Nat.ble (0+(i:Int).toNat * 1+1) k=true:=by simp; omega
theorem Dw (n k:Nat) (f:Nat→UInt64):ltL k (Ah n f)=true:=by
 have:Ah n f=((List.range n).map f).map .u64:=by simp [Ah]
 rw [this]; exact Tr ..
theorem P1 (n k:Nat) (f:Nat→UInt8):ltL k (Aq n f)=true:=by
 have:Aq n f=((List.range n).map f).map .u8:=by simp [Aq]
 rw [this]; exact FJ ..
theorem aeR (i:Nat):decide (0≤(i:Int))=true:=by simp
def FL (c:List AVal):Bool:=match shB c.length c with
 | some []=>true
 | _=>false
theorem Vf {c:List AVal}(h:FL c=true):c=Aq c.length (gB c):=by
 unfold FL at h
 split at h
 ·rename_i hs
  have:=VX hs
  rwa [List.append_nil] at this
 ·cases h
theorem Zr (k:Nat) (c:List UInt8):ltL k (c.map AVal.u8)=true:=FJ ..
theorem ac6 (c:List UInt8) (i:Nat):gB (c.map .u8) i=c.getD i 0:=by
 unfold gB
 rw [List.getElem?_map,List.getD_eq_getElem?_getD]
 cases c[i]? <;> rfl
theorem RX (c:List UInt8):FL (c.map AVal.u8)=true:=by
 have:∀ (l:List UInt8),shB (l.map AVal.u8).length (l.map AVal.u8)=some []:=by
  intro l
  induction l with
  | nil=>rfl
  | cons x l ih=>simp only [List.map_cons,List.length_cons,shB]; exact ih
 unfold FL
 rw [this]
theorem BD {x:Option (AVal × HL × Nat)}{v:AVal}(h:x.map (·.1)=some v):∃ H' fr',x=some (v,H',fr'):=by
 cases x with
 | none=>cases h
 | some r =>
  obtain ⟨a,b,c⟩:=r
  simp only [Option.map_some,Option.some.injEq] at h
  subst h
  exact ⟨b,c,rfl⟩
def Rx (k:Nat):AVal→Option (Nat→UInt64)
 | .agg a=>match shU k a with
  | some []=>some (gU a)
  | _=>none
 | _=>none
theorem NJ {k:Nat}{v:AVal}{a:Nat→UInt64}(h:Rx k v=some a):v=.agg (Ah k a):=by
 unfold Rx at h
 split at h
 ·split at h
  ·rename_i hs
   cases h
   have:=XN hs
   rw [List.append_nil] at this
   exact congrArg AVal.agg this
  ·cases h
 ·cases h
theorem abE (x:UInt64) (k:Nat) (hk:k < 64) (h:x.toNat * 2 ^ k < 2 ^ 64):(AI x k).toNat=x.toNat * 2 ^ k:=by
 unfold AI
 rw [Nat.ble_eq_true_of_le (show k≤63 by omega),cond_true,UInt64.toNat_shiftLeft,UInt64.toNat_ofNat',Nat.mod_eq_of_lt (show k < 2 ^ 64 by omega),Nat.mod_eq_of_lt hk,Nat.shiftLeft_eq,Nat.mod_eq_of_lt h]
theorem abP (x:UInt64) (k:Nat) (hk:k < 64):(Ad x k).toNat=x.toNat / 2 ^ k:=by
 unfold Ad
 rw [Nat.ble_eq_true_of_le (show k≤63 by omega),cond_true,UInt64.toNat_shiftRight,UInt64.toNat_ofNat',Nat.mod_eq_of_lt (show k < 2 ^ 64 by omega),Nat.mod_eq_of_lt hk,Nat.shiftRight_eq_div_pow]
end Go.Eng
namespace Go.Eng
open Go
end Go.Eng
namespace Go.Eng
open Go
inductive RN (ρ:Nat→Nat→Prop):AVal→AVal→Prop where
 | same {v:AVal} (h:ltV 0 v=true):RN ρ v v
 | ptr {k n off:Nat} (h:ρ k n):RN ρ (.ptr k off) (.ptr n off)
 | slice {k n off len esz:Nat} (h:ρ k n):RN ρ (.slice k off len esz) (.slice n off len esz)
 | map {k n:Nat} (h:ρ k n):RN ρ (.map k) (.map n)
 | fn {f:FuncId} {c c':List AVal} (hs:c.length=c'.length) (h:∀ (i:Nat) v v',c[i]? = some v→c'[i]? = some v'→RN ρ v v'):RN ρ (.fn f c) (.fn f c')
 | iface {t:TypeId} {v v':AVal} (h:RN ρ v v'):RN ρ (.iface t v) (.iface t v')
 | agg {c c':List AVal} (hs:c.length=c'.length) (h:∀ (i:Nat) v v',c[i]? = some v→c'[i]? = some v'→RN ρ v v'):RN ρ (.agg c) (.agg c')
 | tup {c c':List AVal} (hs:c.length=c'.length) (h:∀ (i:Nat) v v',c[i]? = some v→c'[i]? = some v'→RN ρ v v'):RN ρ (.tup c) (.tup c')
 | tp {k n:Nat} {t:TypeId} {b:Bool} (h:ρ k n):RN ρ (.tp k t b) (.tp n t b)
 | mth {f:FuncId} {k n off:Nat} (h:ρ k n):RN ρ (.mth f k off) (.mth f n off)
def RL (ρ:Nat→Nat→Prop) (c c':List AVal):Prop:=c.length=c'.length∧∀ (i:Nat) v v',c[i]? = some v→c'[i]? = some v'→RN ρ v v'
theorem RL.nil (ρ:Nat→Nat→Prop):RL ρ [] []:=⟨rfl,fun i v v' h=>by simp at h⟩
theorem RL.cons {ρ:Nat→Nat→Prop}{v v':AVal}{c c':List AVal}(h:RN ρ v v') (hc:RL ρ c c'):RL ρ (v::c) (v'::c'):=by
 refine ⟨by simp [hc.1],fun i u u' h1 h2 => ?_⟩
 cases i with
 | zero=>simp at h1 h2; subst h1; subst h2; exact h
 | succ i=>exact hc.2 i u u' (by simpa using h1) (by simpa using h2)
theorem Nx {v:AVal}(h:ltS 0 v=true):ltV 0 v=true:=by
 cases v with
 | agg l=>cases l with
  | nil=>rfl
  | cons x l=>cases h
 | tup l=>cases l with
  | nil=>rfl
  | cons x l=>cases h
 | fn f l=>cases l with
  | nil=>rfl
  | cons x l=>cases h
 | iface t v=>cases h
 | _=>exact h
theorem E9 {c c':List AVal}(hs:c.length=c'.length){i:Nat}{x:AVal}(h:c'[i]? = some x):∃ y,c[i]? = some y:=
 ⟨_,List.getElem?_eq_getElem (by rw [hs]; exact (List.getElem?_eq_some_iff.1 h).1)⟩
theorem RL.same {ρ:Nat→Nat→Prop}{c:List AVal}(h:ltL 0 c=true):RL ρ c c:=
 ⟨rfl,fun i v v' h1 h2=>by
  rw [h1] at h2
  cases h2
  exact .same (Nx (EL h v (List.mem_of_getElem? h1)))⟩
theorem RL.append {ρ:Nat→Nat→Prop}{a a' b b':List AVal}(h:RL ρ a a') (k:RL ρ b b'):RL ρ (a++b) (a' ++ b'):=by
 refine ⟨by simp [h.1,k.1],fun i u u' h1 h2 => ?_⟩
 by_cases hi:i < a.length
 ·rw [List.getElem?_append_left hi] at h1
  rw [List.getElem?_append_left (by rw [← h.1]; exact hi)] at h2
  exact h.2 i u u' h1 h2
 ·rw [List.getElem?_append_right (by omega)] at h1
  rw [List.getElem?_append_right (by rw [← h.1]; omega),← h.1] at h2
  exact k.2 _ u u' h1 h2
theorem RN.aggL {ρ:Nat→Nat→Prop}{c c':List AVal}(h:RL ρ c c'):RN ρ (.agg c) (.agg c'):=.agg h.1 h.2
theorem RN.tupL {ρ:Nat→Nat→Prop}{c c':List AVal}(h:RL ρ c c'):RN ρ (.tup c) (.tup c'):=.tup h.1 h.2
theorem RN.fnL {ρ:Nat→Nat→Prop}{f:FuncId}{c c':List AVal}(h:RL ρ c c'):RN ρ (.fn f c) (.fn f c'):=.fn h.1 h.2
def IY (ρ:Nat→Nat→Prop) (σ σ':Sig):Prop:=∀ k n,ρ k n→∀ p,σ k=some p→σ' n=some p
theorem RN.vr {ρ:Nat→Nat→Prop}{σ σ':Sig}(hk:IY ρ σ σ'){c a:AVal}(h:RN ρ c a):∀ {v:Value},VR σ c v→VR σ' a v:=by
 induction h with
 | same h=>intro v hv; exact (Hn h hv).mono fun n p hp=>by simp [cut] at hp
 | ptr h=>intro v hv; cases hv with | ptr hp=>exact .ptr (hk _ _ h _ hp)
 | slice h=>intro v hv; cases hv with | slice hp a b c=>exact .slice (hk _ _ h _ hp) a b c
 | map h=>intro v hv; cases hv with | map hp=>exact .map (hk _ _ h _ hp)
 | mth h=>intro v hv; cases hv with | mth hp=>exact .mth (hk _ _ h _ hp)
 | tp h =>
  intro v hv
  cases hv with
  | tp0 hp a b c=>exact .tp0 (hk _ _ h _ hp) a b c
  | tp1 hp a b c=>exact .tp1 (hk _ _ h _ hp) a b c
 | fn hs h ih =>
  intro v hv
  cases hv with
  | fn a b =>
   refine .fn (hs ▸ a) fun i x x' h1 h2 => ?_
   obtain ⟨y,hy⟩:=E9 hs h1
   exact ih i y x hy h1 (b i y x' hy h2)
 | iface h ih=>intro v hv; cases hv with | iface hp=>exact .iface (ih hp)
 | agg hs h ih =>
  intro v hv
  cases hv with
  | agg a b =>
   refine .agg (hs ▸ a) fun i x x' h1 h2 => ?_
   obtain ⟨y,hy⟩:=E9 hs h1
   exact ih i y x hy h1 (b i y x' hy h2)
 | tup hs h ih =>
  intro v hv
  cases hv with
  | tup a b =>
   refine .tup (hs ▸ a) fun i x x' h1 h2 => ?_
   obtain ⟨y,hy⟩:=E9 hs h1
   exact ih i y x hy h1 (b i y x' hy h2)
theorem RN.vr' {ρ:Nat→Nat→Prop}{σ σ':Sig}(hk:IY (fun k n=>ρ n k) σ σ'){c a:AVal}(h:RN ρ c a):∀ {v:Value},VR σ a v→VR σ' c v:=by
 induction h with
 | same h=>intro v hv; exact (Hn h hv).mono fun n p hp=>by simp [cut] at hp
 | ptr h=>intro v hv; cases hv with | ptr hp=>exact .ptr (hk _ _ h _ hp)
 | slice h=>intro v hv; cases hv with | slice hp a b c=>exact .slice (hk _ _ h _ hp) a b c
 | map h=>intro v hv; cases hv with | map hp=>exact .map (hk _ _ h _ hp)
 | mth h=>intro v hv; cases hv with | mth hp=>exact .mth (hk _ _ h _ hp)
 | tp h =>
  intro v hv
  cases hv with
  | tp0 hp a b c=>exact .tp0 (hk _ _ h _ hp) a b c
  | tp1 hp a b c=>exact .tp1 (hk _ _ h _ hp) a b c
 | fn hs h ih =>
  intro v hv
  cases hv with
  | fn a b =>
   refine .fn (hs.symm ▸ a) fun i x x' h1 h2 => ?_
   obtain ⟨y,hy⟩:=E9 hs.symm h1
   exact ih i x y h1 hy (b i y x' hy h2)
 | iface h ih=>intro v hv; cases hv with | iface hp=>exact .iface (ih hp)
 | agg hs h ih =>
  intro v hv
  cases hv with
  | agg a b =>
   refine .agg (hs.symm ▸ a) fun i x x' h1 h2 => ?_
   obtain ⟨y,hy⟩:=E9 hs.symm h1
   exact ih i x y h1 hy (b i y x' hy h2)
 | tup hs h ih =>
  intro v hv
  cases hv with
  | tup a b =>
   refine .tup (hs.symm ▸ a) fun i x x' h1 h2 => ?_
   obtain ⟨y,hy⟩:=E9 hs.symm h1
   exact ih i x y h1 hy (b i y x' hy h2)
def RO (ρ:Nat→Nat→Prop) (o o':AObj):Prop:=∃ ro c c',o=.cells ro c∧o'=.cells ro c'∧RL ρ c c'
theorem RO.orel {ρ:Nat→Nat→Prop}{σ σ':Sig}(hk:IY ρ σ σ'){o o':AObj}(h:RO ρ o o'){w:World}{p:Place}(ho:Cu σ w p o):Cu σ' w p o':=by
 obtain ⟨ro,c,c',rfl,rfl,hl⟩:=h
 obtain ⟨d,t,fz,h1,h2,h3,h4⟩:=ho
 refine ⟨d,t,fz,h1,h2,fun i v hv => ?_,h4⟩
 obtain ⟨y,hy⟩:∃ y,c[i]? = some y:=⟨_,List.getElem?_eq_getElem (by rw [hl.1]; exact (List.getElem?_eq_some_iff.1 hv).1)⟩
 obtain ⟨v',a,b⟩:=h3 i y hy
 exact ⟨v',a,(hl.2 i y v hy hv).vr hk b⟩
theorem RO.orel' {ρ:Nat→Nat→Prop}{σ σ':Sig}(hk:IY (fun k n=>ρ n k) σ σ'){o o':AObj}(h:RO ρ o o'){w:World}{p:Place}(ho:Cu σ w p o'):Cu σ' w p o:=by
 obtain ⟨ro,c,c',rfl,rfl,hl⟩:=h
 obtain ⟨d,t,fz,h1,h2,h3,h4⟩:=ho
 refine ⟨d,t,fz,h1,h2,fun i v hv => ?_,h4⟩
 obtain ⟨y,hy⟩:∃ y,c'[i]? = some y:=⟨_,List.getElem?_eq_getElem (by rw [← hl.1]; exact (List.getElem?_eq_some_iff.1 hv).1)⟩
 obtain ⟨v',a,b⟩:=h3 i y hy
 exact ⟨v',a,(hl.2 i v y hv hy).vr' hk b⟩
theorem RO.ro {ρ:Nat→Nat→Prop}{o o':AObj}(h:RO ρ o o'):o.ro=o'.ro:=by
 obtain ⟨ro,c,c',rfl,rfl,_⟩:=h
 rfl
theorem appU_at:∀ {us:List (Nat × Option AObj)}{H:HL}{m:Nat},(us.map (·.1)).Nodup→(∃ x,(m,x) ∈ us∧Aa (Bo H us) m=x) ∨ ((∀ x,(m,x) ∉ us)∧Aa (Bo H us) m=Aa H m)
 | [],H,m,_=>.inr ⟨fun x h=>(by cases h),rfl⟩
 | (k,x)::us,H,m,hn=>by
  simp only [List.map_cons,List.nodup_cons] at hn
  have hstep:∀ H1:HL,(Aa H1 k=x)→(∀ j,j ≠ k→Aa H1 j=Aa H j)→Bo H ((k,x)::us)=Bo H1 us→(∃ x',(m,x') ∈ (k,x)::us∧Aa (Bo H ((k,x)::us)) m=x') ∨ ((∀ x',(m,x') ∉ (k,x)::us)∧Aa (Bo H ((k,x)::us)) m=Aa H m):=fun H1 e1 e2 e3=>by
   rw [e3]
   rcases appU_at (us:=us) (H:=H1) (m:=m) hn.2 with ⟨x',h1,h2⟩ | ⟨h1,h2⟩
   ·exact .inl ⟨x',List.mem_cons_of_mem _ h1,h2⟩
   ·by_cases c:m=k
    ·subst c
     exact .inl ⟨x,List.mem_cons_self ..,by rw [h2,e1]⟩
    ·refine .inr ⟨fun x' h => ?_,by rw [h2,e2 m c]⟩
     rcases List.mem_cons.1 h with h | h
     ·cases h; exact c rfl
     ·exact h1 x' h
  cases x with
  | some o=>exact hstep (AX H k o) (by rw [Az,V3]) (fun j hj=>by rw [Az,IS _ _ (Ne.symm hj)]) rfl
  | none=>exact hstep (Hd H k) (by rw [DF,if_pos rfl]) (fun j hj=>by rw [DF,if_neg (Ne.symm hj)]) rfl
def ρ0 (G:Nat) (ns:List Nat) (k n:Nat):Prop:=(k < G∧n=k) ∨ ∃ i,k=G+i∧ns[i]? = some n
def ρ1 (G:Nat) (ns ks:List Nat) (base:Nat) (k n:Nat):Prop:=ρ0 G ns k n ∨ ∃ j,ks[j]? = some k∧n=base+j
def ake (η:Nat→Option AObj) (args:List AVal) (n:Nat):Prop:=(∃ o,η n=some o) ∨ (∃ (m:Nat) (fz:Bool) (c:List AVal) (i:Nat),η m=some (.cells fz c)∧((∃ off len esz,c[i]? = some (AVal.slice n off len esz)) ∨ ∃ off,c[i]? = some (AVal.ptr n off))) ∨ (∃ (i:Nat) (off:Nat),args[i]? = some (AVal.ptr n off)) ∨ ∃ (i off len esz:Nat),args[i]? = some (AVal.slice n off len esz)
structure Deep (P:Program) (cs:CS) (f:FuncId) (args:List AVal) (base:Nat) (η:Nat→Option AObj) (v:AVal) (us:List (Nat × Option AObj)) where
 nn:Nat
 F:Nat
 ns:List Nat
 ks:List Nat
 cargs:List AVal
 Hc:HL
 fr:Nat
 v0:AVal
 H':HL
 fr':Nat
 hns:ns.Nodup
 hη:∀ n,n ∈ ns→ake η args n
 hargs:RL (ρ0 P.globals.size ns) cargs args
 hblk:∀ k o,Aa Hc k=some o→∃ n o',ρ0 P.globals.size ns k n∧η n=some o'∧RO (ρ0 P.globals.size ns) o o'∧(k < P.globals.size→o.ro=true)
 hfr:P.globals.size+ns.length≤fr
 hrun:Au P cs nn F f cargs Hc fr=some (v0,H',fr')
 hks:ks.Nodup
 hks8:ks.length≤8
 hkfr:∀ k,k ∈ ks→fr≤k
 hv:RN (ρ1 P.globals.size ns ks base) v0 v
 hnd:(us.map (·.1)).Nodup
 hus:∀ m x,(m,x) ∈ us→(∃ i,ns[i]? = some m∧(x=none ∨ ∃ o o',x=some o'∧Aa H' (P.globals.size+i)=some o∧o.ro=false∧RO (ρ1 P.globals.size ns ks base) o o')) ∨
  ∃ j k o o',m=base+j∧ks[j]? = some k∧x=some o'∧Aa H' k=some o∧o.ro=false∧RO (ρ1 P.globals.size ns ks base) o o'
 hall:∀ i n o,ns[i]? = some n→Aa Hc (P.globals.size+i)=some o→o.ro=false→∃ x,(n,x) ∈ us
theorem HV {l:List Nat}(h:l.Nodup){i j n:Nat}(hi:l[i]? = some n) (hj:l[j]? = some n):i=j:=by
 obtain ⟨a,ea⟩:=List.getElem?_eq_some_iff.1 hi
 obtain ⟨b,eb⟩:=List.getElem?_eq_some_iff.1 hj
 exact (List.getElem_inj h).1 (ea.trans eb.symm)
theorem Do {P:Program}{cs:CS}(hcs:Ai P cs) (hm:P.follows .mixedOrders=true){f:FuncId}{args:List AVal}{K:Nat→(Nat→Option AObj)→Option (AVal × List (Nat × Option AObj))}
  (h:∀ base η v us,K base η=some (v,us)→Nonempty (Deep P cs f args base η v us)):AG P f args (.eff K):=by
 intro σ args' H w base v H0 hl hg hH happ hfree
 simp only [EffA.app] at happ
 cases hK:K base (Aa H) with
 | none=>rw [hK] at happ; cases happ
 | some r =>
 obtain ⟨v1,us⟩:=r
 rw [hK] at happ
 simp only [Option.some.injEq,Prod.mk.injEq] at happ
 obtain ⟨rfl,rfl⟩:=happ
 obtain ⟨D⟩:=h base (Aa H) v1 us hK
 obtain ⟨nn,F,ns,ks,cargs,Hc,fr,v0,H',fr',hns,hη,hargs,hblk,hfr,hrun,hks,hks8,hkfr,hv,hnd,hus,hall⟩:=D
 obtain ⟨fn,body,hf,hb,hrunF⟩:=BJ hrun
 obtain ⟨G,hG⟩:∃ G,G=P.globals.size:=⟨_,rfl⟩
 rw [← hG] at hargs hblk hfr hv hus hall
 -- the callee's names
 obtain ⟨σc,hσc⟩:∃ σc,σc=BN G ns σ:=⟨_,rfl⟩
 have c1:∀ k,k < G→σc k=σ k:=fun k hk=>by rw [hσc]; unfold BN; rw [if_pos hk]
 have c2:∀ i n,ns[i]? = some n→σc (G+i)=σ n:=fun i n hi=>by rw [hσc]; exact Cf hi
 have hin:IY (fun n k=>ρ0 G ns k n) σ σc:=fun n k hk p hp=>by
  rcases hk with ⟨a,rfl⟩ | ⟨i,rfl,hi⟩
  ·rw [c1 _ a]; exact hp
  ·rw [c2 i n hi]; exact hp
 have hgc:CN P σc:=fun g hgl=>by
  obtain ⟨sz,hs⟩:=hg g hgl
  exact ⟨sz,by rw [c1 g (by omega)]; exact hs⟩
 have hfrc:AO σc fr:=fun m hm'=>by
  rw [hσc]
  unfold BN
  rw [if_neg (by omega),List.getElem?_eq_none (by omega)]
 have hlc:LR σc cargs args':=⟨hargs.1.trans hl.1,fun i u u' h1 h2=>by
  obtain ⟨y,hy⟩:=E9 hargs.1.symm h1
  exact (hargs.2 i u y h1 hy).vr' hin (hl.2 i y u' hy h2)⟩
 have hdef:∀ n,n ∈ ns→∃ p,σ n=some p:=fun n hn=>by
  rcases hη n hn with ⟨o,ho⟩ | ⟨m,fz,c,i,ho,hc⟩ | ⟨i,off,ha⟩ | ⟨i,off,len,esz,ha⟩
  ·obtain ⟨p,hp,_⟩:=hH.obj n o ho
   exact ⟨p,hp⟩
  ·obtain ⟨p,hp,d,t,fz,h1,h2,h3,h4⟩:=hH.obj m _ ho
   rcases hc with ⟨off,len,esz,hc⟩ | ⟨off,hc⟩
   ·obtain ⟨v',a,b⟩:=h3 i _ hc
    cases b with
    | slice hs=>exact ⟨_,hs⟩
   ·obtain ⟨v',a,b⟩:=h3 i _ hc
    cases b with
    | ptr hs=>exact ⟨_,hs⟩
  ·obtain ⟨v',hv'⟩:∃ v',args'[i]? = some v':=⟨_,Array.getElem?_eq_getElem (by rw [← hl.1]; exact (List.getElem?_eq_some_iff.1 ha).1)⟩
   cases hl.2 i _ v' ha hv' with
   | ptr hs=>exact ⟨_,hs⟩
  ·obtain ⟨v',hv'⟩:∃ v',args'[i]? = some v':=⟨_,Array.getElem?_eq_getElem (by rw [← hl.1]; exact (List.getElem?_eq_some_iff.1 ha).1)⟩
   cases hl.2 i _ v' ha hv' with
   | slice hs=>exact ⟨_,hs⟩
 have hHc:HRel σc (Aa Hc) w:=by
  refine ⟨fun k o hk => ?_,fun k k' o o' q q' h1 h2 hq hq' he => ?_⟩
  ·obtain ⟨n,o',hr0,ho',hro,_⟩:=hblk k o hk
   obtain ⟨p,hp,hor⟩:=hH.obj n o' ho'
   exact ⟨p,hin n k hr0 p hp,hro.orel' hin hor⟩
  ·obtain ⟨n,u,r1,hu,hro,t1⟩:=hblk k o h1
   obtain ⟨n',u',r2,hu',hro',t2⟩:=hblk k' o' h2
   obtain ⟨p,hp,_⟩:=hH.obj n u hu
   obtain ⟨p',hp',_⟩:=hH.obj n' u' hu'
   have ep:q=p:=by have:=hin n k r1 p hp; rw [hq] at this; exact Option.some.inj this
   have ep':q'=p':=by have:=hin n' k' r2 p' hp'; rw [hq'] at this; exact Option.some.inj this
   subst ep ep'
   rcases hH.inj n n' u u' q q' hu hu' hp hp' he with e | ⟨e1,e2⟩
   ·subst e
    rw [hu] at hu'
    cases hu'
    have both:o.ro=o'.ro:=hro.ro.trans hro'.ro.symm
    rcases r1 with ⟨a1,b1⟩ | ⟨i,b1,hi⟩ <;> rcases r2 with ⟨a2,b2⟩ | ⟨i',b2,hi'⟩
    ·exact .inl (b1.symm.trans b2)
    ·have:=t1 a1
     exact .inr ⟨this,both ▸ this⟩
    ·have:=t2 a2
     exact .inr ⟨both.trans this,this⟩
    ·subst b1 b2
     exact .inl (by rw [HV hns hi hi'])
   ·exact .inr ⟨by rw [hro.ro]; exact e1,by rw [hro'.ro]; exact e2⟩
 refine (CO hcs hm hf hb hrunF hlc hHc hgc hfrc).mono fun r w' hrw => ?_
 obtain ⟨σ',v',rfl,g1,g2,g3,g4⟩:=hrw
 -- the caller's names behind the call
 obtain ⟨σ2,hσ2⟩:∃ σ2:Sig,σ2=fun m=>if base≤m∧m < base+8 then (match ks[m - base]? with | some k=>σ' k | none=>none) else σ m:=⟨_,rfl⟩
 have s1:∀ j k,ks[j]? = some k→σ2 (base+j)=σ' k:=fun j k hj=>by
  have:j < ks.length:=(List.getElem?_eq_some_iff.1 hj).1
  rw [hσ2]
  show (if base≤base+j∧base+j < base+8 then _ else _)=_
  rw [if_pos (by omega),Nat.add_sub_cancel_left,hj]
 have s2:∀ m,(m < base ∨ base+8≤m)→σ2 m=σ m:=fun m hm'=>by
  rw [hσ2]
  show (if base≤m∧m < base+8 then _ else _)=_
  rw [if_neg (by omega)]
 have hfr0:∀ m p,σ m=some p→m < base ∨ base+8≤m:=fun m p hp=>by
  by_cases c:base≤m∧m < base+8
  ·have:=hfree (m - base) (by omega)
   rw [show base+(m - base)=m by omega,hp] at this
   cases this
  ·omega
 have s3:∀ m p,σ m=some p→σ2 m=some p:=fun m p hp=>by rw [s2 m (hfr0 m p hp)]; exact hp
 have hout0:∀ k n,ρ0 G ns k n→σ' k=σ2 n:=fun k n hk=>by
  rcases hk with ⟨a,rfl⟩ | ⟨i,rfl,hi⟩
  ·obtain ⟨sz,hs⟩:=hg n (by omega)
   rw [s3 _ _ hs]
   exact g3.ext _ _ (by rw [c1 _ a]; exact hs)
  ·obtain ⟨p,hp⟩:=hdef n (List.mem_of_getElem? hi)
   rw [s3 _ _ hp]
   exact g3.ext _ _ (by rw [c2 i n hi]; exact hp)
 have hout:IY (ρ1 G ns ks base) σ' σ2:=fun k n hk p hp=>by
  rcases hk with hk | ⟨j,hj,rfl⟩
  ·rw [← hout0 k n hk]; exact hp
  ·rw [s1 j k hj]; exact hp
 -- what the callee may write,the caller may
 have hown:∀ b,Own σc (Aa Hc) b→∃ i n o p,ns[i]? = some n∧(∃ x,(n,x) ∈ us)∧Aa H n=some o∧o.ro=false∧σ n=some p∧p.blk=b:=fun b ⟨k,o,p,a1,a2,a3,a4⟩=>by
  obtain ⟨n,o',hr0,ho',hro,ht⟩:=hblk k o a1
  rcases hr0 with ⟨hk,_⟩ | ⟨i,rfl,hi⟩
  ·rw [ht hk] at a2
   cases a2
  ·rw [c2 i n hi] at a3
   exact ⟨i,n,o',p,hi,hall i n o hi a1 a2,ho',by rw [← hro.ro]; exact a2,a3,a4⟩
 have hnot:∀ m o p,Aa H m=some o→σ m=some p→(∀ x,(m,x) ∉ us) → ¬ Own σc (Aa Hc) p.blk:=fun m o p hm' hp hno ho=>by
  obtain ⟨i,n,o',p',a1,⟨x,a2⟩,a3,a4,a5,a6⟩:=hown _ ho
  rcases hH.inj m n o o' p p' hm' a3 hp a5 a6.symm with e | ⟨_,e⟩
  ·subst e; exact hno x a2
  ·rw [a4] at e; cases e
 -- the blocks behind the call
 have key:∀ m x,(m,some x) ∈ us→∃ k o p,Aa H' k=some o∧o.ro=false∧x.ro=false∧σ' k=some p∧σ2 m=some p∧RO (ρ1 G ns ks base) o x∧ρ1 G ns ks base k m:=fun m x hx=>by
  rcases hus m _ hx with ⟨i,hi,h1⟩ | ⟨j,k,o,o',rfl,hj,e,a1,a2,a3⟩
  ·rcases h1 with h1 | ⟨o,o',e,a1,a2,a3⟩
   ·cases h1
   ·cases e
    obtain ⟨p,hp,_⟩:=g2.obj _ o a1
    have h0:ρ0 G ns (G+i) m:=.inr ⟨i,rfl,hi⟩
    exact ⟨_,o,p,a1,a2,by rw [← a3.ro]; exact a2,hp,by rw [← hout0 _ _ h0]; exact hp,a3,.inl h0⟩
  ·cases e
   obtain ⟨p,hp,_⟩:=g2.obj _ o a1
   exact ⟨k,o,p,a1,a2,by rw [← a3.ro]; exact a2,hp,by rw [s1 j k hj]; exact hp,a3,.inr ⟨j,hj,rfl⟩⟩
 have parts:∀ m o,Aa (Bo H us) m=some o→((m,some o) ∈ us) ∨ ((∀ x,(m,x) ∉ us)∧Aa H m=some o):=fun m o hm'=>by
  rcases appU_at (H:=H) (m:=m) hnd with ⟨x,a,b⟩ | ⟨a,b⟩
  ·rw [b] at hm'; subst hm'; exact .inl a
  ·rw [b] at hm'; exact .inr ⟨a,hm'⟩
 have names:∀ m x,(m,some x) ∈ us→∃ k o p,Aa H' k=some o∧o.ro=false∧σ' k=some p∧σ2 m=some p∧((∃ i,k=G+i∧ns[i]? = some m) ∨ ∃ j,ks[j]? = some k∧m=base+j):=fun m x hx=>by
  rcases hus m _ hx with ⟨i,hi,h1⟩ | ⟨j,k,o,o',rfl,hj,e,a1,a2,a3⟩
  ·rcases h1 with h1 | ⟨o,o',e,a1,a2,a3⟩
   ·cases h1
   ·cases e
    obtain ⟨p,hp,_⟩:=g2.obj _ o a1
    have h0:ρ0 G ns (G+i) m:=.inr ⟨i,rfl,hi⟩
    exact ⟨_,o,p,a1,a2,hp,by rw [← hout0 _ _ h0]; exact hp,.inl ⟨i,rfl,hi⟩⟩
  ·obtain ⟨p,hp,_⟩:=g2.obj _ o a1
   exact ⟨k,o,p,a1,a2,hp,by rw [s1 j k hj]; exact hp,.inr ⟨j,hj,rfl⟩⟩
 have final:HRel σ2 (Aa (Bo H us)) w':=by
  refine ⟨fun m o hm' => ?_,fun m m' o o' q q' h1 h2 hq hq' he => ?_⟩
  ·rcases parts m o hm' with hx | ⟨hno,ho⟩
   ·obtain ⟨k,u,p,a1,a2,a3,a4,a5,a6,a7⟩:=key m o hx
    obtain ⟨p',hp',hor⟩:=g2.obj k u a1
    rw [a4] at hp'
    cases hp'
    exact ⟨p,a5,a6.orel hout hor⟩
   ·obtain ⟨p,hp,hor⟩:=hH.obj m o ho
    have hsame:=(g3.old p.blk hor.lt (hnot m o p ho hp hno)).1
    exact ⟨p,s3 m p hp,hor.mono (fun n q hq=>s3 n q hq) hsame⟩
  ·rcases parts m o h1 with hx | ⟨hno,ho⟩ <;> rcases parts m' o' h2 with hx' | ⟨hno',ho'⟩
   ·obtain ⟨k,u,p,a1,a2,a4,a5,a7⟩:=names m o hx
    obtain ⟨k',u',p',b1,b2,b4,b5,b7⟩:=names m' o' hx'
    have eq1:=Option.some.inj (a5.symm.trans hq)
    subst eq1
    have eq2:=Option.some.inj (b5.symm.trans hq')
    subst eq2
    rcases g2.inj k k' u u' p p' a1 b1 a4 b4 he with e | ⟨e,_⟩
    ·subst e
     left
     rcases a7 with ⟨i,e1,i1⟩ | ⟨j,j1,rfl⟩ <;> rcases b7 with ⟨i',e1',i1'⟩ | ⟨j',j1',rfl⟩
     ·have:i=i':=by omega
      subst this
      rw [i1] at i1'
      cases i1'; rfl
     ·have h3:=hkfr k (List.mem_of_getElem? j1')
      have h4:=(List.getElem?_eq_some_iff.1 i1).1
      omega
     ·have h3:=hkfr k (List.mem_of_getElem? j1)
      have h4:=(List.getElem?_eq_some_iff.1 i1').1
      omega
     ·rw [HV hks j1 j1']
    ·rw [a2] at e; cases e
   ·obtain ⟨k,u,p,a1,a2,a4,a5,a7⟩:=names m o hx
    have eq1:=Option.some.inj (a5.symm.trans hq)
    subst eq1
    obtain ⟨p',hp',hor⟩:=hH.obj m' o' ho'
    have eq2:=Option.some.inj ((s3 m' p' hp').symm.trans hq')
    subst eq2
    exact absurd ⟨k,u,p,a1,a2,a4,he⟩ (g3.old p'.blk hor.lt (hnot m' o' p' ho' hp' hno')).2
   ·obtain ⟨k,u,p,a1,a2,a4,a5,a7⟩:=names m' o' hx'
    have eq1:=Option.some.inj (a5.symm.trans hq')
    subst eq1
    obtain ⟨p',hp',hor⟩:=hH.obj m o ho
    have eq2:=Option.some.inj ((s3 m p' hp').symm.trans hq)
    subst eq2
    exact absurd ⟨k,u,p,a1,a2,a4,he.symm⟩ (g3.old p'.blk hor.lt (hnot m o p' ho hp' hno)).2
   ·obtain ⟨p,hp,_⟩:=hH.obj m o ho
    obtain ⟨p',hp',_⟩:=hH.obj m' o' ho'
    have eq1:=Option.some.inj ((s3 m p hp).symm.trans hq)
    have eq2:=Option.some.inj ((s3 m' p' hp').symm.trans hq')
    subst eq1
    subst eq2
    exact hH.inj m m' o o' p p' ho ho' hp hp' he
 have hown2:∀ b,¬ Own σ (Aa H) b → ¬ Own σc (Aa Hc) b:=fun b hb ho=>by
  obtain ⟨i,n,o,p,a1,a2,a3,a4,a5,a6⟩:=hown b ho
  exact hb ⟨n,o,p,a3,a4,a5,a6⟩
 refine ⟨σ2,v',rfl,hv.vr hout g1,final,⟨fun n p hp=>s3 n p hp,g3.size,g3.os,g3.output,g3.tape,fun b hb hno => ?_⟩,fun n hn=>s2 n hn⟩
 obtain ⟨e1,e2⟩:=g3.old b hb (hown2 b hno)
 refine ⟨e1,fun ⟨m,o,p,a1,a2,a3,a4⟩ => ?_⟩
 rcases parts m o a1 with hx | ⟨hno',ho⟩
 ·obtain ⟨k,u,q,b1,b2,b4,b5,_⟩:=names m o hx
  have eq1:=Option.some.inj (b5.symm.trans a3)
  subst eq1
  exact e2 ⟨k,u,q,b1,b2,b4,a4⟩
 ·obtain ⟨q,hq,_⟩:=hH.obj m o ho
  have eq1:=Option.some.inj ((s3 m q hq).symm.trans a3)
  subst eq1
  exact hno ⟨m,o,q,ho,a2,hq,a4⟩
end Go.Eng
namespace Go.Eng
open Go
def cnS (G:Nat) (ns:List Nat) (v:AVal):Option AVal:=match v with
 | .ptr n off=>match Kh n ns 0 with
  | some i=>some (.ptr (G+i) off)
  | none=>none
 | .slice n off len esz=>match Kh n ns 0 with
  | some i=>some (.slice (G+i) off len esz)
  | none=>none
 | .mth f n off=>match Kh n ns 0 with
  | some i=>some (.mth f (G+i) off)
  | none=>none
 | v=>cond (ltV 0 v) (some v) none
def cnL (G:Nat) (ns:List Nat):List AVal→Option (List AVal)
 | []=>some []
 | v::l=>match cnS G ns v,cnL G ns l with
  | some a,some b=>some (a::b)
  | _,_=>none
def cnV (G:Nat) (ns:List Nat) (v:AVal):Option AVal:=match v with
 | .fn f cap=>match cnL G ns cap with
  | some c=>some (.fn f c)
  | none=>none
 | v=>cnS G ns v
def cnW (G:Nat) (ns:List Nat):List AVal→Option (List AVal)
 | []=>some []
 | v::l=>match cnV G ns v,cnW G ns l with
  | some a,some b=>some (a::b)
  | _,_=>none
theorem Zo {n i:Nat}{ns:List Nat}(h:Kh n ns 0=some i):ns[i]? = some n:=by
 have:=(K4 h).2
 simpa using this
theorem Yj {G:Nat}{ns:List Nat}{v v':AVal}(h:cnS G ns v=some v'):RN (ρ0 G ns) v' v:=by
 unfold cnS at h
 split at h
 ·split at h
  ·rename_i i hi
   cases h
   exact .ptr (.inr ⟨i,rfl,Zo hi⟩)
  ·cases h
 ·split at h
  ·rename_i i hi
   cases h
   exact .slice (.inr ⟨i,rfl,Zo hi⟩)
  ·cases h
 ·split at h
  ·rename_i i hi
   cases h
   exact .mth (.inr ⟨i,rfl,Zo hi⟩)
  ·cases h
 ·cases hb:ltV 0 v <;> rw [hb] at h
  ·cases h
  ·cases h
   exact .same hb
theorem Wq {G:Nat}{ns:List Nat}:∀ {l l':List AVal},cnL G ns l=some l'→RL (ρ0 G ns) l' l
 | [],l',h=>by cases h; exact RL.nil _
 | v::l,l',h=>by
  simp only [cnL] at h
  split at h
  ·rename_i a b ha hb
   cases h
   exact RL.cons (Yj ha) (Wq hb)
  ·cases h
theorem ae1 {G:Nat}{ns:List Nat}{v v':AVal}(h:cnV G ns v=some v'):RN (ρ0 G ns) v' v:=by
 unfold cnV at h
 split at h
 ·split at h
  ·rename_i c hc
   cases h
   exact .fnL (Wq hc)
  ·cases h
 ·exact Yj h
theorem N9 {G:Nat}{ns:List Nat}:∀ {l l':List AVal},cnW G ns l=some l'→RL (ρ0 G ns) l' l
 | [],l',h=>by cases h; exact RL.nil _
 | v::l,l',h=>by
  simp only [cnW] at h
  split at h
  ·rename_i a b ha hb
   cases h
   exact RL.cons (ae1 ha) (N9 hb)
  ·cases h
def unN (G:Nat) (ns:List Nat) (k:Nat):Option Nat:=cond (Nat.ble G k) (ns[k - G]?) none
theorem Zs {G:Nat}{ns:List Nat}{k n:Nat}(h:unN G ns k=some n):ρ0 G ns k n:=by
 unfold unN at h
 cases hb:Nat.ble G k <;> rw [hb] at h
 ·cases h
 ·exact .inr ⟨k - G,by have:=Nat.le_of_ble_eq_true hb; omega,h⟩
def unS (G:Nat) (ns:List Nat) (v:AVal):Option AVal:=match v with
 | .ptr k off=>match unN G ns k with
  | some n=>some (.ptr n off)
  | none=>none
 | .slice k off len esz=>match unN G ns k with
  | some n=>some (.slice n off len esz)
  | none=>none
 | v=>cond (ltV 0 v) (some v) none
def unW (G:Nat) (ns:List Nat):List AVal→Option (List AVal)
 | []=>some []
 | v::l=>match unS G ns v,unW G ns l with
  | some a,some b=>some (a::b)
  | _,_=>none
theorem Rt {G base:Nat}{ns:List Nat}{v v':AVal}(h:unS G ns v=some v'):RN (ρ1 G ns [] base) v v':=by
 unfold unS at h
 split at h
 ·split at h
  ·rename_i n hn
   cases h
   exact .ptr (.inl (Zs hn))
  ·cases h
 ·split at h
  ·rename_i n hn
   cases h
   exact .slice (.inl (Zs hn))
  ·cases h
 ·cases hb:ltV 0 v <;> rw [hb] at h
  ·cases h
  ·cases h
   exact .same hb
theorem Xu {G base:Nat}{ns:List Nat}:∀ {l l':List AVal},unW G ns l=some l'→RL (ρ1 G ns [] base) l l'
 | [],l',h=>by cases h; exact RL.nil _
 | v::l,l',h=>by
  simp only [unW] at h
  split at h
  ·rename_i a b ha hb
   cases h
   exact RL.cons (Rt ha) (Xu hb)
  ·cases h
def nmS:AVal→List Nat
 | .ptr n _=>[n]
 | .slice n _ _ _=>[n]
 | .mth _ n _=>[n]
 | _=>[]
def nmV:AVal→List Nat
 | .fn _ cap=>cap.flatMap nmS
 | v=>nmS v
def addN:List Nat→List Nat→List Nat
 | seen,[]=>seen
 | seen,n::l=>addN (cond (seen.any (Nat.beq n)) seen (seen++[n])) l
def XS (η:Nat→Option AObj) (n:Nat):List Nat:=match η n with
 | some (.cells _ c)=>c.flatMap nmV
 | none=>[]
def reach (η:Nat→Option AObj) (args:List AVal):List Nat:=
 let a:=addN [] (args.flatMap nmV)
 let b:=addN a (a.flatMap (XS η))
 addN b (b.flatMap (XS η))
def blD (G:Nat) (η:Nat→Option AObj) (ns:List Nat):List Nat→Nat→Option HL
 | [],_=>some []
 | n::l,i=>match η n,blD G η ns l (i+1) with
  | some (.cells false c),some H=>match cnW G ns c with
   | some c'=>some ((G+i,.cells false c')::H)
   | none=>none
  | _,_=>none
theorem QX {G:Nat}{η:Nat→Option AObj}{ns:List Nat}:∀ {l:List Nat}{i:Nat}{H:HL},blD G η ns l i=some H →
  (∀ k o,Aa H k=some o→∃ (j n:Nat) (c c':List AVal),k=G+(i+j)∧l[j]? = some n∧η n=some (.cells false c)∧o=.cells false c'∧RL (ρ0 G ns) c' c)∧∀ (j n:Nat),l[j]? = some n→∃ c,η n=some (.cells false c)
 | [],i,H,h=>by
  cases h
  exact ⟨(fun k o hk=>by cases hk),(fun j n hj=>by simp at hj)⟩
 | n::l,i,H,h=>by
  simp only [blD] at h
  split at h
  ·rename_i c H1 hn h1
   split at h
   ·rename_i c' hc
    cases h
    obtain ⟨a,b⟩:=QX h1
    refine ⟨fun k o hk => ?_,fun j m hj => ?_⟩
    ·simp only [Aa] at hk
     rcases beq_cases (G+i) k with ⟨e,hb⟩ | ⟨e,hb⟩ <;> rw [hb] at hk
     ·simp only [cond_true,Option.some.injEq] at hk
      subst hk
      exact ⟨0,n,c,c',by omega,rfl,hn,rfl,N9 hc⟩
     ·simp only [cond_false] at hk
      obtain ⟨j,m,d,d',e1,e2,e3,e4,e5⟩:=a k o hk
      exact ⟨j+1,m,d,d',by omega,by simpa using e2,e3,e4,e5⟩
    ·cases j with
     | zero=>simp at hj; subst hj; exact ⟨c,hn⟩
     | succ j=>exact b j m (by simpa using hj)
   ·cases h
  ·cases h
def bkD (G:Nat) (H':HL) (ns:List Nat):List Nat→Nat→Option (List (Nat × Option AObj))
 | [],_=>some []
 | n::l,i=>match bkD G H' ns l (i+1),Aa H' (G+i) with
  | some us,some (.cells false c)=>match unW G ns c with
   | some c'=>some ((n,some (.cells false c'))::us)
   | none=>none
  | _,_=>none
theorem So {G base:Nat}{H':HL}{ns:List Nat}:∀ {l:List Nat}{i:Nat}{us:List (Nat × Option AObj)},bkD G H' ns l i=some us →
  us.map (·.1)=l∧∀ m x,(m,x) ∈ us→∃ (j:Nat) (c c':List AVal),l[j]? = some m∧x=some (.cells false c')∧Aa H' (G+(i+j))=some (.cells false c)∧RL (ρ1 G ns [] base) c c'
 | [],i,us,h=>by
  cases h
  exact ⟨rfl,(fun m x hm=>by cases hm)⟩
 | n::l,i,us,h=>by
  simp only [bkD] at h
  split at h
  ·rename_i us1 c h1 hc
   split at h
   ·rename_i c' hu
    cases h
    obtain ⟨a,b⟩:=So h1
    refine ⟨by rw [List.map_cons,a],fun m x hm => ?_⟩
    rcases List.mem_cons.1 hm with e | hm
    ·cases e
     exact ⟨0,c,c',rfl,rfl,hc,Xu hu⟩
    ·obtain ⟨j,d,d',e1,e2,e3,e4⟩:=b m x hm
     exact ⟨j+1,d,d',by simpa using e1,e2,by rw [show i+(j+1)=i+1+j by omega]; exact e3,e4⟩
   ·cases h
  ·cases h
def aaP (P:Program) (cs:CS) (nn F:Nat) (f:FuncId) (args:List AVal) (η:Nat→Option AObj) (ns:List Nat):Option (AVal × List (Nat × Option AObj)):=
 match cond (Bu ns) (cnW P.globals.size ns args) none with
 | none=>none
 | some cargs=>match blD P.globals.size η ns ns 0 with
  | none=>none
  | some Hc=>match Au P cs nn F f cargs Hc (P.globals.size+ns.length) with
   | none=>none
   | some (v0,H',_)=>match unS P.globals.size ns v0,bkD P.globals.size H' ns ns 0 with
    | some v,some us=>some (v,us)
    | _,_=>none
def OI (P:Program) (cs:CS) (nn F:Nat) (f:FuncId) (args:List AVal):EffA:=.eff fun _ η=>aaP P cs nn F f args η (reach η args)
theorem Zx {P:Program}{cs:CS}(hcs:Ai P cs) (hm:P.follows .mixedOrders=true){nn F:Nat}{f:FuncId}{args:List AVal}{g:(Nat→Option AObj)→List Nat}:AG P f args (.eff fun _ η=>aaP P cs nn F f args η (g η)):=by
 refine Do hcs hm fun base η v us hK => ?_
 generalize g η=ns at hK
 unfold aaP at hK
 split at hK
 ·cases hK
 ·rename_i cargs hc
  cases hnd:Bu ns with
  | false=>rw [hnd] at hc; cases hc
  | true =>
   rw [hnd,cond_true] at hc
   split at hK
   ·cases hK
   ·rename_i Hc hH
    split at hK
    ·cases hK
    ·rename_i v0 H' fr' hr
     split at hK
     ·rename_i v1 us1 hv hu
      cases hK
      obtain ⟨b1,b2⟩:=QX hH
      obtain ⟨u1,u2⟩:=So (base:=base) hu
      have hn:=Ce hnd
      refine ⟨{ nn:=nn,F:=F,ns:=ns,ks:=[],cargs:=cargs,Hc:=Hc,fr:=P.globals.size+ns.length,v0:=v0,H':=H',fr':=fr',hns:=hn,hη:=fun n hn => ?_,hargs:=N9 hc,hblk:=fun k o hk => ?_,hfr:=Nat.le_refl _,hrun:=hr,hks:=List.nodup_nil,hks8:=Nat.zero_le _,hkfr:=fun k hk=>(nomatch hk),hv:=Rt hv,hnd:=?_,hus:=fun m x hm => ?_,hall:=fun i n o hi ho hro => ?_ }⟩
      ·obtain ⟨j,hj⟩:=List.getElem?_of_mem hn
       obtain ⟨c,hc⟩:=b2 j n hj
       exact .inl ⟨_,hc⟩
      ·obtain ⟨j,n,c,c',e1,e2,e3,e4,e5⟩:=b1 k o hk
       exact ⟨n,_,.inr ⟨j,by omega,e2⟩,e3,⟨false,c',c,e4,rfl,e5⟩,fun hk=>by omega⟩
      ·rw [u1]; exact hn
      ·obtain ⟨j,c,c',e1,e2,e3,e4⟩:=u2 m x hm
       exact .inl ⟨j,e1,.inr ⟨_,_,e2,by rw [Nat.zero_add] at e3; exact e3,rfl,false,c,c',rfl,rfl,e4⟩⟩
      ·have:n ∈ us.map (·.1):=by rw [u1]; exact List.mem_of_getElem? hi
       obtain ⟨p,hp,e⟩:=List.mem_map.1 this
       exact ⟨p.2,by rw [← e]; exact hp⟩
     ·cases hK
theorem Nf {P:Program}{cs:CS}(hcs:Ai P cs) (hm:P.follows .mixedOrders=true){nn F:Nat}{f:FuncId}{args:List AVal}:AG P f args (OI P cs nn F f args):=Zx hcs hm
def R8 (P:Program) (nn:FuncId→Nat) (F:Nat) (cs:CS):Nat→CS
 | 0=>cs
 | k+1=>fun f args=>match cs f args with
  | some e=>some e
  | none=>cond (C0 args) (match Au P (R8 P nn F cs k) (nn f) F f args [] P.globals.size with
   | some (v,_,_)=>cond (ltV 0 v) (some (.pure v)) (some (OI P (R8 P nn F cs k) (nn f) F f args))
   | none=>some (OI P (R8 P nn F cs k) (nn f) F f args)) (some (OI P (R8 P nn F cs k) (nn f) F f args))
theorem T4 {P:Program}{nn:FuncId→Nat}{F:Nat}{cs:CS}(hm:P.follows .mixedOrders=true) (hcs:Ai P cs):∀ k,Ai P (R8 P nn F cs k)
 | 0=>hcs
 | k+1=>fun f args e he=>by
  have ih:=T4 hm hcs (nn:=nn) (F:=F) k
  simp only [R8] at he
  split at he
  ·rename_i e1 h1
   cases he
   exact hcs f args _ h1
  ·cases ha:C0 args with
   | false =>
    rw [ha,cond_false] at he
    cases he
    exact Nf ih hm
   | true =>
    rw [ha,cond_true] at he
    split at he
    ·rename_i v H' fr' hr
     cases hv:ltV 0 v with
     | false =>
      rw [hv,cond_false] at he
      cases he
      exact Nf ih hm
     | true =>
      rw [hv,cond_true] at he
      cases he
      exact E3 ih hm hr ha hv
    ·cases he
     exact Nf ih hm
end Go.Eng
namespace Go.Eng
open Go
theorem YH {P:Program}{cs:CS}{nn F:Nat}{f:FuncId}{args cargs:List AVal}{base G:Nat}{H Hc H1:HL}{ns:List Nat}{fr':Nat}{v v0:AVal}{us:List (Nat × Option AObj)}
  (hG:P.globals.size=G) (hns:reach (Aa H) args=ns) (hnd:Bu ns=true) (hc:cnW G ns args=some cargs) (hb:blD G (Aa H) ns ns 0=some Hc)
  (hr:Au P cs nn F f cargs Hc (G+ns.length)=some (v0,H1,fr')) (hv:unS G ns v0=some v) (hk:bkD G H1 ns ns 0=some us):(OI P cs nn F f args).app base H=some (v,Bo H us):=by
 subst hG
 unfold OI
 simp only [EffA.app]
 rw [hns]
 unfold aaP
 rw [hnd,cond_true,hc]
 simp only
 rw [hb]
 simp only
 rw [hr]
 simp only
 rw [hv,hk]
end Go.Eng
namespace Go.Eng
def Eb (ns:List Nat) (x:Option ((AVal × HL × Nat) × List Bool)):Option (AVal × List (Option AObj) × List Bool):=
 match x with
 | some ((v,H,_),ob)=>some (v,ns.map (Aa H),ob)
 | none=>none
end Go.Eng
namespace Go.Eng
open Go
def bkL (G:Nat) (ns:List Nat):List Nat→List (Option AObj)→Option (List (Nat × Option AObj))
 | n::l,some (.cells false c)::L=>match bkL G ns l L,unW G ns c with
  | some us,some c'=>some ((n,some (.cells false c'))::us)
  | _,_=>none
 | [],[]=>some []
 | _,_=>none
theorem Rw {G:Nat}{H1:HL}{ns:List Nat}:∀ {l:List Nat}{i:Nat}{L:List (Option AObj)}{us:List (Nat × Option AObj)},(List.range' (G+i) l.length).map (Aa H1)=L→bkL G ns l L=some us→bkD G H1 ns l i=some us
 | [],i,L,us,h1,h2=>by
  subst h1
  simp only [List.length_nil,List.range'_zero,List.map_nil,bkL,Option.some.injEq] at h2
  simp only [bkD,h2]
 | n::l,i,L,us,h1,h2=>by
  subst h1
  rw [List.length_cons,List.range'_succ,List.map_cons] at h2
  generalize ho:Aa H1 (G+i)=o at h2
  unfold bkL at h2
  split at h2
  ·rename_i n' l' c L' e1 e2
   cases e1
   cases e2
   split at h2
   ·rename_i us1 c' hx hc
    cases h2
    have:=Rw (i:=i+1) (by rfl) hx
    simp only [bkD,this,ho,hc]
   ·cases h2
  ·rename_i e1 e2
   cases e1
  ·cases h2
theorem WR {P:Program}{cs:CS}{ps:PS}(hps:Bt ps cs){nn F:Nat}{f:FuncId}{args cargs:List AVal}{base G:Nat}{H Hc:HL}{ns:List Nat}{v v0:AVal}{us:List (Nat × Option AObj)}
  {sy:List Nat} {os:List Bool} {vs:List AVal} {L:List (Option AObj)} {ob:List Bool}
  (hr:Eb (List.range' G ns.length) (An P ps cs sy os vs nn F f cargs Hc (G+ns.length))=some (v0,L,ob)) (ha:Am ob=true)
  (hG:P.globals.size=G) (hns:reach (Aa H) args=ns) (hnd:Bu ns=true) (hc:cnW G ns args=some cargs) (hb:blD G (Aa H) ns ns 0=some Hc)
  (hv:unS G ns v0=some v) (hk:bkL G ns ns L=some us):(OI P cs nn F f args).app base H=some (v,Bo H us):=by
 unfold Eb at hr
 split at hr
 ·rename_i v' H' fr' ob' hx
  simp only [Option.some.injEq,Prod.mk.injEq] at hr
  obtain ⟨rfl,hL,rfl⟩:=hr
  exact YH hG hns hnd hc hb (LE hps hx ha) hv (Rw (i:=0) hL hk)
 ·cases hr
end Go.Eng
namespace Go.Proofs.YtcplgmgpagekfaaGreatDoor
open Go Go.Eng Go.Num
def As (n:Nat) (f:Nat→UInt32):List AVal:=(List.range n).map fun j=>.u32 (f j)
noncomputable def nU (k:Nat):CS:=R8 Tryz.prog mask 200 Bn k
theorem Jm (k:Nat):Ai Tryz.prog (nU k):=T4 AB (A7 _) k
end Go.Proofs.YtcplgmgpagekfaaGreatDoor
namespace Go.Bla
open Go Go.Eng
def Uw (x:UInt32) (k:Nat):UInt32:=AD x k ||| Ay x (32 - k)
structure Q4 where
 a:UInt32
 b:UInt32
 c:UInt32
 d:UInt32
def hfA (q:Q4) (x:UInt32):UInt32:=q.a+(q.b+x)
def hfD (q:Q4) (x:UInt32) (k:Nat):UInt32:=Uw (q.d ^^^ hfA q x) k
def hfC (q:Q4) (x:UInt32) (k:Nat):UInt32:=q.c+hfD q x k
def hf (q:Q4) (x:UInt32) (k l:Nat):Q4:=⟨hfA q x,Uw (q.b ^^^ hfC q x k) l,hfC q x k,hfD q x k⟩
def akN (q:Q4) (x y:UInt32):Q4:=hf (hf q x 16 20) y 24 25
def aj4 (v:Nat→UInt32) (a b c d:Nat) (q:Q4):Nat→UInt32:=B0 (B0 (B0 (B0 v a q.a) b q.b) c q.c) d q.d
def aij (v:Nat→UInt32) (a b c d:Nat) (x y:UInt32):Nat→UInt32:=aj4 v a b c d (akN ⟨v a,v b,v c,v d⟩ x y)
def pl (i k:Nat):Nat:=cond (Nat.ble 4 k) (4 * i+(k - 4+i) % 4) (4 * i+k)
def Of (k:Nat) (v:Nat→UInt32) (x y:UInt32):Nat→UInt32:=aij v (pl 0 k) (pl 1 k) (pl 2 k) (pl 3 k) x y
def Zv:List (List Nat):=[
 [0,1,2,3,4,5,6,7,8,9,10,11,12,13,14,15],
 [14,10,4,8,9,15,13,6,1,12,0,2,11,7,5,3],
 [11,8,12,0,5,2,15,13,10,14,3,6,7,1,9,4],
 [7,9,3,1,13,12,11,14,2,6,5,10,4,0,15,8],
 [9,0,5,7,2,4,10,15,14,1,11,12,6,8,3,13],
 [2,12,6,10,0,11,8,3,4,13,7,5,15,14,1,9],
 [12,5,1,15,14,13,4,10,0,7,6,3,9,2,8,11],
 [13,11,7,14,12,1,3,9,5,0,15,4,8,6,2,10],
 [6,15,14,9,11,3,0,8,12,2,13,7,1,4,10,5],
 [10,2,8,4,7,6,1,5,15,11,9,14,3,12,13,0]]
def ord (r i:Nat):Nat:=(Zv.getD r []).getD i 0
def Ge (m:Nat→UInt32) (r k:Nat) (v:Nat→UInt32):Nat→UInt32:=Of k v (m (ord r (2 * k))) (m (ord r (2 * k+1)))
def aeb (m:Nat→UInt32) (r:Nat) (v:Nat→UInt32):Nat→UInt32:=Ge m r 7 (Ge m r 6 (Ge m r 5 (Ge m r 4 (Ge m r 3 (Ge m r 2 (Ge m r 1 (Ge m r 0 v)))))))
def rounds (m:Nat→UInt32):Nat→(Nat→UInt32)→Nat→UInt32
 | 0,v=>v
 | r+1,v=>aeb m r (rounds m r v)
def ahc:List UInt32:=[0x6a09e667,0xbb67ae85,0x3c6ef372,0xa54ff53a,0x510e527f,0x9b05688c,0x1f83d9ab,0x5be0cd19]
def iv (i:Nat):UInt32:=ahc.getD i 0
end Go.Bla
namespace Go.Proofs.YtcplgmgpagekfaaGreatDoor
open Go Go.Eng Go.Num Go.Bla
noncomputable def mxE (n:Nat) (k:Nat) (w v:Nat):EffA:=OI Tryz.prog (nU (n+1)) (mask 127) 200 127 [.int .i64 (pl 0 k:Nat),.int .i64 (pl 1 k:Nat),.int .i64 (pl 2 k:Nat),.int .i64 (pl 3 k:Nat),.slice w 0 2 1,.ptr v 0]
theorem mxR (n:Nat) (v:Nat→UInt32) (x y:UInt32):(k:Nat)→k < 8→Eb [1,2] (An Tryz.prog AP (nU (n+1)) [] [] [] (mask 127) 200 127 [.int .i64 (pl 0 k:Nat),.int .i64 (pl 1 k:Nat),.int .i64 (pl 2 k:Nat),.int .i64 (pl 3 k:Nat),.slice 1 0 2 1,.ptr 2 0] [(1,.cells false [.u32 x,.u32 y]),(2,.cells false (As 16 v))] 3)=some (.tup [],[some (.cells false [.u32 x,.u32 y]),some (.cells false (As 16 (Of k v x y)))],[])
 | 0,_=>by kernel_rfl
 | 1,_=>by kernel_rfl
 | 2,_=>by kernel_rfl
 | 3,_=>by kernel_rfl
 | 4,_=>by kernel_rfl
 | 5,_=>by kernel_rfl
 | 6,_=>by kernel_rfl
 | 7,_=>by kernel_rfl
end Go.Proofs.YtcplgmgpagekfaaGreatDoor
namespace Go.Eng
theorem M3 {P:Program}{f:FuncId}{args:List AVal}{e e':EffA}(h:AG P f args e) (hx:∀ base H v H',e'.app base H=some (v,H')→∃ H2,e.app base H=some (v,H2)∧Aa H2=Aa H'):AG P f args e':=by
 intro σ args' H w base v H' hl hg hH happ hfree
 obtain ⟨H2,h1,h2⟩:=hx base H v H' happ
 have r:=h σ args' H w base v H2 hl hg hH h1 hfree
 rw [h2] at r
 exact r
def rdF {S:Type}(dec:AObj→Option (List Nat × S)) (val:S→AVal) (ok:S→Bool) (o:AObj):Option AVal:=
 match dec o with
 | some (ns,s)=>cond (Bu ns && ok s) (some (val s)) none
 | none=>none
def rdE {S:Type}(t:Nat) (dec:AObj→Option (List Nat × S)) (val:S→AVal) (ok:S→Bool):EffA:=.read t (rdF dec val ok)
end Go.Eng
namespace Go.Eng
def JO (P:Program) (fn:Func) (ns:List Nat):Option (XA × SA)→Option (AVal × List (Option AObj))
 | none=>none
 | some (.exit _,_)=>none
 | some (_,s)=>match resA P s.T s.H fn.results.toList with
  | none=>none
  | some [v]=>some (v,ns.map (Aa s.H))
  | some vs=>some (.tup vs,ns.map (Aa s.H))
def Ea (ns:List Nat) (x:Option (AVal × HL × Nat)):Option (AVal × List (Option AObj)):=
 match x with
 | some (v,H,_)=>some (v,ns.map (Aa H))
 | none=>none
theorem ahj {P:Program}{cs:CS}{nn F:Nat}{f:FuncId}{fn:Func}{c:Code}{args:List AVal}{H:HL}{fr:Nat}(ns:List Nat) (hf:P.funcs[f]? = some fn) (hb:fn.body=some c) (hn:Nat.ble args.length fn.ntmps=true) :
  Ea ns (Au P cs nn F f args H fr)=JO P fn ns (evS P cs fn.ntmps nn F fr (Aw c) ⟨AY args 0,H,fr⟩):=by
 unfold Au
 simp only [hf,hb]
 unfold NN
 rw [hn,Ca]
 cases evS P cs fn.ntmps nn F fr (Aw c) ⟨AY args 0,H,fr⟩ with
 | none=>rfl
 | some p =>
  obtain ⟨x,s⟩:=p
  cases x with
  | exit id=>rfl
  | normal =>
   simp only [cond_true,JO]
   cases resA P s.T s.H fn.results.toList with
   | none=>rfl
   | some vs=>match vs with
    | []=>rfl
    | [_]=>rfl
    | _::_::_=>rfl
  | ret =>
   simp only [cond_true,JO]
   cases resA P s.T s.H fn.results.toList with
   | none=>rfl
   | some vs=>match vs with
    | []=>rfl
    | [_]=>rfl
    | _::_::_=>rfl
def Rl (P:Program) (fn:Func) (ns:List Nat) (x:Option (XA × SA × OS)):Option (AVal × List (Option AObj) × List Bool):=
 match x with
 | some (x,s,q)=>match JO P fn ns (some (x,s)) with
  | some (v,h)=>some (v,h,q.ob)
  | none=>none
 | none=>none
theorem Mr {P:Program}{fn:Func}{ns:List Nat}{x:XA}{s:SA}{q:OS}{v:AVal}{h:List (Option AObj)}{ob:List Bool}(e:Rl P fn ns (some (x,s,q))=some (v,h,ob)):JO P fn ns (some (x,s))=some (v,h)∧q.ob=ob:=by
 unfold Rl at e
 simp only at e
 cases hv:JO P fn ns (some (x,s)) with
 | none=>simp only [hv] at e; cases e
 | some u =>
  obtain ⟨u1,u2⟩:=u
  simp only [hv,Option.some.injEq,Prod.mk.injEq] at e
  obtain ⟨rfl,rfl,rfl⟩:=e
  exact ⟨rfl,rfl⟩
theorem Nu {P:Program}{ps:PS}{cs:CS}(hps:Bt ps cs){sy:List Nat}{fn:Func}{ns:List Nat}{nt nn F bs:Nat}{l:List Code}{s:SA}{q:OS}{v:AVal}{h:List (Option AObj)}{ob:List Bool}(e:Rl P fn ns (Bl P ps cs sy nt nn F bs l s q)=some (v,h,ob)) (ha:Am ob=true):JO P fn ns (evS P cs nt nn F bs l s)=some (v,h)∧Am q.ob=true:=by
 cases hx:Bl P ps cs sy nt nn F bs l s q with
 | none=>rw [hx] at e; cases e
 | some r =>
  obtain ⟨x,s',q'⟩:=r
  rw [hx] at e
  obtain ⟨h1,h2⟩:=Mr e
  have h3:=CA hps l s q x s' q' hx (by rw [h2]; exact ha)
  exact ⟨by rw [h3.1]; exact h1,h3.2⟩
noncomputable def Rv (P:Program) (ps:PS) (cs:CS) (sy:List Nat) (fn:Func) (ns:List Nat) (nn F bs id:Nat) (b:Code) (l:List Code) (s:SA) (q:OS):Option (AVal × List (Option AObj) × List Bool):=
 match evT P ps cs sy fn.ntmps nn F bs b s q with
 | some (.exit id',s1,q1)=>cond (Nat.beq id' id) (Rl P fn ns (Bl P ps cs sy fn.ntmps nn F bs l s1 q1)) none
 | some (.ret,s1,q1)=>Rl P fn ns (some (.ret,s1,q1))
 | _=>none
theorem endM_ok {P:Program}{ps:PS}{cs:CS}(hps:Bt ps cs){sy:List Nat}{fn:Func}{ns:List Nat}{nn F bs id:Nat}{b:Code}{l:List Code}{s:SA}{os:List Bool}{vs:List AVal}{v:AVal}{hc:List (Option AObj)}{ob:List Bool}(h:Rv P ps cs sy fn ns nn F bs id b l s ⟨os,vs,[]⟩=some (v,hc,ob)) (ha:Am ob=true) :
  (∃ s1,evC P cs fn.ntmps nn F bs b s=some (.exit id,s1)∧JO P fn ns (evS P cs fn.ntmps nn F bs l s1)=some (v,hc)) ∨ ∃ s1,evC P cs fn.ntmps nn F bs b s=some (.ret,s1)∧JO P fn ns (some (.ret,s1))=some (v,hc):=by
 unfold Rv at h
 split at h
 ·rename_i id' s1 q1 he
  cases hb:Nat.beq id' id with
  | false=>rw [hb] at h; cases h
  | true =>
   rw [hb,cond_true] at h
   have:=Nat.eq_of_beq_eq_true hb
   subst this
   obtain ⟨h1,h2⟩:=Nu hps h ha
   exact .inl ⟨s1,(BC hps b _ _ _ _ _ he h2).1,h1⟩
 ·rename_i s1 q1 he
  obtain ⟨h1,h2⟩:=Mr h
  exact .inr ⟨s1,(BC hps b _ _ _ _ _ he (by rw [h2]; exact ha)).1,h1⟩
 ·cases h
theorem ajs {P:Program}{ps:PS}{cs:CS}(hps:Bt ps cs){nn F bs:Nat}{fn:Func}{c:Code}{ns:List Nat}
  (k:Nat) {id:Nat} {b:Code} (hk:(Aw c)[k]? = some (.block id (.loop b))) (I:Nat→SA) (N:Nat) {sy1:List Nat} {os1:List Bool} {vs1:List AVal} {ob1:List Bool}
  (hstep:∀ j,j < N→AU (evC P cs fn.ntmps nn F bs b) (AW P bs (I 0)) (I j)=some (I (j+1)))
  {v:AVal} {hc:List (Option AObj)} (hend:Rv P ps cs sy1 fn ns nn F bs id b ((Aw c).drop (k+1)) (I N) ⟨os1,vs1,[]⟩=some (v,hc,ob1)) (ha1:Am ob1=true) (hF:N < F) :
  JO P fn ns (evS P cs fn.ntmps nn F bs ((Aw c).drop k) (I 0))=some (v,hc):=by
 rcases endM_ok hps hend ha1 with ⟨s1,h1,h2⟩ | ⟨s1,h1,h2⟩
 ·rw [BZ hk I N hstep h1 hF]; exact h2
 ·rw [UG hk I N hstep h1 hF]; exact h2
theorem agm {P:Program}{ps:PS}{cs:CS}(hps:Bt ps cs){nn F:Nat}{f:FuncId}{fn:Func}{c:Code}{args:List AVal}{H:HL}{fr:Nat}{ns:List Nat}(hf:P.funcs[f]? = some fn) (hb:fn.body=some c) (hn:Nat.ble args.length fn.ntmps=true)
  (k:Nat) {s:SA} {sy0:List Nat} {os0:List Bool} {vs0:List AVal} {ob0:List Bool}
  (hpre:CF (Bl P ps cs sy0 fn.ntmps nn F fr ((Aw c).take k) ⟨AY args 0,H,fr⟩ ⟨os0,vs0,[]⟩)=some (s,ob0)) (ha0:Am ob0=true)
  {v:AVal} {hc:List (Option AObj)} (h:JO P fn ns (evS P cs fn.ntmps nn F fr ((Aw c).drop k) s)=some (v,hc)):Ea ns (Au P cs nn F f args H fr)=some (v,hc):=by
 rw [ahj ns hf hb hn]
 have e:Aw c=(Aw c).take k++(Aw c).drop k:=(List.take_append_drop k (Aw c)).symm
 rw [e,DI (CW hps hpre ha0)]
 exact h
theorem IV {P:Program}{ps:PS}{cs:CS}(hps:Bt ps cs){nn F:Nat}{f:FuncId}{fn:Func}{c:Code}{args:List AVal}{H:HL}{fr:Nat}{ns:List Nat}(hf:P.funcs[f]? = some fn) (hb:fn.body=some c) (hn:Nat.ble args.length fn.ntmps=true)
  (k:Nat) {id:Nat} {b:Code} (hk:(Aw c)[k]? = some (.block id (.loop b))) (I:Nat→SA) (N:Nat) {sy0 sy1:List Nat} {os0 os1:List Bool} {vs0 vs1:List AVal} {ob0 ob1:List Bool}
  (hpre:CF (Bl P ps cs sy0 fn.ntmps nn F fr ((Aw c).take k) ⟨AY args 0,H,fr⟩ ⟨os0,vs0,[]⟩)=some (I 0,ob0)) (ha0:Am ob0=true)
  (hstep:∀ j,j < N→AU (evC P cs fn.ntmps nn F fr b) (AW P fr (I 0)) (I j)=some (I (j+1)))
  {v:AVal} {hc:List (Option AObj)} (hend:Rv P ps cs sy1 fn ns nn F fr id b ((Aw c).drop (k+1)) (I N) ⟨os1,vs1,[]⟩=some (v,hc,ob1)) (ha1:Am ob1=true) (hF:N < F):Ea ns (Au P cs nn F f args H fr)=some (v,hc):=
 agm hps hf hb hn k hpre ha0 (ajs hps k hk I N hstep hend ha1 hF)
end Go.Eng
namespace Go.Eng
open Go
def Wc (η:Nat→Option AObj) (n:Nat):Bool:=match η n with
 | some _=>true
 | none=>false
theorem aaX {η:Nat→Option AObj}{n:Nat}(h:Wc η n=true):∃ o,η n=some o:=by
 unfold Wc at h
 cases hn:η n with
 | some o=>exact ⟨o,rfl⟩
 | none=>rw [hn] at h; cases h
def ME (l:List Nat):List (Nat × Option AObj):=l.map fun n=>(n,none)
def YI (P:Program) (cs:CS) (g nn F:Nat) (f:FuncId) (m k:Nat) (args:List AVal) (η:Nat→Option AObj) (ns:List Nat):Option (AVal × List (Nat × Option AObj)):=
 match η g with
 | some (.cells true ct)=>cond (ltL 0 ct && (ns.drop m).all (Wc η)) (match cond (Bu ns) (cnW P.globals.size ns args) none with
  | none=>none
  | some cargs=>match blD P.globals.size η ns (ns.take m) 0 with
   | none=>none
   | some Hc=>match Au P cs nn F f cargs ((g,.cells true ct)::Hc) (P.globals.size+ns.length) with
    | none=>none
    | some (v0,H',_)=>match unS P.globals.size ns v0,bkD P.globals.size H' ns (ns.take k) 0 with
     | some v,some us=>some (v,us++ME (ns.drop k))
     | _,_=>none) none
 | _=>none
def Iu (P:Program) (cs:CS) (g nn F:Nat) (f:FuncId) (m k:Nat) (args:List AVal):EffA:=.eff fun _ η=>YI P cs g nn F f m k args η (reach η args)
theorem Dd {P:Program}{cs:CS}(hcs:Ai P cs) (hm:P.follows .mixedOrders=true){g nn F:Nat}(hgl:Nat.blt g P.globals.size=true){f:FuncId}{m k:Nat}{args:List AVal}:AG P f args (Iu P cs g nn F f m k args):=by
 have hgl:g < P.globals.size:=by simpa using hgl
 unfold Iu
 refine Do hcs hm fun base η v us hK => ?_
 generalize reach η args=ns at hK
 unfold YI at hK
 split at hK
 rotate_left
 ·cases hK
 rename_i ct hct
 cases hlt:(ltL 0 ct && (ns.drop m).all (Wc η)) with
 | false=>rw [hlt] at hK; cases hK
 | true =>
 rw [hlt,cond_true] at hK
 rw [Bool.and_eq_true] at hlt
 obtain ⟨hlt,hrest⟩:=hlt
 split at hK
 ·cases hK
 ·rename_i cargs hc
  cases hnd:Bu ns with
  | false=>rw [hnd] at hc; cases hc
  | true =>
   rw [hnd,cond_true] at hc
   split at hK
   ·cases hK
   ·rename_i Hc hH
    split at hK
    ·cases hK
    ·rename_i v0 H' fr' hr
     split at hK
     ·rename_i v1 us1 hv hu
      cases hK
      obtain ⟨b1,b2⟩:=QX hH
      obtain ⟨u1,u2⟩:=So (base:=base) hu
      have hn:=Ce hnd
      have htk:∀ (q j n:Nat),(ns.take q)[j]? = some n→ns[j]? = some n:=fun q j n h=>by
       rw [List.getElem?_take] at h
       split at h
       ·exact h
       ·cases h
      have hg1:(ME (ns.drop k)).map (·.1)=ns.drop k:=by
       unfold ME
       rw [List.map_map]
       exact List.map_id _
      refine ⟨{ nn:=nn,F:=F,ns:=ns,ks:=[],cargs:=cargs,Hc:=(g,.cells true ct)::Hc,fr:=P.globals.size+ns.length,v0:=v0,H':=H',fr':=fr',hns:=hn,hη:=fun n hn => ?_,hargs:=N9 hc,hblk:=fun k o hk => ?_,hfr:=Nat.le_refl _,hrun:=hr,hks:=List.nodup_nil,hks8:=Nat.zero_le _,hkfr:=fun k hk=>(nomatch hk),hv:=Rt hv,hnd:=?_,hus:=fun m x hm => ?_,hall:=fun i n o hi ho hro => ?_ }⟩
      ·rw [← List.take_append_drop m ns] at hn
       rcases List.mem_append.1 hn with h | h
       ·obtain ⟨j,hj⟩:=List.getElem?_of_mem h
        obtain ⟨c,hc⟩:=b2 j n hj
        exact .inl ⟨_,hc⟩
       ·exact .inl (aaX (List.all_eq_true.1 hrest n h))
      ·simp only [Aa] at hk
       rcases beq_cases g k with ⟨e,hb⟩ | ⟨e,hb⟩ <;> rw [hb] at hk
       ·simp only [cond_true,Option.some.injEq] at hk
        subst hk
        subst e
        exact ⟨g,_,.inl ⟨hgl,rfl⟩,hct,⟨true,ct,ct,rfl,rfl,RL.same hlt⟩,fun _=>rfl⟩
       ·simp only [cond_false] at hk
        obtain ⟨j,n,c,c',e1,e2,e3,e4,e5⟩:=b1 k o hk
        exact ⟨n,_,.inr ⟨j,by omega,htk _ _ _ e2⟩,e3,⟨false,c',c,e4,rfl,e5⟩,fun hk=>by omega⟩
      ·rw [List.map_append,u1,hg1,List.take_append_drop]; exact hn
      ·rcases List.mem_append.1 hm with hm | hm
       ·obtain ⟨j,c,c',e1,e2,e3,e4⟩:=u2 m x hm
        exact .inl ⟨j,htk _ _ _ e1,.inr ⟨_,_,e2,by rw [Nat.zero_add] at e3; exact e3,rfl,false,c,c',rfl,rfl,e4⟩⟩
       ·unfold ME at hm
        rw [List.mem_map] at hm
        obtain ⟨n,hn2,he⟩:=hm
        cases he
        obtain ⟨j,hj⟩:=List.getElem?_of_mem (List.mem_of_mem_drop hn2)
        exact .inl ⟨j,hj,.inl rfl⟩
      ·have:n ∈ (us1++ME (ns.drop k)).map (·.1):=by rw [List.map_append,u1,hg1,List.take_append_drop]; exact List.mem_of_getElem? hi
       obtain ⟨p,hp,e⟩:=List.mem_map.1 this
       exact ⟨p.2,by rw [← e]; exact hp⟩
     ·cases hK
theorem Hy {P:Program}{cs:CS}{g nn F:Nat}{f:FuncId}{m k:Nat}{args cargs:List AVal}{base G:Nat}{H Hc:HL}{ns:List Nat}{v v0:AVal}{us:List (Nat × Option AObj)}{ct:List AVal}{L:List (Option AObj)}
  (hr:Ea (List.range' G (ns.take k).length) (Au P cs nn F f cargs ((g,.cells true ct)::Hc) (G+ns.length))=some (v0,L))
  (hct:Aa H g=some (.cells true ct)) (hlt:ltL 0 ct=true) (hrest:(ns.drop m).all (Wc (Aa H))=true)
  (hG:P.globals.size=G) (hns:reach (Aa H) args=ns) (hnd:Bu ns=true) (hc:cnW G ns args=some cargs) (hb:blD G (Aa H) ns (ns.take m) 0=some Hc)
  (hv:unS G ns v0=some v) (hk:bkL G ns (ns.take k) L=some us):(Iu P cs g nn F f m k args).app base H=some (v,Bo H (us++ME (ns.drop k))):=by
 subst hG
 unfold Ea at hr
 split at hr
 ·rename_i v' H' fr' h1
  simp only [Option.some.injEq,Prod.mk.injEq] at hr
  obtain ⟨rfl,hL⟩:=hr
  have h2:bkD P.globals.size H' ns (ns.take k) 0=some us:=Rw (i:=0) hL hk
  unfold Iu
  simp only [EffA.app]
  rw [hns]
  unfold YI
  rw [hct]
  simp only
  rw [hlt,hrest,Bool.and_self,cond_true,hnd,cond_true,hc]
  simp only
  rw [hb]
  simp only
  rw [h1]
  simp only
  rw [hv,h2]
 ·cases hr
end Go.Eng
namespace Go.Proofs.YtcplgmgpagekfaaGreatDoor
open Go Go.Eng Go.Num Go.Bla
def Bb:List AVal:=(Zv.flatten).map fun n=>.u8 (UInt8.ofNat n)
def hC (h:Nat→UInt32) (rest:AVal) (n:UInt64):List AVal:=As 8 h++[.int .i64 32,rest,.u64 n]
def mW (p:Nat→UInt8) (i:Nat):UInt32:=(((0 ||| AD (p (4 * i)).toUInt32 0) ||| AD (p (4 * i+1)).toUInt32 8) ||| AD (p (4 * i+2)).toUInt32 16) ||| AD (p (4 * i+3)).toUInt32 24
def vW (h:Nat→UInt32) (n:UInt64) (last:Bool) (i:Nat):UInt32:=cond (Nat.blt i 8) (h i) (cond (Nat.beq i 12) (iv 4 ^^^ n.toUInt32) (cond (Nat.beq i 13) (iv 5 ^^^ (Ad n 32).toUInt32) (cond (Nat.beq i 14) (cond last (~~~ (iv 6)) (iv 6)) (iv (i - 8)))))
def raD (d k:Nat):AVal:=cond (Nat.beq d 0) (.slice 2 0 64 1) (.slice 3 0 k 1)
def fr6 (d:Nat):Nat:=cond (Nat.beq d 0) 355 396
def HS6 (d k:Nat) (h:Nat→UInt32) (n:UInt64) (p:Nat→UInt8) (v:Nat→UInt32):HL:=[(0,.cells true Bb),(1,.cells false (hC h (raD d k) n)),(2,.cells false (Aq 64 p)),(3+d,.cells false (As 16 (mW p))),(11+d,.cells false (As 16 v)),(59+d,.cells false (As 8 iv))]
def SA6 (d k:Nat) (l:Bool) (h:Nat→UInt32) (n:UInt64) (p:Nat→UInt8) (v:Nat→UInt32) (r:Nat):SA:=⟨[(0,.ptr 1 0),(1,.slice 2 0 64 1),(2,.bool l),(6,.ptr (3+d) 0),(7,.ptr (11+d) 0),(17,.slice 2 0 64 1),(18,.int .i64 64),(19,.int .i64 64),(20,.bool false),(10,.ptr (59+d) 0),(67,.bool l),(11,.fn 127 [.ptr (11+d) 0]),(73,.agg Bb),(74,.int .i64 (r:Int))],HS6 d k h n p v,fr6 d⟩
noncomputable def Zb:List Code:=Aw (AH Tryz.f106)
noncomputable def X2:Code:=A6 (Zb.getD 12 .skip)
def Hc6 (d k:Nat) (h:Nat→UInt32) (n:UInt64) (p:Nat→UInt8):HL:=[(0,.cells true Bb),(1,.cells false (hC h (raD d k) n)),(2,.cells false (Aq 64 p))]
theorem am8 (h:Nat→UInt32) (n:UInt64) (p:Nat→UInt8):CF (Bl Tryz.prog AP (nU 3) [] Tryz.f106.ntmps (mask 106) 200 3 (Zb.take 12) ⟨AY [.ptr 1 0,.slice 2 0 64 1,.bool false] 0,Hc6 0 64 h n p,3⟩ ⟨[],[],[]⟩)=some (SA6 0 64 false h n p (vW h n false) 0,[]):=by kernel_rfl
theorem alf (k:Nat) (h:Nat→UInt32) (n:UInt64) (p:Nat→UInt8):CF (Bl Tryz.prog AP (nU 3) [] Tryz.f106.ntmps (mask 106) 200 4 (Zb.take 12) ⟨AY [.ptr 1 0,.slice 2 0 64 1,.bool true] 0,Hc6 1 k h n p,4⟩ ⟨[],[],[]⟩)=some (SA6 1 k true h n p (vW h n true) 0,[]):=by kernel_rfl
end Go.Proofs.YtcplgmgpagekfaaGreatDoor
namespace Go.Proofs.YtcplgmgpagekfaaGreatDoor
open Go Go.Eng Go.Num Go.Bla
noncomputable def oB (e:EffA) (base:Nat) (H:HL) (v:AVal) (H':HL):Bool:=GB (e.app base H=some (v,H'))
theorem Bx {e:EffA}{base:Nat}{H H':HL}{v:AVal}(h:e.app base H=some (v,H')):oB e base H v H'=true:=DY h
def oC (r:Nat):List AVal:=(Zv.getD r []).map fun n=>.u8 (UInt8.ofNat n)
def wN (d k:Nat):Nat:=fr6 d+cond (Nat.ble 4 k) 304 232
def HRd (d c:Nat) (h:Nat→UInt32) (n:UInt64) (p:Nat→UInt8) (r k:Nat) (v:Nat→UInt32):HL:=HS6 d c h n p v++[(fr6 d+16,.cells false (oC r)),(wN d k,.cells false [.u32 (mW p (ord r (2 * k))),.u32 (mW p (ord r (2 * k+1)))])]
noncomputable def obM (d c:Nat) (h:Nat→UInt32) (n:UInt64) (p:Nat→UInt8) (r k:Nat) (v v':Nat→UInt32):Bool:=oB (mxE 1 k (wN d k) (11+d)) (wN d k+8) (HRd d c h n p r k v) (.tup []) (HRd d c h n p r k v')
def stV (d:Nat) (v:Nat→UInt32):AVal:=.tup [.ptr (11+d) 0,.agg (As 16 v)]
theorem rdA (c:Nat) (h:Nat→UInt32) (n:UInt64) (p:Nat→UInt8) (u v0 v1 v2 v3 v4 v5 v6 v7 v8:Nat→UInt32):(r:Nat)→r < 10→AV Tryz.prog AP (nU 3) [300102,300136] [] [.tup [],stV 0 v1,.tup [],stV 0 v2,.tup [],stV 0 v3,.tup [],stV 0 v4,.tup [],stV 0 v5,.tup [],stV 0 v6,.tup [],stV 0 v7,.tup [],stV 0 v8] Tryz.f106.ntmps (mask 106) 200 3 X2 (SA6 0 c false h n p u 0) (SA6 0 c false h n p v0 r)=some (SA6 0 c false h n p v8 (r+1),[obM 0 c h n p r 7 v7 v8,obM 0 c h n p r 6 v6 v7,obM 0 c h n p r 5 v5 v6,obM 0 c h n p r 4 v4 v5,obM 0 c h n p r 3 v3 v4,obM 0 c h n p r 2 v2 v3,obM 0 c h n p r 1 v1 v2,obM 0 c h n p r 0 v0 v1])
 | 0,_=>by kernel_rfl
 | 1,_=>by kernel_rfl
 | 2,_=>by kernel_rfl
 | 3,_=>by kernel_rfl
 | 4,_=>by kernel_rfl
 | 5,_=>by kernel_rfl
 | 6,_=>by kernel_rfl
 | 7,_=>by kernel_rfl
 | 8,_=>by kernel_rfl
 | 9,_=>by kernel_rfl
theorem rdB (c:Nat) (h:Nat→UInt32) (n:UInt64) (p:Nat→UInt8) (u v0 v1 v2 v3 v4 v5 v6 v7 v8:Nat→UInt32):(r:Nat)→r < 10→AV Tryz.prog AP (nU 3) [300102,300136] [] [.tup [],stV 1 v1,.tup [],stV 1 v2,.tup [],stV 1 v3,.tup [],stV 1 v4,.tup [],stV 1 v5,.tup [],stV 1 v6,.tup [],stV 1 v7,.tup [],stV 1 v8] Tryz.f106.ntmps (mask 106) 200 4 X2 (SA6 1 c true h n p u 0) (SA6 1 c true h n p v0 r)=some (SA6 1 c true h n p v8 (r+1),[obM 1 c h n p r 7 v7 v8,obM 1 c h n p r 6 v6 v7,obM 1 c h n p r 5 v5 v6,obM 1 c h n p r 4 v4 v5,obM 1 c h n p r 3 v3 v4,obM 1 c h n p r 2 v2 v3,obM 1 c h n p r 1 v1 v2,obM 1 c h n p r 0 v0 v1])
 | 0,_=>by kernel_rfl
 | 1,_=>by kernel_rfl
 | 2,_=>by kernel_rfl
 | 3,_=>by kernel_rfl
 | 4,_=>by kernel_rfl
 | 5,_=>by kernel_rfl
 | 6,_=>by kernel_rfl
 | 7,_=>by kernel_rfl
 | 8,_=>by kernel_rfl
 | 9,_=>by kernel_rfl
end Go.Proofs.YtcplgmgpagekfaaGreatDoor
namespace Go.Proofs.YtcplgmgpagekfaaGreatDoor
open Go Go.Eng Go.Num Go.Bla
theorem gl1:Tryz.prog.globals.size=1:=by kernel_rfl
def Ry (k w a:Nat):List AVal:=[.int .i64 (pl 0 k:Nat),.int .i64 (pl 1 k:Nat),.int .i64 (pl 2 k:Nat),.int .i64 (pl 3 k:Nat),.slice w 0 2 1,.ptr a 0]
theorem Ds (n k:Nat) (hk:k < 8) (w a:Nat) (v:Nat→UInt32) (x y:UInt32){H H':HL}{base:Nat}
  (hre:reach (Aa H) (Ry k w a)=[w,a])
  (hn:Bu [w,a]=true) (hc:cnW 1 [w,a] (Ry k w a)=some (Ry k 1 2))
  (hb:blD 1 (Aa H) [w,a] [w,a] 0=some [(1,.cells false [.u32 x,.u32 y]),(2,.cells false (As 16 v))])
  (hk2:bkL 1 [w,a] [w,a] [some (.cells false [.u32 x,.u32 y]),some (.cells false (As 16 (Of k v x y)))]=some [(w,some (.cells false [.u32 x,.u32 y])),(a,some (.cells false (As 16 (Of k v x y))))])
  (hH:AX (AX H w (.cells false [.u32 x,.u32 y])) a (.cells false (As 16 (Of k v x y)))=H') :
  (mxE n k w a).app base H=some (.tup [],H'):=by
 rw [← hH]
 exact WR (Ao _) (ns:=[w,a]) (mxR n v x y k hk) rfl gl1 hre hn hc hb rfl hk2
theorem obA (c:Nat) (h:Nat→UInt32) (n:UInt64) (p:Nat→UInt8) (r:Nat) (v v':Nat→UInt32):(k:Nat)→k < 8→v'=Of k v (mW p (ord r (2 * k))) (mW p (ord r (2 * k+1)))→obM 0 c h n p r k v v'=true
 | 0,hk,e=>by subst e; exact Bx (Ds 1 0 hk (wN 0 0) (11+0) v (mW p (ord r (2 * 0))) (mW p (ord r (2 * 0+1))) (by kernel_rfl) rfl rfl (by kernel_rfl) (by kernel_rfl) (by kernel_rfl))
 | 1,hk,e=>by subst e; exact Bx (Ds 1 1 hk (wN 0 1) (11+0) v (mW p (ord r (2 * 1))) (mW p (ord r (2 * 1+1))) (by kernel_rfl) rfl rfl (by kernel_rfl) (by kernel_rfl) (by kernel_rfl))
 | 2,hk,e=>by subst e; exact Bx (Ds 1 2 hk (wN 0 2) (11+0) v (mW p (ord r (2 * 2))) (mW p (ord r (2 * 2+1))) (by kernel_rfl) rfl rfl (by kernel_rfl) (by kernel_rfl) (by kernel_rfl))
 | 3,hk,e=>by subst e; exact Bx (Ds 1 3 hk (wN 0 3) (11+0) v (mW p (ord r (2 * 3))) (mW p (ord r (2 * 3+1))) (by kernel_rfl) rfl rfl (by kernel_rfl) (by kernel_rfl) (by kernel_rfl))
 | 4,hk,e=>by subst e; exact Bx (Ds 1 4 hk (wN 0 4) (11+0) v (mW p (ord r (2 * 4))) (mW p (ord r (2 * 4+1))) (by kernel_rfl) rfl rfl (by kernel_rfl) (by kernel_rfl) (by kernel_rfl))
 | 5,hk,e=>by subst e; exact Bx (Ds 1 5 hk (wN 0 5) (11+0) v (mW p (ord r (2 * 5))) (mW p (ord r (2 * 5+1))) (by kernel_rfl) rfl rfl (by kernel_rfl) (by kernel_rfl) (by kernel_rfl))
 | 6,hk,e=>by subst e; exact Bx (Ds 1 6 hk (wN 0 6) (11+0) v (mW p (ord r (2 * 6))) (mW p (ord r (2 * 6+1))) (by kernel_rfl) rfl rfl (by kernel_rfl) (by kernel_rfl) (by kernel_rfl))
 | 7,hk,e=>by subst e; exact Bx (Ds 1 7 hk (wN 0 7) (11+0) v (mW p (ord r (2 * 7))) (mW p (ord r (2 * 7+1))) (by kernel_rfl) rfl rfl (by kernel_rfl) (by kernel_rfl) (by kernel_rfl))
theorem obB (c:Nat) (h:Nat→UInt32) (n:UInt64) (p:Nat→UInt8) (r:Nat) (v v':Nat→UInt32):(k:Nat)→k < 8→v'=Of k v (mW p (ord r (2 * k))) (mW p (ord r (2 * k+1)))→obM 1 c h n p r k v v'=true
 | 0,hk,e=>by subst e; exact Bx (Ds 1 0 hk (wN 1 0) (11+1) v (mW p (ord r (2 * 0))) (mW p (ord r (2 * 0+1))) (by kernel_rfl) rfl rfl (by kernel_rfl) (by kernel_rfl) (by kernel_rfl))
 | 1,hk,e=>by subst e; exact Bx (Ds 1 1 hk (wN 1 1) (11+1) v (mW p (ord r (2 * 1))) (mW p (ord r (2 * 1+1))) (by kernel_rfl) rfl rfl (by kernel_rfl) (by kernel_rfl) (by kernel_rfl))
 | 2,hk,e=>by subst e; exact Bx (Ds 1 2 hk (wN 1 2) (11+1) v (mW p (ord r (2 * 2))) (mW p (ord r (2 * 2+1))) (by kernel_rfl) rfl rfl (by kernel_rfl) (by kernel_rfl) (by kernel_rfl))
 | 3,hk,e=>by subst e; exact Bx (Ds 1 3 hk (wN 1 3) (11+1) v (mW p (ord r (2 * 3))) (mW p (ord r (2 * 3+1))) (by kernel_rfl) rfl rfl (by kernel_rfl) (by kernel_rfl) (by kernel_rfl))
 | 4,hk,e=>by subst e; exact Bx (Ds 1 4 hk (wN 1 4) (11+1) v (mW p (ord r (2 * 4))) (mW p (ord r (2 * 4+1))) (by kernel_rfl) rfl rfl (by kernel_rfl) (by kernel_rfl) (by kernel_rfl))
 | 5,hk,e=>by subst e; exact Bx (Ds 1 5 hk (wN 1 5) (11+1) v (mW p (ord r (2 * 5))) (mW p (ord r (2 * 5+1))) (by kernel_rfl) rfl rfl (by kernel_rfl) (by kernel_rfl) (by kernel_rfl))
 | 6,hk,e=>by subst e; exact Bx (Ds 1 6 hk (wN 1 6) (11+1) v (mW p (ord r (2 * 6))) (mW p (ord r (2 * 6+1))) (by kernel_rfl) rfl rfl (by kernel_rfl) (by kernel_rfl) (by kernel_rfl))
 | 7,hk,e=>by subst e; exact Bx (Ds 1 7 hk (wN 1 7) (11+1) v (mW p (ord r (2 * 7))) (mW p (ord r (2 * 7+1))) (by kernel_rfl) rfl rfl (by kernel_rfl) (by kernel_rfl) (by kernel_rfl))
end Go.Proofs.YtcplgmgpagekfaaGreatDoor
namespace Go.Proofs.YtcplgmgpagekfaaGreatDoor
open Go Go.Eng Go.Num Go.Bla
def abd (h v:Nat→UInt32) (i:Nat):UInt32:=h i ^^^ (v i ^^^ v (8+i))
def Fj (h:Nat→UInt32) (n:UInt64) (p:Nat→UInt8) (l:Bool):Nat→UInt32:=abd h (rounds (mW p) 10 (vW h n l))
theorem amd (c:Nat) (h:Nat→UInt32) (n:UInt64) (p:Nat→UInt8) (v:Nat→UInt32):Rv Tryz.prog AP (nU 3) [] Tryz.f106 [1,2] (mask 106) 200 3 2 X2 (Zb.drop 13) (SA6 0 c false h n p v 10) ⟨[],[],[]⟩=some (.tup [],[some (.cells false (hC (abd h v) (raD 0 c) n)),some (.cells false (Aq 64 p))],[]):=by kernel_rfl
theorem alt (c:Nat) (h:Nat→UInt32) (n:UInt64) (p:Nat→UInt8) (v:Nat→UInt32):Rv Tryz.prog AP (nU 3) [] Tryz.f106 [1,2] (mask 106) 200 4 2 X2 (Zb.drop 13) (SA6 1 c true h n p v 10) ⟨[],[],[]⟩=some (.tup [],[some (.cells false (hC (abd h v) (raD 1 c) n)),some (.cells false (Aq 64 p))],[]):=by kernel_rfl
theorem okA (c:Nat) (h:Nat→UInt32) (n:UInt64) (p:Nat→UInt8) (v:Nat→UInt32) (r:Nat):okS Tryz.prog (SA6 0 c false h n p v r)=true:=by kernel_rfl
theorem okB (c:Nat) (h:Nat→UInt32) (n:UInt64) (p:Nat→UInt8) (v:Nat→UInt32) (r:Nat):okS Tryz.prog (SA6 1 c true h n p v r)=true:=by kernel_rfl
theorem acU:Tryz.prog.funcs[106]? = some Tryz.f106:=by kernel_rfl
theorem acp:Tryz.f106.body=some (AH Tryz.f106):=by kernel_rfl
theorem acL:(Aw (AH Tryz.f106))[12]? = some (.block 2 (.loop X2)):=by kernel_rfl
def stp (m:Nat→UInt32) (r:Nat) (v:Nat→UInt32):Nat→Nat→UInt32
 | 0=>v
 | j+1=>Ge m r j (stp m r v j)
theorem Ab {b:Bool}{l:List Bool}(h:b=true) (t:Am l=true):Am (b::l)=true:=by subst h; exact t
theorem akK (c:Nat) (h:Nat→UInt32) (n:UInt64) (p:Nat→UInt8):Ea [1,2] (Au Tryz.prog (nU 3) (mask 106) 200 106 [.ptr 1 0,.slice 2 0 64 1,.bool false] (Hc6 0 c h n p) 3)=some (.tup [],[some (.cells false (hC (Fj h n p false) (raD 0 c) n)),some (.cells false (Aq 64 p))]):=by
 refine IV (Ao _) (ns:=[1,2]) acU acp rfl 12 acL (fun r=>SA6 0 c false h n p (rounds (mW p) r (vW h n false)) r) 10 (sy0:=[]) (os0:=[]) (vs0:=[]) (ob0:=[]) (am8 h n p) rfl ?_ (sy1:=[]) (os1:=[]) (vs1:=[]) (ob1:=[]) (amd c h n p _) rfl (by decide)
 intro r hr
 have hx:=rdA c h n p (rounds (mW p) 0 (vW h n false)) (rounds (mW p) r (vW h n false)) (stp (mW p) r (rounds (mW p) r (vW h n false)) 1) (stp (mW p) r (rounds (mW p) r (vW h n false)) 2) (stp (mW p) r (rounds (mW p) r (vW h n false)) 3) (stp (mW p) r (rounds (mW p) r (vW h n false)) 4) (stp (mW p) r (rounds (mW p) r (vW h n false)) 5) (stp (mW p) r (rounds (mW p) r (vW h n false)) 6) (stp (mW p) r (rounds (mW p) r (vW h n false)) 7) (stp (mW p) r (rounds (mW p) r (vW h n false)) 8) r hr
 refine Bg (Ao _) hx ?_ (okA c h n p _ _)
 exact Ab (obA c h n p r _ _ 7 (by decide) rfl) (Ab (obA c h n p r _ _ 6 (by decide) rfl) (Ab (obA c h n p r _ _ 5 (by decide) rfl) (Ab (obA c h n p r _ _ 4 (by decide) rfl) (Ab (obA c h n p r _ _ 3 (by decide) rfl) (Ab (obA c h n p r _ _ 2 (by decide) rfl) (Ab (obA c h n p r _ _ 1 (by decide) rfl) (Ab (obA c h n p r _ _ 0 (by decide) rfl) rfl)))))))
theorem ajI (c:Nat) (h:Nat→UInt32) (n:UInt64) (p:Nat→UInt8):Ea [1,2] (Au Tryz.prog (nU 3) (mask 106) 200 106 [.ptr 1 0,.slice 2 0 64 1,.bool true] (Hc6 1 c h n p) 4)=some (.tup [],[some (.cells false (hC (Fj h n p true) (raD 1 c) n)),some (.cells false (Aq 64 p))]):=by
 refine IV (Ao _) (ns:=[1,2]) acU acp rfl 12 acL (fun r=>SA6 1 c true h n p (rounds (mW p) r (vW h n true)) r) 10 (sy0:=[]) (os0:=[]) (vs0:=[]) (ob0:=[]) (alf c h n p) rfl ?_ (sy1:=[]) (os1:=[]) (vs1:=[]) (ob1:=[]) (alt c h n p _) rfl (by decide)
 intro r hr
 have hx:=rdB c h n p (rounds (mW p) 0 (vW h n true)) (rounds (mW p) r (vW h n true)) (stp (mW p) r (rounds (mW p) r (vW h n true)) 1) (stp (mW p) r (rounds (mW p) r (vW h n true)) 2) (stp (mW p) r (rounds (mW p) r (vW h n true)) 3) (stp (mW p) r (rounds (mW p) r (vW h n true)) 4) (stp (mW p) r (rounds (mW p) r (vW h n true)) 5) (stp (mW p) r (rounds (mW p) r (vW h n true)) 6) (stp (mW p) r (rounds (mW p) r (vW h n true)) 7) (stp (mW p) r (rounds (mW p) r (vW h n true)) 8) r hr
 refine Bg (Ao _) hx ?_ (okB c h n p _ _)
 exact Ab (obB c h n p r _ _ 7 (by decide) rfl) (Ab (obB c h n p r _ _ 6 (by decide) rfl) (Ab (obB c h n p r _ _ 5 (by decide) rfl) (Ab (obB c h n p r _ _ 4 (by decide) rfl) (Ab (obB c h n p r _ _ 3 (by decide) rfl) (Ab (obB c h n p r _ _ 2 (by decide) rfl) (Ab (obB c h n p r _ _ 1 (by decide) rfl) (Ab (obB c h n p r _ _ 0 (by decide) rfl) rfl)))))))
noncomputable def tkE (args:List AVal):EffA:=Iu Tryz.prog (nU 3) 0 (mask 106) 200 106 2 2 args
noncomputable def Iy:List AVal→Option EffA
 | [.ptr h 0,.slice p 0 64 1,.bool l]=>some (tkE [.ptr h 0,.slice p 0 64 1,.bool l])
 | _=>none
theorem aai:Ai Tryz.prog (Ag 106 Iy):=Ak fun args e he=>by
 unfold Iy at he
 split at he
 ·cases he
  exact Dd (Jm _) AB rfl
 ·cases he
end Go.Proofs.YtcplgmgpagekfaaGreatDoor
namespace Go.Eng
open Go
noncomputable def YD (dl:List Nat) (P:Program) (bs:Nat) (s0 s:SA) (ob:List Bool):Option (SA × List Bool):=
 match Gh dl P bs (Cd s0.fr 0 s0.T s.T) s ob with
 | some (r,ob1)=>cond (okHead P s0 r) none (match Gh dl P bs (G3 s0.fr 0 s0.H r.H) r ob1 with
  | some (r2,ob2)=>some (⟨BU s0.T r2.T,BQ s0.H r2.H++CD s0.H s0.fr r2.H,s0.fr⟩,ob2)
  | none=>none)
 | none=>none
theorem XZ {dl:List Nat}{P:Program}{bs:Nat}{s0 s s1:SA}{ob ob':List Bool}(h:YD dl P bs s0 s ob=some (s1,ob')) (ha:Am ob'=true) (ho:okS P s1=true):AW P bs s0 s=s1∧Am ob=true:=by
 unfold YD at h
 split at h
 ·rename_i r ob1 hr
  cases hc:okHead P s0 r with
  | true=>rw [hc] at h; cases h
  | false =>
   rw [hc,cond_false] at h
   split at h
   ·rename_i r2 ob2 hr2
    cases h
    obtain ⟨e2,a2⟩:=EJ hr2 ha
    obtain ⟨e1,a1⟩:=EJ hr a2
    refine ⟨?_,a1⟩
    unfold AW SX
    rw [e1,hc,cond_false,e2]
    have ho2:okHead P s0 r2=true:=ho
    rw [ho2,cond_true]
    unfold GK
    unfold okHead at ho2
    rw [ho2,cond_true]
   ·cases h
 ·cases h
noncomputable def HE (dl:List Nat) (P:Program) (ps:PS) (cs:CS) (sy:List Nat) (os:List Bool) (vs:List AVal) (nt nn F bs:Nat) (b:Code) (s0 s:SA):Option (SA × List Bool):=
 match evT P ps cs sy nt nn F bs b s ⟨os,vs,[]⟩ with
 | some (.normal,s',q)=>YD dl P bs s0 s' q.ob
 | _=>none
theorem GU {dl:List Nat}{P:Program}{ps:PS}{cs:CS}(hps:Bt ps cs){sy:List Nat}{os:List Bool}{vs:List AVal}{nt nn F bs:Nat}{b:Code}{s0 s s1:SA}{ob:List Bool}(h:HE dl P ps cs sy os vs nt nn F bs b s0 s=some (s1,ob)) (ha:Am ob=true) (ho:okS P s1=true) :
  AU (evC P cs nt nn F bs b) (AW P bs s0) s=some s1:=by
 unfold HE at h
 split at h
 ·rename_i s' q hev
  obtain ⟨e1,e2⟩:=XZ h ha ho
  simp only [AU,(BC hps b _ _ _ _ _ hev e2).1,e1]
 ·cases h
noncomputable def Zf (g h:Nat) (ct pre:List AVal) (post:Nat→List AVal) (newc:List AVal) (v:AVal):EffA:=.eff fun base η =>
 cond (GB (η g=some (.cells true ct)∧η h=some (.cells false pre)∧h ≠ base)) (some (v,[(h,some (.cells false (post base))),(base,some (.cells false newc))])) none
theorem Xi {g h base:Nat}{ct pre:List AVal}{post:Nat→List AVal}{newc:List AVal}{v:AVal}{H:HL}(h1:Aa H g=some (.cells true ct)) (h2:Aa H h=some (.cells false pre)) (h3:h ≠ base) :
  (Zf g h ct pre post newc v).app base H=some (v,Bo H [(h,some (.cells false (post base))),(base,some (.cells false newc))]):=by
 unfold Zf
 simp only [EffA.app]
 rw [DY ⟨h1,h2,h3⟩]
 rfl
theorem OP {P:Program}{cs:CS}(hcs:Ai P cs) (hm:P.follows .mixedOrders=true){f:FuncId}{g h nn F fr kk:Nat}{xs ct pre newc:List AVal}{post:Nat→List AVal}{v:AVal}{G:Nat}(hG:P.globals.size=G)
  (hgl:g < G) (hpre:ltL 0 pre=true) (hct:ltL 0 ct=true) (hxs:ltL 0 xs=true) (hnew:ltL 0 newc=true) (hv:ltV 0 v=true) (hpost:∀ (ρ:Nat→Nat→Prop) a b,ρ a b→RL ρ (post a) (post b))
  (hrun:Ea [G,kk] (Au P cs nn F f (.ptr G 0::xs) [(g,.cells true ct),(G,.cells false pre)] fr)=some (v,[some (.cells false (post kk)),some (.cells false newc)])) (hfr:G+1≤fr) (hkk:fr≤kk) :
  AG P f (.ptr h 0::xs) (Zf g h ct pre post newc v):=by
 subst hG
 unfold Zf
 refine Do hcs hm fun base η v' us hK => ?_
 cases hd:GB (η g=some (.cells true ct)∧η h=some (.cells false pre)∧h ≠ base) with
 | false=>rw [hd] at hK; cases hK
 | true =>
 rw [hd] at hK
 simp only [cond_true,Option.some.injEq,Prod.mk.injEq] at hK
 obtain ⟨rfl,rfl⟩:=hK
 obtain ⟨h1,h2,h3⟩:=JU hd
 unfold Ea at hrun
 split at hrun
 rotate_left
 ·cases hrun
 rename_i v' H' fr' hr
 simp only [Option.some.injEq,Prod.mk.injEq,List.map_cons,List.map_nil,List.cons.injEq,and_true] at hrun
 obtain ⟨rfl,e1,e2⟩:=hrun
 refine ⟨{ nn:=nn,F:=F,ns:=[h],ks:=[kk],cargs:=.ptr P.globals.size 0::xs,Hc:=[(g,.cells true ct),(P.globals.size,.cells false pre)],fr:=fr,v0:=v',H':=H',fr':=fr',hns:=by simp,hη:=fun n hn => ?_,hargs:=RL.cons (.ptr (.inr ⟨0,rfl,rfl⟩)) (RL.same hxs),hblk:=fun k o hk => ?_,hfr:=hfr,hrun:=hr,hks:=by simp,hks8:=by simp,hkfr:=fun k hk => ?_,hv:=.same hv,hnd:=?_,hus:=fun m x hm => ?_,hall:=fun i n o hi ho hro => ?_ }⟩
 ·simp only [List.mem_singleton] at hn
  subst hn
  exact .inl ⟨_,h2⟩
 ·simp only [Aa] at hk
  rcases beq_cases g k with ⟨e,hb⟩ | ⟨e,hb⟩ <;> rw [hb] at hk
  ·simp only [cond_true,Option.some.injEq] at hk
   subst hk
   subst e
   exact ⟨g,_,.inl ⟨hgl,rfl⟩,h1,⟨true,ct,ct,rfl,rfl,RL.same hct⟩,fun _=>rfl⟩
  ·simp only [cond_false] at hk
   rcases beq_cases P.globals.size k with ⟨e',hb'⟩ | ⟨e',hb'⟩ <;> rw [hb'] at hk
   ·simp only [cond_true,Option.some.injEq] at hk
    subst hk
    exact ⟨h,_,.inr ⟨0,by omega,rfl⟩,h2,⟨false,pre,pre,rfl,rfl,RL.same hpre⟩,fun hk=>by omega⟩
   ·cases hk
 ·simp only [List.mem_singleton] at hk
  subst hk
  exact hkk
 ·simpa using h3
 ·simp only [List.mem_cons,Prod.mk.injEq,List.not_mem_nil,or_false] at hm
  have hp:ρ1 P.globals.size [h] [kk] base kk base:=.inr ⟨0,rfl,rfl⟩
  rcases hm with ⟨rfl,rfl⟩ | ⟨rfl,rfl⟩
  ·exact .inl ⟨0,rfl,.inr ⟨_,_,rfl,e1,rfl,false,_,_,rfl,rfl,hpost _ _ _ hp⟩⟩
  ·exact .inr ⟨0,kk,_,_,rfl,rfl,rfl,e2,rfl,false,_,_,rfl,rfl,RL.same hnew⟩
 ·cases i with
  | zero=>simp only [List.getElem?_cons_zero,Option.some.injEq] at hi; subst hi; exact ⟨_,List.mem_cons_self ..⟩
  | succ i=>simp at hi
def mkE (c:List AVal) (mk:Nat→AVal):EffA:=.eff fun base _=>some (mk base,[(base,some (.cells false c))])
def YT (k:Nat) (x:Option (AVal × HL × Nat)):Option (AVal × List AVal):=match x with
 | some (v,H',_)=>match Aa H' k with
  | some (.cells false c)=>some (v,c)
  | _=>none
 | none=>none
theorem Mu {P:Program}{cs:CS}(hcs:Ai P cs) (hm:P.follows .mixedOrders=true){f:FuncId}{nn F G kk:Nat}{args c:List AVal}{mk:Nat→AVal}(hG:P.globals.size=G) (hargs:ltL 0 args=true) (hc:ltL 0 c=true)
  (hmk:∀ (ρ:Nat→Nat→Prop) a b,ρ a b→RN ρ (mk a) (mk b)) (hrun:YT kk (Au P cs nn F f args [] G)=some (mk kk,c)) (hkk:G≤kk):AG P f args (mkE c mk):=by
 subst hG
 unfold mkE
 refine Do hcs hm fun base η v' us hK => ?_
 simp only [Option.some.injEq,Prod.mk.injEq] at hK
 obtain ⟨rfl,rfl⟩:=hK
 unfold YT at hrun
 split at hrun
 rotate_left
 ·cases hrun
 rename_i v0 H' fr' hr
 split at hrun
 rotate_left
 ·cases hrun
 rename_i c' hk
 simp only [Option.some.injEq,Prod.mk.injEq] at hrun
 obtain ⟨rfl,rfl⟩:=hrun
 have hp:ρ1 P.globals.size [] [kk] base kk base:=.inr ⟨0,rfl,rfl⟩
 refine ⟨{ nn:=nn,F:=F,ns:=[],ks:=[kk],cargs:=args,Hc:=[],fr:=P.globals.size,v0:=mk kk,H':=H',fr':=fr',hns:=List.nodup_nil,hη:=fun n hn=>by (cases hn),hargs:=RL.same hargs,hblk:=fun k o hk=>by (cases hk),hfr:=Nat.le_refl _,hrun:=hr,hks:=by simp,hks8:=by simp,hkfr:=fun k hk=>by (simp only [List.mem_singleton] at hk; subst hk; exact hkk),hv:=hmk _ _ _ hp,hnd:=by simp,hus:=fun m x hm => ?_,hall:=fun i n o hi ho hro=>by (simp at hi) }⟩
 simp only [List.mem_cons,Prod.mk.injEq,List.not_mem_nil,or_false] at hm
 obtain ⟨rfl,rfl⟩:=hm
 exact .inr ⟨0,kk,_,_,rfl,rfl,rfl,hk,rfl,false,_,_,rfl,rfl,RL.same hc⟩
end Go.Eng
namespace Go.Proofs.YtcplgmgpagekfaaGreatDoor
open Go Go.Eng Go.Num Go.Bla
def ST (s:List UInt8) (x:Int):TL:=[(0,.ptr 1 0),(1,.str s),(4,.int .i64 0),(14,.bool false),(16,.int .i64 (s.length:Int)),(17,.int .i64 x)]
def I0 (h:Nat→UInt32) (s:List UInt8):SA:=⟨ST s 0,[(0,.cells true Bb),(1,.cells false (hC h .nilSlice 0))],106⟩
def HA (h:Nat→UInt32) (n:UInt64) (k:Nat) (c:List AVal):HL:=[(0,.cells true Bb),(1,.cells false (hC h (.slice 105 0 k 1) n)),(105,.cells false c)]
def IA (h:Nat→UInt32) (n:UInt64) (k:Nat) (c:List AVal) (s:List UInt8) (x:Int):SA:=⟨ST s x,HA h n k c,106⟩
noncomputable def b83:Code:=A6 ((Aw (AH Tryz.f83)).getD 4 .skip)
def inB (s:List UInt8) (j:Nat):Bool:=decide ((0:Int)≤(j:Int)) && decide ((j:Int) < (s.length:Int))
def ltB (s:List UInt8) (j:Nat):Bool:=decide ((j:Int) < (s.length:Int))
noncomputable def tkO (h h2:Nat→UInt32) (n n2:UInt64) (p:Nat→UInt8):Bool:=oB (tkE [.ptr 1 0,.slice 105 0 64 1,.bool false]) 282 (HA h n 64 (Aq 64 p)) (.tup []) (HA h2 n2 64 (Aq 64 p))
def grC (k:Nat) (p:Nat→UInt8) (x:UInt8):List AVal:=((Aq k p).drop 0).take (k * 1)++[.u8 x]
def grO (k:Nat) (p:Nat→UInt8):Bool:=Nat.ble (0+1 * 1) 1 && (((Nat.ble ((k+1) * 1) 140737488355328 && Nat.ble (k+1) 140737488355328) && true) && Nat.ble (0+k * 1) (Aq k p).length)
section
variable (F:Nat) (h0 h h2:Nat→UInt32) (n n2:UInt64) (s:List UInt8) (j k:Nat) (p:Nat→UInt8)
theorem aiU:CF (Bl Tryz.prog AP (Ag 106 Iy) [] Tryz.f83.ntmps (mask 83) F 2 ((Aw (AH Tryz.f83)).take 4) ⟨AY [.ptr 1 0,.str s] 0,[(0,.cells true Bb),(1,.cells false (hC h0 .nilSlice 0))],2⟩ ⟨[],[],[]⟩)=some (I0 h0 s,[]):=by kernel_rfl
theorem alB:HE [] Tryz.prog AP (Ag 106 Iy) [18,54] [true] [] Tryz.f83.ntmps (mask 83) F 2 b83 (I0 h0 s) (I0 h0 s)=some (IA h0 0 1 [.u8 (s.getD 0 0)] s 1,[inB s 0,ltB s 0]):=by kernel_rfl
theorem alV:HE [250] Tryz.prog AP (Ag 106 Iy) [18,25,54,56] [true,false] [] Tryz.f83.ntmps (mask 83) F 2 b83 (I0 h0 s) (IA h n k (Aq k p) s (j:Nat))=some (IA h n (k+1) (grC k p (s.getD j 0)) s (IntKind.wrap .i64 ((j:Int)+1)),[ltL 0 (grC k p (s.getD j 0)),grO k p,inB s j,!((k:Int) == 64),ltB s j]):=by kernel_rfl
theorem anI:HE [] Tryz.prog AP (Ag 106 Iy) [18,54,300038] [true] [.tup [],.tup [.ptr 1 0,.agg (hC h2 (.slice 105 0 64 1) n2),.ptr 105 0,.agg (Aq 64 p)]] Tryz.f83.ntmps (mask 83) F 2 b83 (I0 h0 s) (IA h n 64 (Aq 64 p) s (j:Nat))=some (IA h2 n2 1 [.u8 (s.getD j 0)] s (IntKind.wrap .i64 ((j:Int)+1)),[inB s j,tkO h h2 (n+64) n2 p,ltB s j]):=by kernel_rfl
theorem amt (c:List AVal):Rv Tryz.prog AP (Ag 106 Iy) [18] Tryz.f83 [1,105] (mask 83) F 2 0 b83 ((Aw (AH Tryz.f83)).drop 5) (IA h n k c s (j:Nat)) ⟨[false],[],[]⟩=some (.int .i64 0,[some (.cells false (hC h (.slice 105 0 k 1) n)),some (.cells false c)],[!(ltB s j)]):=by kernel_rfl
end
end Go.Proofs.YtcplgmgpagekfaaGreatDoor
namespace Go.Proofs.YtcplgmgpagekfaaGreatDoor
open Go Go.Eng Go.Num Go.Bla
theorem By:ltL 0 Bb=true:=by kernel_rfl
theorem ady (h:Nat→UInt32) (n:UInt64) (p:Nat→UInt8):tkO h (Fj h n p false) n n p=true:=by
 refine Bx ?_
 refine Eq.trans (Hy (G:=1) (ns:=[1,105]) (akK 64 h n p) (by rfl) By (by rfl) gl1 (by kernel_rfl) (by rfl) (by rfl) (by kernel_rfl) (by rfl) (us:=[(1,some (.cells false (hC (Fj h n p false) (.slice 105 0 64 1) n))),(105,some (.cells false (Aq 64 p)))]) (by kernel_rfl)) ?_
 rfl
def pcF (s:List UInt8) (q i:Nat):UInt8:=s.getD (64 * q+i) 0
def hsF (h:Nat→UInt32) (s:List UInt8):Nat→Nat→UInt32
 | 0=>h
 | q+1=>Fj (hsF h s q) (UInt64.ofNat (64 * q)+64) (pcF s q) false
def nq (q:Nat):UInt64:=UInt64.ofNat (64 * q)
theorem alp (q:Nat):nq q+64=nq (q+1):=by
 unfold nq
 rw [Nat.mul_succ,UInt64.ofNat_add]
 rfl
def Ij (h:Nat→UInt32) (s:List UInt8):Nat→SA
 | 0=>I0 h s
 | j+1=>IA (hsF h s (j / 64)) (nq (j / 64)) (j % 64+1) (Aq (j % 64+1) (pcF s (j / 64))) s ((j+1:Nat):Int)
theorem agE (k:Nat) (p:Nat→UInt8):grC k p (p k)=Aq (k+1) p:=by
 unfold grC Aq
 rw [List.drop_zero,List.take_of_length_le (by simp),List.range_succ,List.map_append]
 rfl
theorem P1 (m k:Nat) (p:Nat→UInt8):ltL m (Aq k p)=true:=by
 unfold Aq
 induction List.range k with
 | nil=>rfl
 | cons x l ih=>exact ih
theorem WZ (h:Nat→UInt32) (n:UInt64) (k:Nat) (c:List AVal) (s:List UInt8) (x:Int) (hc:ltL 106 c=true):okS Tryz.prog (IA h n k c s x)=true:=by
 have e:okS Tryz.prog (IA h n k c s x)=(true && cond (true && ltL 106 c) true false && true):=by kernel_rfl
 rw [e,hc]; rfl
theorem Y0 (s:List UInt8) (j:Nat) (h:j < s.length):inB s j=true∧ltB s j=true:=by
 unfold inB ltB
 simp
 omega
theorem afi (F:Nat) (h:Nat→UInt32) (s:List UInt8) (hl:s.length≤140737488355328) (j:Nat) (hj:j < s.length):AU (evC Tryz.prog (Ag 106 Iy) Tryz.f83.ntmps (mask 83) F 2 b83) (AW Tryz.prog 2 (I0 h s)) (Ij h s j)=some (Ij h s (j+1)):=by
 obtain ⟨b1,b2⟩:=Y0 s j hj
 cases j with
 | zero =>
  refine GU (Ao _) (alB F h s) (Ab b1 (Ab b2 rfl)) (WZ _ _ _ _ _ _ rfl)
 | succ j =>
  have hw:IntKind.wrap .i64 (((j+1:Nat):Int)+1)=((j+1+1:Nat):Int):=by
   rw [CK _ (by omega) (by omega)]; rfl
  by_cases hk:j % 64+1=64
  ·have e1:(j+1) / 64=j / 64+1:=by omega
   have e2:(j+1) % 64=0:=by omega
   have hr:=anI F h (hsF h s (j / 64)) (hsF h s (j / 64+1)) (nq (j / 64)) (nq (j / 64+1)) s (j+1) (pcF s (j / 64))
   have ht:tkO (hsF h s (j / 64)) (hsF h s (j / 64+1)) (nq (j / 64)+64) (nq (j / 64+1)) (pcF s (j / 64))=true:=by
    rw [← alp]
    exact ady _ _ _
   rw [hw] at hr
   have hx:=GU (Ao _) hr (Ab b1 (Ab ht (Ab b2 rfl))) (WZ _ _ _ _ _ _ rfl)
   show AU _ _ (IA (hsF h s (j / 64)) (nq (j / 64)) (j % 64+1) (Aq (j % 64+1) (pcF s (j / 64))) s ((j+1:Nat):Int))=some (IA (hsF h s ((j+1) / 64)) (nq ((j+1) / 64)) ((j+1) % 64+1) (Aq ((j+1) % 64+1) (pcF s ((j+1) / 64))) s ((j+1+1:Nat):Int))
   rw [hk,e1,e2]
   have e3:Aq (0+1) (pcF s (j / 64+1))=[.u8 (s.getD (j+1) 0)]:=by
    show [AVal.u8 (s.getD (64 * (j / 64+1)+0) 0)]=_
    rw [show 64 * (j / 64+1)+0=j+1 by omega]
   rw [e3]
   exact hx
  ·have e1:(j+1) / 64=j / 64:=by omega
   have e2:(j+1) % 64=j % 64+1:=by omega
   have hp:s.getD (j+1) 0=pcF s (j / 64) (j % 64+1):=by
    unfold pcF
    rw [show 64 * (j / 64)+(j % 64+1)=j+1 by omega]
   have hr:=alV F h (hsF h s (j / 64)) (nq (j / 64)) s (j+1) (j % 64+1) (pcF s (j / 64))
   rw [hw,hp,agE] at hr
   have hg:grO (j % 64+1) (pcF s (j / 64))=true:=by
    unfold grO
    have:(Aq (j % 64+1) (pcF s (j / 64))).length=j % 64+1:=by simp [Aq]
    rw [this]
    have i1:Nat.ble ((j % 64+1+1) * 1) 140737488355328=true:=by rw [Nat.ble_eq]; omega
    have i2:Nat.ble (j % 64+1+1) 140737488355328=true:=by rw [Nat.ble_eq]; omega
    have i3:Nat.ble (0+(j % 64+1) * 1) (j % 64+1)=true:=by rw [Nat.ble_eq]; omega
    rw [i1,i2,i3]
    rfl
   have hne:(!(((j % 64+1:Nat):Int) == 64))=true:=by
    simp
    omega
   have hx:=GU (Ao _) hr (Ab (P1 _ _ _) (Ab hg (Ab b1 (Ab hne (Ab b2 rfl))))) (WZ _ _ _ _ _ _ (P1 _ _ _))
   show AU _ _ (IA (hsF h s (j / 64)) (nq (j / 64)) (j % 64+1) (Aq (j % 64+1) (pcF s (j / 64))) s ((j+1:Nat):Int))=some (IA (hsF h s ((j+1) / 64)) (nq ((j+1) / 64)) ((j+1) % 64+1) (Aq ((j+1) % 64+1) (pcF s ((j+1) / 64))) s ((j+1+1:Nat):Int))
   rw [e1,e2]
   exact hx
def qL (s:List UInt8):Nat:=(s.length - 1) / 64
def kL (s:List UInt8):Nat:=(s.length - 1) % 64+1
def OX (h:Nat→UInt32) (s:List UInt8) (r:Nat):List AVal:=hC (hsF h s (qL s)) (.slice r 0 (kL s) 1) (nq (qL s))
theorem amY:Tryz.prog.funcs[83]? = some Tryz.f83:=by kernel_rfl
theorem amW:Tryz.f83.body=some (AH Tryz.f83):=by kernel_rfl
theorem alM:(Aw (AH Tryz.f83))[4]? = some (.block 0 (.loop b83)):=by kernel_rfl
theorem aiB (h:Nat→UInt32) (s:List UInt8) (hl:s.length≤140737488355328) (h0:0 < s.length):Ea [1,105] (Au Tryz.prog (Ag 106 Iy) (mask 83) (s.length+1) 83 [.ptr 1 0,.str s] [(0,.cells true Bb),(1,.cells false (hC h .nilSlice 0))] 2)=some (.int .i64 0,[some (.cells false (OX h s 105)),some (.cells false (Aq (kL s) (pcF s (qL s))))]):=by
 have he:=amt (s.length+1) (hsF h s (qL s)) (nq (qL s)) s s.length (kL s) (Aq (kL s) (pcF s (qL s)))
 have hi:Ij h s s.length=IA (hsF h s (qL s)) (nq (qL s)) (kL s) (Aq (kL s) (pcF s (qL s))) s (s.length:Nat):=by
  obtain ⟨m,hm⟩:∃ m,s.length=m+1:=⟨s.length - 1,by omega⟩
  unfold qL kL
  rw [hm]
  simp only [Nat.add_sub_cancel]
  rfl
 rw [← hi] at he
 have hb:(!(ltB s s.length))=true:=by simp [ltB]
 exact IV (Ao _) (ns:=[1,105]) amY amW rfl 4 alM (Ij h s) s.length (aiU (s.length+1) h s) rfl (fun j hj=>afi _ h s hl j hj) he (Ab hb rfl) (Nat.lt_succ_self _)
noncomputable def adE (a:Nat) (h:Nat→UInt32) (s:List UInt8):EffA:=Zf 0 a Bb (hC h .nilSlice 0) (OX h s) (Aq (kL s) (pcF s (qL s))) (.int .i64 0)
theorem ab2 (h:Nat→UInt32) (s:List UInt8) (hl:s.length≤140737488355328) (h0:0 < s.length) (a:Nat):AG Tryz.prog 83 [.ptr a 0,.str s] (adE a h s):=by
 refine OP (Ak fun args e he => ?_) AB gl1 (by decide) (by kernel_rfl) By rfl (P1 _ _ _) rfl (fun ρ a b hab => ?_) (aiB h s hl h0) (by decide) (by decide)
 ·unfold Iy at he
  split at he
  ·cases he
   exact Dd (Jm _) AB rfl
  ·cases he
 ·unfold OX hC
  refine RL.append (RL.same rfl) ?_
  exact RL.cons (.same rfl) (RL.cons (.slice hab) (RL.same rfl))
end Go.Proofs.YtcplgmgpagekfaaGreatDoor
