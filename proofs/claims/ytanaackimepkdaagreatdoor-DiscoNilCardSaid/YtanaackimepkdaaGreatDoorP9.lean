/- Texts QACi1, Eng36, QACi2a, QACi2b, QACi2c, QACi2d, QACi3a, Eng37, QACi3b, QACi4, QACi5, Pv1, Pv2, QAPl1, QAPl2, QAPl3: what they show that this claim uses. -/
import Derived.Test.YtanaackimepkdaaGreatDoorP8
import Derived.Test.YtanaackimepkdaaGreatDoorP6
import Derived.Test.YtanaackimepkdaaGreatDoorP5
import Derived.Test.YtanaackimepkdaaGreatDoorP7
set_option maxRecDepth 100000
set_option maxHeartbeats 1000000
set_option linter.unusedVariables false
set_option linter.unusedSimpArgs false
namespace Go.Proofs.YtanaackimepkdaaGreatDoor.Cha
open Go Go.Eng Go.Cha
structure Fb where
 may:List UInt8→List UInt8→Bool
 bb:List UInt8→List UInt8→UInt32→Nat→UInt8
def realFb:Fb:=⟨may,byteAt⟩
def blkL (φ:Fb) (k n:List UInt8) (c:UInt32):List UInt8:=(List.range 64).map (φ.bb k n c)
theorem blkL_real (k n:List UInt8) (c:UInt32):blkL realFb k n c=block k n c:=(block_list k n c).symm
theorem m8a (k n:List UInt8):ansO (run1O Tryz.prog noPS noCS [7,11] [false] [] (mask 84) 100 84 [.str k,.str n] [] Tryz.prog.globals.size)=some (.bool false,[!((k.length:Int) == 32)]):=by kernel_rfl
theorem m8b (k n:List UInt8):ansO (run1O Tryz.prog noPS noCS [7,11] [true,false] [] (mask 84) 100 84 [.str k,.str n] [] Tryz.prog.globals.size)=some (.bool false,[!((n.length:Int) == 12),(k.length:Int) == 32]):=by kernel_rfl
theorem m8c (k n:List UInt8):ansO (run1O Tryz.prog noPS noCS [7,11] [true,true] [] (mask 84) 100 84 [.str k,.str n] [] Tryz.prog.globals.size)=some (.bool true,[(n.length:Int) == 12,(k.length:Int) == 32]):=by kernel_rfl
theorem m12a (k n:List UInt8):ansO (run1O Tryz.prog noPS noCS [7,11] [false] [] (mask 113) 100 113 [.str k,.str n] [] Tryz.prog.globals.size)=some (.bool false,[!((k.length:Int) == 32)]):=by kernel_rfl
theorem m12b (k n:List UInt8):ansO (run1O Tryz.prog noPS noCS [7,11] [true,false] [] (mask 113) 100 113 [.str k,.str n] [] Tryz.prog.globals.size)=some (.bool false,[!((n.length:Int) == 12),(k.length:Int) == 32]):=by kernel_rfl
theorem m12c (k n:List UInt8):ansO (run1O Tryz.prog noPS noCS [7,11] [true,true] [] (mask 113) 100 113 [.str k,.str n] [] Tryz.prog.globals.size)=some (.bool true,[(n.length:Int) == 12,(k.length:Int) == 32]):=by kernel_rfl
theorem intEq (n m:Nat):((n:Int) == (m:Int))=(n == m):=by rw [Bool.eq_iff_iff]; simp only [beq_iff_eq]; omega
theorem may_run {f:FuncId}{nn:Nat}(ha:∀ k n,ansO (run1O Tryz.prog noPS noCS [7,11] [false] [] nn 100 f [.str k,.str n] [] Tryz.prog.globals.size)=some (.bool false,[!((k.length:Int) == 32)]))
  (hb:∀ k n,ansO (run1O Tryz.prog noPS noCS [7,11] [true,false] [] nn 100 f [.str k,.str n] [] Tryz.prog.globals.size)=some (.bool false,[!((n.length:Int) == 12),(k.length:Int) == 32]))
  (hc:∀ k n,ansO (run1O Tryz.prog noPS noCS [7,11] [true,true] [] nn 100 f [.str k,.str n] [] Tryz.prog.globals.size)=some (.bool true,[(n.length:Int) == 12,(k.length:Int) == 32])) (k n:List UInt8) :
  (run1 Tryz.prog noCS nn 100 f [.str k,.str n] [] Tryz.prog.globals.size).map (·.1)=some (.bool (may k n)):=by
 unfold may
 have e1:((k.length:Int) == 32)=(k.length == 32):=intEq _ 32
 have e2:((n.length:Int) == 12)=(n.length == 12):=intEq _ 12
 cases h1:(k.length == 32)
 ·exact ansO_run (noPS_ok _) (ha k n) (by rw [e1,h1]; rfl)
 cases h2:(n.length == 12)
 ·exact ansO_run (noPS_ok _) (hb k n) (by rw [e1,e2,h1,h2]; rfl)
 ·exact ansO_run (noPS_ok _) (hc k n) (by rw [e1,e2,h1,h2]; rfl)
def k8 (φ:Fb):List AVal→Option EffA
 | [.str a,.str b]=>some (.pure (.bool (φ.may a b)))
 | _=>none
theorem k8_ok:CSOk Tryz.prog (csOne 84 (k8 realFb)):=csOne_ok fun args e he=>by
 unfold k8 at he
 split at he
 ·rename_i a b
  cases he
  exact callOk_val (noCS_ok _) hmix (may_run m8a m8b m8c a b) rfl rfl
 ·cases he
theorem k12_ok:CSOk Tryz.prog (csOne 113 (k8 realFb)):=csOne_ok fun args e he=>by
 unfold k8 at he
 split at he
 ·rename_i a b
  cases he
  exact callOk_val (noCS_ok _) hmix (may_run m12a m12b m12c a b) rfl rfl
 ·cases he
def k9 (φ:Fb):List AVal→Option (EffA × Bool)
 | [.str a,.str b,.u32 c]=>some (.pure (.str (blkL φ a b c)),φ.may a b)
 | _=>none
theorem k9_ok:CSOk Tryz.prog (csP (psOne 142 (k9 realFb))):=csP_one fun args v he=>by
 unfold k9 at he
 split at he
 ·rename_i a b c
  simp only [Option.some.injEq,Prod.mk.injEq] at he
  obtain ⟨rfl,h⟩:=he
  obtain ⟨h1,h2⟩:=may_true.1 (show may a b=true from h)
  rw [blkL_real]
  exact callOk_val cs1_ok hmix (blk9 h1 h2 c) rfl rfl
 ·cases he
def k13 (φ:Fb):List AVal→Option (EffA × Bool)
 | [.str a,.str b,.u32 c]=>some (.pure (.agg ((List.range 64).map fun i=>.u8 (φ.bb a b c i))),φ.may a b)
 | _=>none
theorem bytesV_blk (a b:List UInt8) (c:UInt32):bytesV (block a b c)=.agg ((List.range 64).map fun i=>.u8 (realFb.bb a b c i)):=by
 rw [← blkL_real]
 unfold bytesV blkL
 rw [List.map_map]
 rfl
theorem k13_ok:CSOk Tryz.prog (csP (psOne 162 (k13 realFb))):=csP_one fun args v he=>by
 unfold k13 at he
 split at he
 ·rename_i a b c
  simp only [Option.some.injEq,Prod.mk.injEq] at he
  obtain ⟨rfl,h⟩:=he
  obtain ⟨h1,h2⟩:=may_true.1 (show may a b=true from h)
  have:=blk13 h1 h2 c
  rw [bytesV_blk] at this
  exact callOk_val cs1_ok hmix this rfl (ltL_u8 0 ((List.range 64).map fun i=>realFb.bb a b c i))
 ·cases he
def psb (φ:Fb):PS:=psAlt (psOne 142 (k9 φ)) (psOne 162 (k13 φ))
theorem psb_ok:CSOk Tryz.prog (csP (psb realFb)):=csP_alt k9_ok k13_ok
def chb (φ:Fb):CS:=csAlt (csOne 84 (k8 φ)) (csOne 113 (k8 φ))
theorem chb_ok:CSOk Tryz.prog (chb realFb):=csAlt_ok k8_ok k12_ok
def nb (φ:Fb):CS:=csAlt (csP (psb φ)) (chb φ)
theorem nb_ok:CSOk Tryz.prog (nb realFb):=csAlt_ok psb_ok chb_ok
theorem nb_ps (φ:Fb):PSOk (psb φ) (nb φ):=csP_ok
theorem w7a (φ:Fb) (k n:List UInt8) (c:UInt32):ansO (run1O Tryz.prog (psb φ) (nb φ) [12,16] [true] [] (mask 115) 100 115 [.str k,.str n,.u32 c] [] Tryz.prog.globals.size)=some (.tup [.str [],.int .i64 2],[!(φ.may k n)]):=by kernel_rfl
theorem w7b (φ:Fb) (k n:List UInt8) (c:UInt32):ansO (run1O Tryz.prog (psb φ) (nb φ) [12,16] [false] [] (mask 115) 100 115 [.str k,.str n,.u32 c] [] Tryz.prog.globals.size)=some (.tup [.str (blkL φ k n c),.int .i64 0],[φ.may k n,!(!(φ.may k n))]):=by kernel_rfl
theorem run7 (k n:List UInt8) (c:UInt32):(run1 Tryz.prog (nb realFb) (mask 115) 100 115 [.str k,.str n,.u32 c] [] Tryz.prog.globals.size).map (·.1)=some (cond (may k n) (.tup [.str (blkL realFb k n c),.int .i64 0]) (.tup [.str [],.int .i64 2])):=by
 cases h:may k n
 ·exact ansO_run (nb_ps _) (w7a realFb k n c) (by show allT [!(may k n)]=true; rw [h]; rfl)
 ·exact ansO_run (nb_ps _) (w7b realFb k n c) (by show allT [may k n,!(!(may k n))]=true; rw [h]; rfl)
def k7 (φ:Fb):List AVal→Option EffA
 | [.str a,.str b,.u32 c]=>some (.pure (.tup [.str (cond (φ.may a b) (blkL φ a b c) []),.int .i64 (cond (φ.may a b) 0 2)]))
 | _=>none
theorem k7_ok:CSOk Tryz.prog (csOne 115 (k7 realFb)):=csOne_ok fun args e he=>by
 unfold k7 at he
 split at he
 ·rename_i a b c
  cases he
  have h:=run7 a b c
  have e:realFb.may a b=may a b:=rfl
  rw [e]
  cases hm:may a b <;> rw [hm] at h
  ·exact callOk_val nb_ok hmix h rfl rfl
  ·exact callOk_val nb_ok hmix h rfl rfl
 ·cases he
theorem run16 (k n:List UInt8) (c:UInt32):run1 Tryz.prog noCS (mask 114) 100 114 [.str k,.str n,.u32 c] [] Tryz.prog.globals.size=some (.fn 161 ([5,13,21].map fun n=>.ptr n 0),[(5,.cells false [.str k]),(13,.cells false [.str n]),(21,.cells false [.u32 c])],53):=by kernel_rfl
theorem callOk_16 (k n:List UInt8) (c:UInt32):CallOk Tryz.prog 114 [.str k,.str n,.u32 c] (closE 161 [[.str k],[.str n],[.u32 c]]):=by
 refine callOk_clos (noCS_ok _) hmix (run16 k n c) rfl rfl rfl rfl fun j m hj => ?_
 match j,hj with
 | 0,hj=>cases hj; exact ⟨rfl,rfl⟩
 | 1,hj=>cases hj; exact ⟨rfl,rfl⟩
 | 2,hj=>cases hj; exact ⟨rfl,rfl⟩
def k16:List AVal→Option EffA
 | [.str a,.str b,.u32 c]=>some (closE 161 [[.str a],[.str b],[.u32 c]])
 | _=>none
theorem k16_ok:CSOk Tryz.prog (csOne 114 k16):=csOne_ok fun args e he=>by
 unfold k16 at he
 split at he
 ·rename_i a b c
  cases he
  exact callOk_16 a b c
 ·cases he
end Go.Proofs.YtanaackimepkdaaGreatDoor.Cha
namespace Go.Eng
open Go Go.RowKit
def opsThen (ro:Option Nat) (n:Nat) (P:Program) (ops:Array Oper) (Q:Exit→Act→World→Prop):List Nat→(Act→World→Prop)→Act→World→Prop
 | [],K=>K
 | i::l,K=>wpOpIn (Fw ro) n P ops Q i (opsThen ro n P ops Q l K)
section
variable {P:Program}{cs:CS}{nt:Nat}{ro:Option Nat}{n:Nat}{D:List Deferred}{pin:List (Tmp × Value)}
theorem opsThen_app {ops:Array Oper}{Q:Exit→Act→World→Prop}{K:Act→World→Prop}(m:List Nat):∀ l,opsThen ro n P ops Q (l++m) K=opsThen ro n P ops Q l (opsThen ro n P ops Q m K)
 | []=>rfl
 | i::l=>by
  show wpOpIn (Fw ro) n P ops Q i (opsThen ro n P ops Q (l++m) K)=wpOpIn (Fw ro) n P ops Q i (opsThen ro n P ops Q l (opsThen ro n P ops Q m K))
  rw [opsThen_app m l]
theorem opsThen_all {ops:Array Oper}{Q:Exit→Act→World→Prop}:∀ l,wpOpsIn (Fw ro) n P ops Q l=opsThen ro n P ops Q l (Q .normal)
 | []=>by funext a w; rfl
 | i::l=>by
  funext a w
  rw [wpOpsIn_cons,opsThen_all l]
  rfl
theorem runA_okT (hcs:CSOk P cs){ops:Array Oper}{Q:Exit→Act→World→Prop}{K:Act→World→Prop}:∀ (l:List Oper) (k base:Nat) (σ:Sig) (T T':TL) (H H':HL) (a:Act) (w:World),(∀ j,j < l.length→l[j]? = ops[k+j]?)→pinL (pin.map (·.1)) l=true →
  runA P cs nt ops l base T H=some (T',H')→RD P σ nt T H D pin a w→Fresh σ base →
  (∀ σ' a' w',RD P σ' nt T' H' D pin a' w'→Frm σ (aget H) w σ' (aget H') w'→Fresh σ' (base+8 * l.length)→K a' w')→opsThen ro n P ops Q (List.range' k l.length) K a w:=by
 intro l
 induction l with
 | nil =>
  intro k base σ T T' H H' a w _ _ h hr hf hQ
  simp only [runA,Option.some.injEq,Prod.mk.injEq] at h
  obtain ⟨rfl,rfl⟩:=h
  exact hQ σ a w hr (Frm.refl _ _ _) (by simpa using hf)
 | cons o l ih =>
  intro k base σ T T' H H' a w hl hpl h hr hf hQ
  simp only [pinL,Bool.and_eq_true] at hpl
  simp only [runA] at h
  split at h
  ·cases h
  ·rename_i T1 H1 h1
   have hi:ops[k]? = some o:=by simpa using (hl 0 (by simp)).symm
   simp only [List.length_cons,List.range'_succ]
   show wpOpIn (Fw ro) n P ops Q k (opsThen ro n P ops Q (List.range' (k+1) l.length) K) a w
   refine stepA_okI hcs hi h1 hr hpl.1 hf.free fun σ' a' w' g1 g2 g3 => ?_
   refine ih (k+1) (base+8) σ' T1 T' H1 H' a' w' (fun j hj=>by have:=hl (j+1) (by simp; omega); simpa [Nat.add_assoc,Nat.add_comm 1 j] using this) hpl.2 h g1 (hf.only g3) fun σ'' a'' w'' q1 q2 q3 => ?_
   exact hQ σ'' a'' w'' q1 (g2.trans q2) (by simp only [List.length_cons]; rw [show base+8 * (l.length+1)=base+8+8 * l.length by omega]; exact q3)
theorem stepMoveI {ops:Array Oper}{Q:Exit→Act→World→Prop}{i:Nat}{K:Act→World→Prop}{a:Act}{w:World}{o:Oper}{s d:Tmp}{v:Value}(hi:ops[i]? = some o) (ho:o.op=.move (.tmp s)) (hgd:o.guard=none) (hd:o.dst=some d) (hv:a.tmps[s]? = some v) (hK:K (a.put (some d) v) w) :
  wpOpIn (Fw ro) n P ops Q i K a w:=by
 unfold wpOpIn
 simp only [hi]
 rw [if_pos (by unfold Region.wanted; rw [hgd])]
 refine ⟨fun _ _=>trivial,?_⟩
 rw [Oper.semAt_eq _ _ _ (fun c h=>by rw [ho] at h; cases h)]
 have he:a.eval (.tmp s)=v:=by
  show a.tmps.getD s undef=v
  rw [Array.getD_eq_getD_getElem?,hv]; rfl
 simp only [execOp,ho,he,Sem.run_pure]
 unfold Oper.uponIn
 rw [hd]
 exact hK
theorem stepYieldI {ops:Array Oper}{Q:Exit→Act→World→Prop}{i:Nat}{K:Act→World→Prop}{a:Act}{w:World}{o:Oper}{c:Call}{s d:Tmp}{l:Nat}{xs:Array Value}{R:Ending→World→Prop}(hi:ops[i]? = some o) (ho:o.op=.call c) (hgd:o.guard=none) (hd:o.dst=some d)
  (hc:c.callee=.value (.tmp s)) (hs:a.tmps[s]? = some (.func (.yield l) #[] #[])) (hx:c.args.map a.eval=xs) (hy:∀ m,YieldAt Fence.wide m P l xs w R) (hR:∀ e w',R e w'→∃ v,e=.returned v∧K (a.put (some d) v) w') :
  wpOpIn (Fw none) n P ops Q i K a w:=by
 unfold wpOpIn
 simp only [hi]
 rw [if_pos (by unfold Region.wanted; rw [hgd])]
 refine ⟨fun _ _=>trivial,?_⟩
 rw [Oper.semAt_eq _ _ _ (fun c h=>by rw [ho] at h; cases h)]
 have he:a.eval (.tmp s)=.func (.yield l) #[] #[]:=by
  show a.tmps.getD s undef=_
  rw [Array.getD_eq_getD_getElem?,hs]; rfl
 obtain ⟨fn,tmps,assign,body,h1,h2⟩:=hy (n - 1)
 have hrun:(execOp a.eval o).run P w=.ok (.round l fn tmps assign body) w:=by
  simp only [execOp,ho,resolve,hc,he,Deferred.ofValue,pure_bind,invoke,hx]
  simpa using h1
 rw [hrun]
 unfold Oper.uponIn
 refine ⟨(fun h=>by cases h),?_⟩
 refine RoundIn.mono (F:=Fw none) h2 fun e w' hr => ?_
 obtain ⟨v,rfl,hk⟩:=hR e w' hr
 rw [hd]
 exact hk
end
def IT (P:Program) (nt fr:Nat) (Hc:HL) (cap:List AVal) (lb:Array Value) (pin:List (Tmp × Value)) (T:TL) (a:Act) (w:World):Prop:=∃ σ,RD P σ nt T Hc [] pin a w∧Fresh σ fr∧LR σ cap lb
theorem grown_of {σ σ':Sig}{Hc:HL}{H':Heap}{A B:World}(hro:∀ n o,aget Hc n=some o→o.ro=true) (h:Frm σ (aget Hc) A σ' H' B):Grown A B:=
 ⟨h.size,fun b hb=>(h.old b hb fun ⟨n,o,p,h1,h2,_⟩=>by rw [hro n o h1] at h2; cases h2).1,h.os,h.output,h.tape⟩
theorem itSeg {P:Program}{cs:CS}(hcs:CSOk P cs) (hm:P.follows .mixedOrders=true){nt nn F fr:Nat}{Hc:HL}{cap:List AVal}{lb:Array Value}{pin:List (Tmp × Value)}{J:World→Prop}(hJ:∀ A B,J A→Grown A B→J B) (hro:∀ n o,aget Hc n=some o→o.ro=true)
  (hHl:ltH fr Hc=true) (hcl:ltM fr cap=true) (hgl:P.globals.size≤fr) {l:List Code} {T:TL} {x:XA} {s':SA} (he:evS P cs nt nn F fr l ⟨T,Hc,fr⟩=some (x,s')) (Tq:TL) (hT:∀ s v,aget Tq s=some v→aget s'.T s=some v) (hTl:ltT fr Tq=true) (hH:∀ n o,aget Hc n=some o→aget s'.H n=some o)
  (hpin:pinS (pin.map (·.1)) l=true) {n:Nat} {a:Act} {w:World} {Q:Exit→Act→World→Prop} (h:IT P nt fr Hc cap lb pin T a w) (hj:J w) (hQ:∀ a' w',IT P nt fr Hc cap lb pin Tq a' w'→J w'→Q x.out a' w'):wpS none n P l Q a w:=by
 obtain ⟨σ,hr,hf,hl⟩:=h
 refine evS_okI hcs hm l _ _ _ he none n [] pin hpin σ a w Q hr hf fun σ' a' w' g1 g2 g3 => ?_
 have G:=g2.full hf
 refine hQ a' w' ⟨Go.Eng.cut fr σ',⟨?_,g1.defers,g1.pins⟩,cut_fresh _ _,ltM_ok hcl (hl.mono G.ext)⟩ (hJ _ _ hj (grown_of hro G))
 exact (g1.rel.less hT hH).cut hTl hHl hgl
def endS (Ts:TL) (x:Option (XA × SA × OS)):Option (XA × TL × HL × List Bool):=match x with
 | some (x,s,q)=>some (x,reshape Ts s.T,s.H,q.ob)
 | none=>none
theorem itSegO {P:Program}{ps:PS}{cs:CS}(hps:PSOk ps cs) (hcs:CSOk P cs) (hm:P.follows .mixedOrders=true){nt nn F fr:Nat}{Hc:HL}{cap:List AVal}{lb:Array Value}{pin:List (Tmp × Value)}{J:World→Prop}(hJ:∀ A B,J A→Grown A B→J B) (hro:∀ n o,aget Hc n=some o→o.ro=true)
  (hHl:ltH fr Hc=true) (hcl:ltM fr cap=true) (hgl:P.globals.size≤fr) {sy:List Nat} {os:List Bool} {vs:List AVal} {l:List Code} {T Ts Tq:TL} {x:XA} {ob:List Bool} (he:endS Ts (evSO P ps cs sy nt nn F fr l ⟨T,Hc,fr⟩ ⟨os,vs,[]⟩)=some (x,Tq,Hc,ob)) (ha:allT ob=true) (hTl:ltT fr Tq=true)
  (hpin:pinS (pin.map (·.1)) l=true) {n:Nat} {a:Act} {w:World} {Q:Exit→Act→World→Prop} (h:IT P nt fr Hc cap lb pin T a w) (hj:J w) (hQ:∀ a' w',IT P nt fr Hc cap lb pin Tq a' w'→J w'→Q x.out a' w'):wpS none n P l Q a w:=by
 unfold endS at he
 split at he
 ·rename_i y s q hs
  simp only [Option.some.injEq,Prod.mk.injEq] at he
  obtain ⟨rfl,rfl,h3,rfl⟩:=he
  obtain ⟨h1,_⟩:=evSO_ok hps l _ _ _ _ _ hs ha
  refine itSeg hcs hm hJ hro hHl hcl hgl h1 (reshape Ts s.T) (fun _ _=>reshape_get) hTl (fun n o hn=>by rw [h3]; exact hn) hpin h hj hQ
 ·cases he
theorem itYield {P:Program}{cs:CS}(hcs:CSOk P cs){nt fr:Nat}{Hc:HL}{cap:List AVal}{lb:Array Value}{pin:List (Tmp × Value)}{J J' Jx:World→Prop}(hJ:∀ A B,J A→Grown A B→J B) (hJ':∀ A B,J' A→Grown A B→J' B) (hJx:∀ A B,Jx A→Grown A B→Jx B) (hro:∀ n o,aget Hc n=some o→o.ro=true)
  (hHl:ltH fr Hc=true) (hcl:ltM fr cap=true) (hgl:P.globals.size≤fr) {l:Nat} (hp0:(0,Value.func (.yield l) #[] #[]) ∈ pin)
  {ops:Array Oper} {o0 oc:Oper} {mid post:List Oper} (hops:ops.toList=o0::(mid++oc::post)) {m d:Tmp} (ho0:o0.op=.move (.tmp 0)) (hg0:o0.guard=none) (hd0:o0.dst=some m) {c:Call} (hoc:oc.op=.call c) (hgc:oc.guard=none) (hdc:oc.dst=some d) (hcc:c.callee=.value (.tmp m))
  (hpo0:pinO (pin.map (·.1)) o0=true) (hpoc:pinO (pin.map (·.1)) oc=true) (hpm:pinL (m::pin.map (·.1)) mid=true) (hpp:pinL (pin.map (·.1)) post=true) (hmn:m < nt) (hdn:d < nt)
  {T T1:TL} (hTm:aget T m=none) {H1:HL} (hmid:runA P cs nt ops mid (fr+8) T Hc=some (T1,H1)) {vs:List AVal} (hargs:evL (opd P (aget T1)) c.args.toList=some vs)
  (Tc:TL) (hTcl:ltT fr Tc=true) (hcarry:∀ σ1,LR σ1 cap lb→∀ s v,aget Tc s=some v→s ≠ m∧s ≠ d∧((aget T1 s=some v∧ltV 0 v=true) ∨ ∃ u,(s,u) ∈ pin∧VR σ1 v u))
  (T2:Bool→TL) (hpost:∀ b Hx,runA P cs nt ops post fr ((d,.bool b)::Tc) Hx=some (T2 b,Hx)) (hT2:∀ b,ltT fr (T2 b)=true)
  {n:Nat} {a:Act} {w:World} {Q:Exit→Act→World→Prop} {id:Nat} (h:IT P nt fr Hc cap lb pin T a w) (hj:J w)
  (hY:∀ W,J W→∃ σ1,GRel P σ1∧HRel σ1 (aget Hc) W∧LR σ1 cap lb∧∀ xs,LR σ1 vs xs→∀ q,YieldAt Fence.wide q P l xs W fun e W'=>(e=.returned (.bool true)∧J' W') ∨ (e=.returned (.bool false)∧Jx W'))
  (hvs:allV vs=true ∨ ∀ σ σ1 w xs,HRel σ (aget H1) w→HRel σ1 (aget Hc) w→LR σ cap lb→LR σ1 cap lb→LR σ vs xs→LR σ1 vs xs)
  (hNext:∀ W,J' W→∃ σ1,GRel P σ1∧HRel σ1 (aget Hc) W∧LR σ1 cap lb)
  (hQt:∀ a' w',IT P nt fr Hc cap lb pin (T2 true) a' w'→J' w'→Q .normal a' w')
  (hQf:∀ a' w',IT P nt fr [] [] #[] pin (T2 false) a' w'→Jx w'→Q .normal a' w'):(Code.region id ops false).wpIn (Fw none) n P Q a w:=by
 obtain ⟨σ,hr,hf,hl⟩:=h
 refine wpIn_region ?_
 have hsz:ops.size=1+(mid.length+(1+post.length)):=by
  rw [← Array.length_toList,hops]; simp; omega
 have hlist:List.range ops.size=0::(List.range' 1 mid.length++((1+mid.length)::List.range' (1+mid.length+1) post.length)):=by
  rw [List.range_eq_range',hsz,show 1+(mid.length+(1+post.length))=(mid.length+(post.length+1))+1 by omega,List.range'_succ,← List.range'_append_1,List.range'_succ]
 have at0:ops[0]? = some o0:=by rw [← Array.getElem?_toList,hops]; rfl
 have atm:∀ j,j < mid.length→mid[j]? = ops[1+j]?:=fun j hj=>by
  rw [← Array.getElem?_toList,hops,show 1+j=j+1 by omega,List.getElem?_cons_succ,List.getElem?_append_left hj]
 have atc:ops[1+mid.length]? = some oc:=by
  rw [← Array.getElem?_toList,hops,show 1+mid.length=mid.length+1 by omega,List.getElem?_cons_succ,List.getElem?_append_right (Nat.le_refl _),Nat.sub_self]; rfl
 have atp:∀ j,j < post.length→post[j]? = ops[1+mid.length+1+j]?:=fun j hj=>by
  rw [← Array.getElem?_toList,hops,show 1+mid.length+1+j=(mid.length+(j+1))+1 by omega,List.getElem?_cons_succ,List.getElem?_append_right (by omega),show mid.length+(j+1) - mid.length=j+1 by omega]; rfl
 rw [opsThen_all,hlist]
 show wpOpIn (Fw none) n P ops Q 0 (opsThen none n P ops Q (List.range' 1 mid.length++((1+mid.length)::List.range' (1+mid.length+1) post.length)) (Q .normal)) a w
 refine stepMoveI at0 ho0 hg0 hd0 (hr.pins 0 _ hp0) ?_
 rw [opsThen_app]
 -- the yield in its slot is pinned,too
 have hnm:∀ v,(m,v) ∉ pin:=fun v hv=>by
  unfold pinO at hpo0
  rw [hd0] at hpo0
  simp only [memN_iff (List.mem_map.2 ⟨(m,v),hv,rfl⟩:m ∈ pin.map (·.1))] at hpo0
  cases hpo0
 have hr1:RD P σ nt T Hc [] ((m,Value.func (.yield l) #[] #[])::pin) (a.put (some m) (.func (.yield l) #[] #[])) w:=by
  refine ⟨⟨fun s v hs => ?_,by show (a.tmps.setIfInBounds m _).size=nt; rw [Array.size_setIfInBounds]; exact hr.rel.size,rfl,hr.rel.heap,hr.rel.glob⟩,hr.defers,fun s v hs => ?_⟩
  ·obtain ⟨v',e1,e2⟩:=hr.rel.tmps s v hs
   have hne:m ≠ s:=fun e=>by subst e; rw [hTm] at hs; cases hs
   exact ⟨v',by show (a.tmps.setIfInBounds m _)[s]? = _; rw [Array.getElem?_setIfInBounds_ne hne]; exact e1,e2⟩
  ·show (a.tmps.setIfInBounds m _)[s]? = _
   rcases List.mem_cons.1 hs with e | e
   ·cases e
    have:=hr.rel.size
    rw [Array.getElem?_setIfInBounds_self,if_pos (by show m < (bare a).tmps.size; rw [this]; exact hmn)]
   ·have hne:m ≠ s:=fun e2=>by subst e2; exact hnm v e
    rw [Array.getElem?_setIfInBounds_ne hne]
    exact hr.pins s v e
 refine runA_okT (pin:=(m,Value.func (.yield l) #[] #[])::pin) hcs mid 1 (fr+8) σ T T1 Hc H1 _ w atm hpm hmid hr1 (fun k hk=>hf k (by omega)) fun σ2 a2 w2 g1 g2 g3 => ?_
 have hj2:=hJ _ _ hj (grown_of hro g2)
 show wpOpIn (Fw none) n P ops Q (1+mid.length) (opsThen none n P ops Q (List.range' (1+mid.length+1) post.length) (Q .normal)) a2 w2
 have hl2:LR σ2 cap lb:=hl.mono g2.ext
 obtain ⟨σ1,y1,y2,y3,y4⟩:=hY w2 hj2
 -- the arguments
 have hxs:=evL_ok g1.rel.env hargs
 have hxs1:LR σ1 vs (c.args.map a2.eval):=by
  have hxs2:LR σ2 vs (c.args.map a2.eval):=by
   have e:c.args.map a2.eval=(List.map (bare a2).eval c.args.toList).toArray:=by
    rw [← Array.toList_map]
    rfl
   rw [e]
   exact hxs
  rcases hvs with hv | hv
  ·exact hxs2.cut0 (allV_mem hv) σ1
  ·exact hv σ2 σ1 w2 _ g1.rel.heap y2 hl2 y3 hxs2
 refine stepYieldI atc hoc hgc hdc hcc (g1.pins m _ (List.mem_cons_self ..)) rfl (y4 _ hxs1) ?_
 -- behind it
 have pinsP:∀ (b:Bool) s v,(s,v) ∈ pin→(a2.put (some d) (.bool b)).tmps[s]? = some v:=fun b=>by
  have:=pin_put (a:=a2) hpoc (fun s v hs=>g1.pins s v (List.mem_cons_of_mem _ hs)) (.bool b)
  rw [hdc] at this
  exact this
 have tmpsP:∀ (b:Bool) (σ':Sig),LR σ' cap lb→TRel σ' (aget ((d,.bool b)::Tc)) (bare (a2.put (some d) (.bool b))):=fun b σ' hl' s v hs=>by
  simp only [aget] at hs
  rcases beq_cases d s with ⟨e,hb⟩ | ⟨e,hb⟩ <;> rw [hb] at hs <;> simp only [cond_true,cond_false] at hs
  ·subst e
   cases hs
   refine ⟨.bool b,?_,.bool b⟩
   show (a2.tmps.setIfInBounds d _)[d]? = _
   have:=g1.rel.size
   rw [Array.getElem?_setIfInBounds_self,if_pos (by show d < (bare a2).tmps.size; rw [this]; exact hdn)]
  ·obtain ⟨_,_,h⟩:=hcarry σ' hl' s v hs
   rcases h with ⟨h1,h2⟩ | ⟨u,h1,h2⟩
   ·obtain ⟨v',e1,e2⟩:=g1.rel.tmps s v h1
    refine ⟨v',?_,e2.cut0 h2 σ'⟩
    show (a2.tmps.setIfInBounds d _)[s]? = _
    rw [Array.getElem?_setIfInBounds_ne e]
    exact e1
   ·exact ⟨u,pinsP b s u h1,h2⟩
 have sizeP:∀ b:Bool,(a2.put (some d) (.bool b)).tmps.size=nt:=fun b=>by
  show (a2.tmps.setIfInBounds d _).size=nt
  rw [Array.size_setIfInBounds]; exact g1.rel.size
 rintro e w3 (⟨rfl,hj3⟩ | ⟨rfl,hj3⟩)
 ·refine ⟨_,rfl,?_⟩
  obtain ⟨σ3,z1,z2,z3⟩:=hNext w3 hj3
  have c1:RRel P σ3 nt ((d,.bool true)::Tc) Hc (bare (a2.put (some d) (.bool true))) w3:=⟨tmpsP true σ3 z3,sizeP true,rfl,z2,z1⟩
  have c2:=c1.cut (m:=fr) (by show (ltV fr (.bool true) && ltT fr Tc)=true; rw [hTcl]; rfl) hHl hgl
  have zc:LR (Go.Eng.cut fr σ3) cap lb:=ltM_ok hcl z3
  refine runA_okT hcs post (1+mid.length+1) fr _ _ _ Hc Hc _ w3 atp hpp (hpost true Hc) (D:=[]) (pin:=pin) ⟨c2,g1.defers,pinsP true⟩ (cut_fresh _ _) fun σ5 a5 w5 k1 k2 k3 => ?_
  have zc5:=zc.mono k2.ext
  exact hQt a5 w5 ⟨Go.Eng.cut fr σ5,⟨k1.rel.cut (hT2 true) hHl hgl,k1.defers,k1.pins⟩,cut_fresh _ _,ltM_ok hcl zc5⟩ (hJ' _ _ hj3 (grown_of hro k2))
 ·refine ⟨_,rfl,?_⟩
  have c1:RRel P σ2 nt ((d,.bool false)::Tc) [] (bare (a2.put (some d) (.bool false))) w3:=⟨tmpsP false σ2 hl2,sizeP false,rfl,⟨fun n o hn=>by simp [aget] at hn,fun n m o o' p q hn=>by simp [aget] at hn⟩,g1.rel.glob⟩
  have c2:=c1.cut (m:=fr) (by show (ltV fr (.bool false) && ltT fr Tc)=true; rw [hTcl]; rfl) rfl hgl
  refine runA_okT hcs post (1+mid.length+1) fr _ _ _ [] [] _ w3 atp hpp (hpost false []) (D:=[]) (pin:=pin) ⟨c2,g1.defers,pinsP false⟩ (cut_fresh _ _) fun σ5 a5 w5 k1 k2 k3 => ?_
  exact hQf a5 w5 ⟨Go.Eng.cut fr σ5,⟨k1.rel.cut (hT2 false) rfl hgl,k1.defers,k1.pins⟩,cut_fresh _ _,LR.nil _⟩ (hJx _ _ hj3 (grown_of (Hc:=[]) (fun n o h=>by simp [aget] at h) k2))
end Go.Eng
namespace Go.Proofs.YtanaackimepkdaaGreatDoor.Cha
open Go Go.Eng Go.Cha
def blkOf:Code→Code
 | .block _ b=>b
 | c=>c
def opsOf:Code→Array Oper
 | .region _ ops _=>ops
 | _ => #[]
noncomputable def p18:List Code:=pieces (bodyOf Tryz.f161)
noncomputable def LB:Code:=loopOf (p18.getD 1 .skip)
noncomputable def pL:List Code:=pieces LB
noncomputable def B1:Code:=blkOf (pL.getD 0 .skip)
noncomputable def pB:List Code:=pieces B1
noncomputable def IB:Code:=loopOf (pB.getD 1 .skip)
noncomputable def pI:List Code:=pieces IB
noncomputable def B3:Code:=blkOf (pI.getD 2 .skip)
noncomputable def p3:List Code:=pieces B3
noncomputable def ops5:Array Oper:=opsOf (p3.getD 1 .skip)
theorem p18_eq:p18=[p18.getD 0 .skip,.block 0 (.loop LB)]:=by kernel_rfl
theorem pL_eq:pL=[.block 1 B1,pL.getD 1 .skip]:=by kernel_rfl
theorem pB_eq:pB=[pB.getD 0 .skip,.block 2 (.loop IB)]:=by kernel_rfl
theorem pI_eq:pI=[pI.getD 0 .skip,.cond (.tmp 19) .skip (.exit 2),.block 3 B3,pI.getD 3 .skip]:=by kernel_rfl
theorem p3_eq:p3=[p3.getD 0 .skip,.region 5 ops5 false,.cond (.tmp 28) .ret .skip]:=by kernel_rfl
def Hc (k n:List UInt8) (c:UInt32):HL:=[(197,.cells true [.str k]),(198,.cells true [.str n]),(199,.cells true [.u32 c])]
def Tc:TL:=[(1,.ptr 197 0),(2,.ptr 198 0),(3,.ptr 199 0)]
def T0 (x:Int):TL:=[(1,.ptr 197 0),(2,.ptr 198 0),(3,.ptr 199 0),(5,.int .i64 x)]
def Tj (φ:Fb) (k n:List UInt8) (cq:UInt32) (x j:Int):TL:=[(1,.ptr 197 0),(2,.ptr 198 0),(3,.ptr 199 0),(5,.int .i64 x),(17,.agg ((List.range 64).map fun i=>.u8 (φ.bb k n cq i))),(18,.int .i64 j)]
end Go.Proofs.YtanaackimepkdaaGreatDoor.Cha
namespace Go.Proofs.YtanaackimepkdaaGreatDoor.Cha
open Go Go.Eng Go.Cha
def Ty (φ:Fb) (k n:List UInt8) (cq:UInt32) (x:Int) (j:Nat):TL:=[(6,.int .i64 j),(7,.u8 (φ.bb k n cq j)),(1,.ptr 197 0),(2,.ptr 198 0),(3,.ptr 199 0),(5,.int .i64 x),(17,.agg ((List.range 64).map fun i=>.u8 (φ.bb k n cq i))),(18,.int .i64 j)]
def T2 (φ:Fb) (k n:List UInt8) (cq:UInt32) (x:Int) (j:Nat) (b:Bool):TL:=[(27,.bool b),(1,.ptr 197 0),(2,.ptr 198 0),(3,.ptr 199 0),(5,.int .i64 x),(17,.agg ((List.range 64).map fun i=>.u8 (φ.bb k n cq i))),(18,.int .i64 j),(28,.bool (!b))]
noncomputable def sg (φ:Fb) (sy:List Nat) (vs:List AVal) (Ts T:TL) (H:HL) (l:List Code):Option (XA × TL × HL × List Bool):=endS Ts (evSO Tryz.prog (psb φ) (nb φ) sy Tryz.f161.ntmps (mask 161) 100 200 l ⟨T,H,200⟩ ⟨[],vs,[]⟩)
noncomputable def rC:Code:=.cond (.tmp 28) .ret .skip
theorem s0 (φ:Fb) (k n:List UInt8) (c:UInt32):sg φ [] [] (T0 0) Tc (Hc k n c) [p18.getD 0 .skip]=some (.normal,T0 0,Hc k n c,[]):=by kernel_rfl
theorem s2 (φ:Fb) (k n:List UInt8) (c cq:UInt32) (x:Int):sg φ [17,200016] [.u32 cq] (Tj φ k n cq x 0) (T0 x) (Hc k n c) [pB.getD 0 .skip]=some (.normal,Tj φ k n cq x 0,Hc k n c,[φ.may k n,eqS (.u32 (c+UInt32.ofInt (IntKind.wrap .i64 (Int.tdiv x 64)))) (.u32 cq)]):=by kernel_rfl
theorem s1 (φ:Fb) (k n:List UInt8) (c cq:UInt32) (x y:Int):sg φ [200009] [.int .i64 y] (T0 y) (Tj φ k n cq x 64) (Hc k n c) [pL.getD 1 .skip]=some (.normal,T0 y,Hc k n c,[eqS (.int .i64 (IntKind.wrap .i64 (x+64))) (.int .i64 y)]):=by kernel_rfl
theorem s64 (φ:Fb) (k n:List UInt8) (c cq:UInt32) (x:Int):sg φ [] [] (Tj φ k n cq x 64) (Tj φ k n cq x 64) (Hc k n c) [pI.getD 0 .skip,.cond (.tmp 19) .skip (.exit 2)]=some (.exit 2,Tj φ k n cq x 64,Hc k n c,[]):=by kernel_rfl
def Pj (φ:Fb) (k n:List UInt8) (c cq:UInt32) (x:Int) (j:Nat):Prop:=
 sg φ [] [] (Tj φ k n cq x j) (Tj φ k n cq x j) (Hc k n c) [pI.getD 0 .skip,.cond (.tmp 19) .skip (.exit 2)]=some (.normal,Tj φ k n cq x j,Hc k n c,[]) ∧
 sg φ [] [] (Ty φ k n cq x j) (Tj φ k n cq x j) (Hc k n c) [p3.getD 0 .skip]=some (.normal,Ty φ k n cq x j,Hc k n c,[]) ∧
 sg φ [] [] (Tj φ k n cq x (j+1:Nat)) (T2 φ k n cq x j true) (Hc k n c) [pI.getD 3 .skip]=some (.normal,Tj φ k n cq x (j+1:Nat),Hc k n c,[])
theorem t0 (φ:Fb) (k n:List UInt8) (c cq:UInt32) (x:Int):Pj φ k n c cq x 0:=⟨by kernel_rfl,by kernel_rfl,by kernel_rfl⟩
theorem t1 (φ:Fb) (k n:List UInt8) (c cq:UInt32) (x:Int):Pj φ k n c cq x 1:=⟨by kernel_rfl,by kernel_rfl,by kernel_rfl⟩
theorem t2 (φ:Fb) (k n:List UInt8) (c cq:UInt32) (x:Int):Pj φ k n c cq x 2:=⟨by kernel_rfl,by kernel_rfl,by kernel_rfl⟩
theorem t3 (φ:Fb) (k n:List UInt8) (c cq:UInt32) (x:Int):Pj φ k n c cq x 3:=⟨by kernel_rfl,by kernel_rfl,by kernel_rfl⟩
theorem t4 (φ:Fb) (k n:List UInt8) (c cq:UInt32) (x:Int):Pj φ k n c cq x 4:=⟨by kernel_rfl,by kernel_rfl,by kernel_rfl⟩
theorem t5 (φ:Fb) (k n:List UInt8) (c cq:UInt32) (x:Int):Pj φ k n c cq x 5:=⟨by kernel_rfl,by kernel_rfl,by kernel_rfl⟩
theorem t6 (φ:Fb) (k n:List UInt8) (c cq:UInt32) (x:Int):Pj φ k n c cq x 6:=⟨by kernel_rfl,by kernel_rfl,by kernel_rfl⟩
theorem t7 (φ:Fb) (k n:List UInt8) (c cq:UInt32) (x:Int):Pj φ k n c cq x 7:=⟨by kernel_rfl,by kernel_rfl,by kernel_rfl⟩
theorem t8 (φ:Fb) (k n:List UInt8) (c cq:UInt32) (x:Int):Pj φ k n c cq x 8:=⟨by kernel_rfl,by kernel_rfl,by kernel_rfl⟩
theorem t9 (φ:Fb) (k n:List UInt8) (c cq:UInt32) (x:Int):Pj φ k n c cq x 9:=⟨by kernel_rfl,by kernel_rfl,by kernel_rfl⟩
theorem t10 (φ:Fb) (k n:List UInt8) (c cq:UInt32) (x:Int):Pj φ k n c cq x 10:=⟨by kernel_rfl,by kernel_rfl,by kernel_rfl⟩
theorem t11 (φ:Fb) (k n:List UInt8) (c cq:UInt32) (x:Int):Pj φ k n c cq x 11:=⟨by kernel_rfl,by kernel_rfl,by kernel_rfl⟩
theorem t12 (φ:Fb) (k n:List UInt8) (c cq:UInt32) (x:Int):Pj φ k n c cq x 12:=⟨by kernel_rfl,by kernel_rfl,by kernel_rfl⟩
theorem t13 (φ:Fb) (k n:List UInt8) (c cq:UInt32) (x:Int):Pj φ k n c cq x 13:=⟨by kernel_rfl,by kernel_rfl,by kernel_rfl⟩
theorem t14 (φ:Fb) (k n:List UInt8) (c cq:UInt32) (x:Int):Pj φ k n c cq x 14:=⟨by kernel_rfl,by kernel_rfl,by kernel_rfl⟩
theorem t15 (φ:Fb) (k n:List UInt8) (c cq:UInt32) (x:Int):Pj φ k n c cq x 15:=⟨by kernel_rfl,by kernel_rfl,by kernel_rfl⟩
theorem t16 (φ:Fb) (k n:List UInt8) (c cq:UInt32) (x:Int):Pj φ k n c cq x 16:=⟨by kernel_rfl,by kernel_rfl,by kernel_rfl⟩
theorem t17 (φ:Fb) (k n:List UInt8) (c cq:UInt32) (x:Int):Pj φ k n c cq x 17:=⟨by kernel_rfl,by kernel_rfl,by kernel_rfl⟩
theorem t18 (φ:Fb) (k n:List UInt8) (c cq:UInt32) (x:Int):Pj φ k n c cq x 18:=⟨by kernel_rfl,by kernel_rfl,by kernel_rfl⟩
theorem t19 (φ:Fb) (k n:List UInt8) (c cq:UInt32) (x:Int):Pj φ k n c cq x 19:=⟨by kernel_rfl,by kernel_rfl,by kernel_rfl⟩
theorem t20 (φ:Fb) (k n:List UInt8) (c cq:UInt32) (x:Int):Pj φ k n c cq x 20:=⟨by kernel_rfl,by kernel_rfl,by kernel_rfl⟩
theorem t21 (φ:Fb) (k n:List UInt8) (c cq:UInt32) (x:Int):Pj φ k n c cq x 21:=⟨by kernel_rfl,by kernel_rfl,by kernel_rfl⟩
theorem t22 (φ:Fb) (k n:List UInt8) (c cq:UInt32) (x:Int):Pj φ k n c cq x 22:=⟨by kernel_rfl,by kernel_rfl,by kernel_rfl⟩
theorem t23 (φ:Fb) (k n:List UInt8) (c cq:UInt32) (x:Int):Pj φ k n c cq x 23:=⟨by kernel_rfl,by kernel_rfl,by kernel_rfl⟩
theorem t24 (φ:Fb) (k n:List UInt8) (c cq:UInt32) (x:Int):Pj φ k n c cq x 24:=⟨by kernel_rfl,by kernel_rfl,by kernel_rfl⟩
theorem t25 (φ:Fb) (k n:List UInt8) (c cq:UInt32) (x:Int):Pj φ k n c cq x 25:=⟨by kernel_rfl,by kernel_rfl,by kernel_rfl⟩
theorem t26 (φ:Fb) (k n:List UInt8) (c cq:UInt32) (x:Int):Pj φ k n c cq x 26:=⟨by kernel_rfl,by kernel_rfl,by kernel_rfl⟩
theorem t27 (φ:Fb) (k n:List UInt8) (c cq:UInt32) (x:Int):Pj φ k n c cq x 27:=⟨by kernel_rfl,by kernel_rfl,by kernel_rfl⟩
theorem t28 (φ:Fb) (k n:List UInt8) (c cq:UInt32) (x:Int):Pj φ k n c cq x 28:=⟨by kernel_rfl,by kernel_rfl,by kernel_rfl⟩
theorem t29 (φ:Fb) (k n:List UInt8) (c cq:UInt32) (x:Int):Pj φ k n c cq x 29:=⟨by kernel_rfl,by kernel_rfl,by kernel_rfl⟩
theorem t30 (φ:Fb) (k n:List UInt8) (c cq:UInt32) (x:Int):Pj φ k n c cq x 30:=⟨by kernel_rfl,by kernel_rfl,by kernel_rfl⟩
theorem t31 (φ:Fb) (k n:List UInt8) (c cq:UInt32) (x:Int):Pj φ k n c cq x 31:=⟨by kernel_rfl,by kernel_rfl,by kernel_rfl⟩
theorem t32 (φ:Fb) (k n:List UInt8) (c cq:UInt32) (x:Int):Pj φ k n c cq x 32:=⟨by kernel_rfl,by kernel_rfl,by kernel_rfl⟩
theorem t33 (φ:Fb) (k n:List UInt8) (c cq:UInt32) (x:Int):Pj φ k n c cq x 33:=⟨by kernel_rfl,by kernel_rfl,by kernel_rfl⟩
theorem t34 (φ:Fb) (k n:List UInt8) (c cq:UInt32) (x:Int):Pj φ k n c cq x 34:=⟨by kernel_rfl,by kernel_rfl,by kernel_rfl⟩
theorem t35 (φ:Fb) (k n:List UInt8) (c cq:UInt32) (x:Int):Pj φ k n c cq x 35:=⟨by kernel_rfl,by kernel_rfl,by kernel_rfl⟩
theorem t36 (φ:Fb) (k n:List UInt8) (c cq:UInt32) (x:Int):Pj φ k n c cq x 36:=⟨by kernel_rfl,by kernel_rfl,by kernel_rfl⟩
theorem t37 (φ:Fb) (k n:List UInt8) (c cq:UInt32) (x:Int):Pj φ k n c cq x 37:=⟨by kernel_rfl,by kernel_rfl,by kernel_rfl⟩
theorem t38 (φ:Fb) (k n:List UInt8) (c cq:UInt32) (x:Int):Pj φ k n c cq x 38:=⟨by kernel_rfl,by kernel_rfl,by kernel_rfl⟩
theorem t39 (φ:Fb) (k n:List UInt8) (c cq:UInt32) (x:Int):Pj φ k n c cq x 39:=⟨by kernel_rfl,by kernel_rfl,by kernel_rfl⟩
theorem t40 (φ:Fb) (k n:List UInt8) (c cq:UInt32) (x:Int):Pj φ k n c cq x 40:=⟨by kernel_rfl,by kernel_rfl,by kernel_rfl⟩
theorem t41 (φ:Fb) (k n:List UInt8) (c cq:UInt32) (x:Int):Pj φ k n c cq x 41:=⟨by kernel_rfl,by kernel_rfl,by kernel_rfl⟩
theorem t42 (φ:Fb) (k n:List UInt8) (c cq:UInt32) (x:Int):Pj φ k n c cq x 42:=⟨by kernel_rfl,by kernel_rfl,by kernel_rfl⟩
theorem t43 (φ:Fb) (k n:List UInt8) (c cq:UInt32) (x:Int):Pj φ k n c cq x 43:=⟨by kernel_rfl,by kernel_rfl,by kernel_rfl⟩
theorem t44 (φ:Fb) (k n:List UInt8) (c cq:UInt32) (x:Int):Pj φ k n c cq x 44:=⟨by kernel_rfl,by kernel_rfl,by kernel_rfl⟩
theorem t45 (φ:Fb) (k n:List UInt8) (c cq:UInt32) (x:Int):Pj φ k n c cq x 45:=⟨by kernel_rfl,by kernel_rfl,by kernel_rfl⟩
theorem t46 (φ:Fb) (k n:List UInt8) (c cq:UInt32) (x:Int):Pj φ k n c cq x 46:=⟨by kernel_rfl,by kernel_rfl,by kernel_rfl⟩
theorem t47 (φ:Fb) (k n:List UInt8) (c cq:UInt32) (x:Int):Pj φ k n c cq x 47:=⟨by kernel_rfl,by kernel_rfl,by kernel_rfl⟩
theorem t48 (φ:Fb) (k n:List UInt8) (c cq:UInt32) (x:Int):Pj φ k n c cq x 48:=⟨by kernel_rfl,by kernel_rfl,by kernel_rfl⟩
theorem t49 (φ:Fb) (k n:List UInt8) (c cq:UInt32) (x:Int):Pj φ k n c cq x 49:=⟨by kernel_rfl,by kernel_rfl,by kernel_rfl⟩
theorem t50 (φ:Fb) (k n:List UInt8) (c cq:UInt32) (x:Int):Pj φ k n c cq x 50:=⟨by kernel_rfl,by kernel_rfl,by kernel_rfl⟩
theorem t51 (φ:Fb) (k n:List UInt8) (c cq:UInt32) (x:Int):Pj φ k n c cq x 51:=⟨by kernel_rfl,by kernel_rfl,by kernel_rfl⟩
theorem t52 (φ:Fb) (k n:List UInt8) (c cq:UInt32) (x:Int):Pj φ k n c cq x 52:=⟨by kernel_rfl,by kernel_rfl,by kernel_rfl⟩
theorem t53 (φ:Fb) (k n:List UInt8) (c cq:UInt32) (x:Int):Pj φ k n c cq x 53:=⟨by kernel_rfl,by kernel_rfl,by kernel_rfl⟩
theorem t54 (φ:Fb) (k n:List UInt8) (c cq:UInt32) (x:Int):Pj φ k n c cq x 54:=⟨by kernel_rfl,by kernel_rfl,by kernel_rfl⟩
theorem t55 (φ:Fb) (k n:List UInt8) (c cq:UInt32) (x:Int):Pj φ k n c cq x 55:=⟨by kernel_rfl,by kernel_rfl,by kernel_rfl⟩
theorem t56 (φ:Fb) (k n:List UInt8) (c cq:UInt32) (x:Int):Pj φ k n c cq x 56:=⟨by kernel_rfl,by kernel_rfl,by kernel_rfl⟩
theorem t57 (φ:Fb) (k n:List UInt8) (c cq:UInt32) (x:Int):Pj φ k n c cq x 57:=⟨by kernel_rfl,by kernel_rfl,by kernel_rfl⟩
theorem t58 (φ:Fb) (k n:List UInt8) (c cq:UInt32) (x:Int):Pj φ k n c cq x 58:=⟨by kernel_rfl,by kernel_rfl,by kernel_rfl⟩
theorem t59 (φ:Fb) (k n:List UInt8) (c cq:UInt32) (x:Int):Pj φ k n c cq x 59:=⟨by kernel_rfl,by kernel_rfl,by kernel_rfl⟩
theorem t60 (φ:Fb) (k n:List UInt8) (c cq:UInt32) (x:Int):Pj φ k n c cq x 60:=⟨by kernel_rfl,by kernel_rfl,by kernel_rfl⟩
theorem t61 (φ:Fb) (k n:List UInt8) (c cq:UInt32) (x:Int):Pj φ k n c cq x 61:=⟨by kernel_rfl,by kernel_rfl,by kernel_rfl⟩
theorem t62 (φ:Fb) (k n:List UInt8) (c cq:UInt32) (x:Int):Pj φ k n c cq x 62:=⟨by kernel_rfl,by kernel_rfl,by kernel_rfl⟩
theorem t63 (φ:Fb) (k n:List UInt8) (c cq:UInt32) (x:Int):Pj φ k n c cq x 63:=⟨by kernel_rfl,by kernel_rfl,by kernel_rfl⟩
theorem tall (φ:Fb) (k n:List UInt8) (c cq:UInt32) (x:Int):∀ j,j < 64→Pj φ k n c cq x j
 | 0,_=>t0 φ k n c cq x
 | 1,_=>t1 φ k n c cq x
 | 2,_=>t2 φ k n c cq x
 | 3,_=>t3 φ k n c cq x
 | 4,_=>t4 φ k n c cq x
 | 5,_=>t5 φ k n c cq x
 | 6,_=>t6 φ k n c cq x
 | 7,_=>t7 φ k n c cq x
 | 8,_=>t8 φ k n c cq x
 | 9,_=>t9 φ k n c cq x
 | 10,_=>t10 φ k n c cq x
 | 11,_=>t11 φ k n c cq x
 | 12,_=>t12 φ k n c cq x
 | 13,_=>t13 φ k n c cq x
 | 14,_=>t14 φ k n c cq x
 | 15,_=>t15 φ k n c cq x
 | 16,_=>t16 φ k n c cq x
 | 17,_=>t17 φ k n c cq x
 | 18,_=>t18 φ k n c cq x
 | 19,_=>t19 φ k n c cq x
 | 20,_=>t20 φ k n c cq x
 | 21,_=>t21 φ k n c cq x
 | 22,_=>t22 φ k n c cq x
 | 23,_=>t23 φ k n c cq x
 | 24,_=>t24 φ k n c cq x
 | 25,_=>t25 φ k n c cq x
 | 26,_=>t26 φ k n c cq x
 | 27,_=>t27 φ k n c cq x
 | 28,_=>t28 φ k n c cq x
 | 29,_=>t29 φ k n c cq x
 | 30,_=>t30 φ k n c cq x
 | 31,_=>t31 φ k n c cq x
 | 32,_=>t32 φ k n c cq x
 | 33,_=>t33 φ k n c cq x
 | 34,_=>t34 φ k n c cq x
 | 35,_=>t35 φ k n c cq x
 | 36,_=>t36 φ k n c cq x
 | 37,_=>t37 φ k n c cq x
 | 38,_=>t38 φ k n c cq x
 | 39,_=>t39 φ k n c cq x
 | 40,_=>t40 φ k n c cq x
 | 41,_=>t41 φ k n c cq x
 | 42,_=>t42 φ k n c cq x
 | 43,_=>t43 φ k n c cq x
 | 44,_=>t44 φ k n c cq x
 | 45,_=>t45 φ k n c cq x
 | 46,_=>t46 φ k n c cq x
 | 47,_=>t47 φ k n c cq x
 | 48,_=>t48 φ k n c cq x
 | 49,_=>t49 φ k n c cq x
 | 50,_=>t50 φ k n c cq x
 | 51,_=>t51 φ k n c cq x
 | 52,_=>t52 φ k n c cq x
 | 53,_=>t53 φ k n c cq x
 | 54,_=>t54 φ k n c cq x
 | 55,_=>t55 φ k n c cq x
 | 56,_=>t56 φ k n c cq x
 | 57,_=>t57 φ k n c cq x
 | 58,_=>t58 φ k n c cq x
 | 59,_=>t59 φ k n c cq x
 | 60,_=>t60 φ k n c cq x
 | 61,_=>t61 φ k n c cq x
 | 62,_=>t62 φ k n c cq x
 | 63,_=>t63 φ k n c cq x
 | i+64,h=>by omega
noncomputable def midL:List Oper:=(ops5.toList.drop 1).take 4
theorem mid5 (φ:Fb) (k n:List UInt8) (c cq:UInt32) (x y:Int) (j:Nat):(runS Tryz.prog (psb φ) (nb φ) [200025] Tryz.f161.ntmps ops5 midL 208 (Ty φ k n cq x j) (Hc k n c) ⟨[],[.int .i64 y],[]⟩).map (fun p=>(p.1,p.2.1,p.2.2.ob))=some (Ty φ k n cq x j++[(23,.int .i64 x),(24,.int .i64 j),(25,.int .i64 y),(26,.u8 (φ.bb k n cq j))],Hc k n c,[eqS (.int .i64 (IntKind.wrap .i64 (x+(j:Int)))) (.int .i64 y)]):=by kernel_rfl
theorem post5 (φ:Fb) (k n:List UInt8) (cq:UInt32) (x:Int) (j:Nat) (b:Bool) (Hx:HL):runA Tryz.prog (nb φ) Tryz.f161.ntmps ops5 (ops5.toList.drop 6) 200 ((27,.bool b)::Tj φ k n cq x j) Hx=some (T2 φ k n cq x j b,Hx):=by kernel_rfl
theorem cT (φ:Fb) (k n:List UInt8) (c cq:UInt32) (x:Int) (j:Nat):sg φ [] [] (T2 φ k n cq x j true) (T2 φ k n cq x j true) (Hc k n c) [rC]=some (.normal,T2 φ k n cq x j true,Hc k n c,[]):=by kernel_rfl
theorem cF (φ:Fb) (k n:List UInt8) (cq:UInt32) (x:Int) (j:Nat):sg φ [] [] (T2 φ k n cq x j false) (T2 φ k n cq x j false) [] [rC]=some (.ret,T2 φ k n cq x j false,[],[]):=by kernel_rfl
end Go.Proofs.YtanaackimepkdaaGreatDoor.Cha
namespace Go.Proofs.YtanaackimepkdaaGreatDoor.Cha
open Go Go.Eng Go.Cha
theorem aget_cases {α:Type}{k s:Nat}{v u:α}{l:List (Nat × α)}(h:aget ((k,v)::l) s=some u):(s=k∧u=v) ∨ aget l s=some u:=by
 simp only [aget] at h
 rcases beq_cases k s with ⟨e,hb⟩ | ⟨_,hb⟩ <;> rw [hb] at h <;> simp only [cond_true,cond_false] at h
 ·cases h; exact .inl ⟨e.symm,rfl⟩
 ·exact .inr h
def capS:List AVal:=[.ptr 197 0,.ptr 198 0,.ptr 199 0]
def pin4 (l:Nat) (u0 u1 u2:Value):List (Tmp × Value):=[(0,.func (.yield l) #[] #[]),(1,u0),(2,u1),(3,u2)]
def X (k n:List UInt8) (c:UInt32) (i:Nat):List AVal:=[.int .i64 (i:Int),.u8 (byteAt k n (c+UInt32.ofNat (i / 64)) (i % 64))]
abbrev ITs (k n:List UInt8) (c:UInt32) (l:Nat) (u0 u1 u2:Value) (T:TL) (a:Act) (w:World):Prop:=IT Tryz.prog Tryz.f161.ntmps 200 (Hc k n c) capS #[u0,u1,u2] (pin4 l u0 u1 u2) T a w
theorem roS (k n:List UInt8) (c:UInt32):∀ m o,aget (Hc k n c) m=some o→o.ro=true:=fun m o h=>by
 unfold Hc at h
 rcases aget_cases h with ⟨_,rfl⟩ | h
 ·rfl
 rcases aget_cases h with ⟨_,rfl⟩ | h
 ·rfl
 rcases aget_cases h with ⟨_,rfl⟩ | h
 ·rfl
 simp [aget] at h
theorem gl:Tryz.prog.globals.size≤200:=by
 have:Nat.ble Tryz.prog.globals.size 200=true:=by kernel_rfl
 exact Nat.le_of_ble_eq_true this
theorem pin_m (l:Nat) (u0 u1 u2:Value):(pin4 l u0 u1 u2).map (·.1)=[0,1,2,3]:=rfl
theorem seg {k n:List UInt8}{c:UInt32}{l:Nat}{u0 u1 u2:Value}{J:World→Prop}(hJ:∀ A B,J A→Grown A B→J B){sy:List Nat}{vs:List AVal}{Ts T Tq:TL}{cl:List Code}{x:XA}{ob:List Bool}
  (h:sg realFb sy vs Ts T (Hc k n c) cl=some (x,Tq,Hc k n c,ob)) (ha:allT ob=true) (hTl:ltT 200 Tq=true) (hp:pinS [0,1,2,3] cl=true) {a:Act} {w:World} {Q:Exit→Act→World→Prop} (hi:ITs k n c l u0 u1 u2 T a w) (hj:J w)
  (hQ:∀ a' w',ITs k n c l u0 u1 u2 Tq a' w'→J w'→Q x.out a' w'):wpS none 0 Tryz.prog cl Q a w:=
 itSegO (nb_ps _) nb_ok hmix hJ (roS k n c) rfl rfl gl h ha hTl (pin:=pin4 l u0 u1 u2) (by rw [pin_m]; exact hp) hi hj hQ
theorem split5:∃ o0 oc:Oper,ops5.toList=o0::(midL++oc::ops5.toList.drop 6)∧o0.op=.move (.tmp 0)∧o0.guard=none∧o0.dst=some 22∧oc.op=.call ⟨.value (.tmp 22),#[.tmp 25,.tmp 26],#[3,5]⟩∧oc.guard=none∧oc.dst=some 27∧pinO [0,1,2,3] o0=true∧pinO [0,1,2,3] oc=true∧pinL (22::[0,1,2,3]) midL=true:=
 ⟨ops5[0]!,ops5[5]!,by kernel_rfl,by kernel_rfl,by kernel_rfl,by kernel_rfl,by kernel_rfl,by kernel_rfl,by kernel_rfl,by kernel_rfl,by kernel_rfl,by kernel_rfl⟩
theorem nt18:Tryz.f161.ntmps=30:=by kernel_rfl
theorem lt22:22 < Tryz.f161.ntmps:=by rw [nt18]; decide
theorem lt27:27 < Tryz.f161.ntmps:=by rw [nt18]; decide
section
variable {k n:List UInt8}{c:UInt32}{l:Nat}{u0 u1 u2:Value}{J:Nat→World→Prop}{Jx:World→Prop}{N:Nat}
def Prem (k n:List UInt8) (c:UInt32) (l:Nat) (u0 u1 u2:Value) (J:Nat→World→Prop) (Jx:World→Prop) (N:Nat):Prop:=
 ∀ i W1,J i W1→i≤N∧∃ σ1,GRel Tryz.prog σ1∧HRel σ1 (aget (Hc k n c)) W1∧LR σ1 capS #[u0,u1,u2]∧((i < N ∨ false=false)→∀ xs,LR σ1 (X k n c i) xs→∀ m,YieldAt Fence.wide m Tryz.prog l xs W1 fun e W'=>(e=.returned (.bool true)∧J (i+1) W') ∨ (e=.returned (.bool false)∧Jx W'))
theorem carry {φ:Fb}{cq:UInt32}{x:Int}{j:Nat}{y:Int}:∀ σ1,LR σ1 capS #[u0,u1,u2]→∀ s v,aget (Tj φ k n cq x j) s=some v→s ≠ 22∧s ≠ 27∧((aget (Ty φ k n cq x j++[(23,.int .i64 x),(24,.int .i64 j),(25,.int .i64 y),(26,.u8 (φ.bb k n cq j))]) s=some v∧ltV 0 v=true) ∨ ∃ u,(s,u) ∈ pin4 l u0 u1 u2∧VR σ1 v u):=fun σ1 h s v hs=>by
 obtain ⟨a0,a1,a2,e,h0,h1,h2⟩:=LR.inv3 h
 simp only [Array.mk.injEq,List.cons.injEq,and_true] at e
 obtain ⟨rfl,rfl,rfl⟩:=e
 unfold Tj at hs
 rcases aget_cases hs with ⟨rfl,rfl⟩ | hs
 ·exact ⟨by decide,by decide,.inr ⟨_,by simp [pin4],h0⟩⟩
 rcases aget_cases hs with ⟨rfl,rfl⟩ | hs
 ·exact ⟨by decide,by decide,.inr ⟨_,by simp [pin4],h1⟩⟩
 rcases aget_cases hs with ⟨rfl,rfl⟩ | hs
 ·exact ⟨by decide,by decide,.inr ⟨_,by simp [pin4],h2⟩⟩
 rcases aget_cases hs with ⟨rfl,rfl⟩ | hs
 ·exact ⟨by decide,by decide,.inl ⟨rfl,rfl⟩⟩
 rcases aget_cases hs with ⟨rfl,rfl⟩ | hs
 ·exact ⟨by decide,by decide,.inl ⟨rfl,ltL_u8 0 ((List.range 64).map fun i=>φ.bb k n cq i)⟩⟩
 rcases aget_cases hs with ⟨rfl,rfl⟩ | hs
 ·exact ⟨by decide,by decide,.inl ⟨rfl,rfl⟩⟩
 simp [aget] at hs
theorem wrap_add {x:Nat}{j:Nat}(h:x+j < 4611686018427387904):eqS (.int .i64 (IntKind.wrap .i64 ((x:Int)+(j:Int)))) (.int .i64 ((x+j:Nat):Int))=true:=by
 rw [wrapI _ (by omega) (by omega)]
 simp [eqS]
theorem inner (hJ:∀ i A B,J i A→Grown A B→J i B) (hJx:∀ A B,Jx A→Grown A B→Jx B) (hY:Prem k n c l u0 u1 u2 J Jx N) (hN:N < 1099511627776){q:Nat}{Q:Exit→Act→World→Prop}
  (hret:∀ a w,a.defers=[]→Jx w→Q .ret a w) (hex:∀ a w,ITs k n c l u0 u1 u2 (Tj realFb k n (c+UInt32.ofNat q) ((64 * q:Nat):Int) (64:Nat)) a w→J (64 * q+64) w→Q (.exit 2) a w) :
  ∀ (r j:Nat) (a:Act) (w:World),j+r=64→ITs k n c l u0 u1 u2 (Tj realFb k n (c+UInt32.ofNat q) ((64 * q:Nat):Int) j) a w→J (64 * q+j) w→Code.roundsIn (Fw none) 0 Tryz.prog IB Q (r+1) a w
 | 0,j,a,w,hj,hi,hw=>by
  have:j=64:=by omega
  subst this
  rw [roundsIn_succ]
  refine wpS_pieces IB ?_
  show wpS none 0 Tryz.prog pI _ a w
  rw [pI_eq]
  refine wpS_app' [_,_] [_,_] (seg (J:=J (64 * q+64)) (hJ _) (s64 realFb k n c _ _) rfl rfl (by kernel_rfl) hi hw fun a' w' hi' hw' => ?_)
  exact hex a' w' hi' hw'
 | r+1,j,a,w,hj,hi,hw=>by
  have hj64:j < 64:=by omega
  obtain ⟨p1,p2,p6⟩:=tall realFb k n c (c+UInt32.ofNat q) ((64 * q:Nat):Int) j hj64
  rw [roundsIn_succ]
  refine wpS_pieces IB ?_
  show wpS none 0 Tryz.prog pI _ a w
  rw [pI_eq]
  refine wpS_app' [_,_] [_,_] (seg (J:=J (64 * q+j)) (hJ _) p1 rfl rfl (by kernel_rfl) hi hw fun a1 w1 hi1 hw1 => ?_)
  show (Code.block 3 B3).wpIn (Fw none) 0 Tryz.prog _ a1 w1
  refine wpIn_block (wpS_pieces B3 ?_)
  show wpS none 0 Tryz.prog p3 _ a1 w1
  rw [p3_eq]
  refine wpS_app' [_] [_,_] (seg (J:=J (64 * q+j)) (hJ _) p2 rfl rfl (by kernel_rfl) hi1 hw1 fun a2 w2 hi2 hw2 => ?_)
  show (Code.region 5 ops5 false).wpIn (Fw none) 0 Tryz.prog _ a2 w2
  have hle:=(hY _ _ hw2).1
  have hm:=mid5 realFb k n c (c+UInt32.ofNat q) ((64 * q:Nat):Int) ((64 * q+j:Nat):Int) j
  obtain ⟨⟨T1,H1,q1⟩,hm1,hm2⟩:=optMap hm
  simp only [Prod.mk.injEq] at hm2
  obtain ⟨rfl,rfl,hob⟩:=hm2
  have hmid:=(runS_ok (nb_ps realFb) hm1 (by rw [hob]; simp only [allT]; rw [wrap_add (by omega)]; rfl)).1
  have hX:X k n c (64 * q+j)=[.int .i64 ((64 * q+j:Nat):Int),.u8 (realFb.bb k n (c+UInt32.ofNat q) j)]:=by
   unfold X
   rw [show (64 * q+j) / 64=q by omega,show (64 * q+j) % 64=j by omega]
   rfl
  obtain ⟨o0,oc,hops,e1,e2,e3,e4,e5,e6,e7,e8,e9⟩:=split5
  refine itYield (cs:=nb realFb) (cap:=capS) (lb:=#[u0,u1,u2]) (pin:=pin4 l u0 u1 u2) (l:=l) (J:=J (64 * q+j)) (J':=J (64 * q+j+1)) (Jx:=Jx) nb_ok (hJ _) (hJ _) hJx (roS k n c) rfl rfl gl (List.mem_cons_self ..) hops e1 e2 e3 e4 e5 e6 rfl e7 e8 e9 (show pinL [0,1,2,3] (ops5.toList.drop 6)=true by kernel_rfl) lt22 lt27 (by rfl) hmid (by rfl)
   (Tj realFb k n (c+UInt32.ofNat q) ((64 * q:Nat):Int) j) rfl carry (T2 realFb k n (c+UInt32.ofNat q) ((64 * q:Nat):Int) j) (fun b Hx=>post5 realFb k n _ _ j b Hx) (fun b=>rfl) hi2 hw2 ?_ (.inl rfl) ?_ ?_ ?_
  ·intro W hW
   obtain ⟨_,σ1,g1,g2,g3,g4⟩:=hY _ W hW
   refine ⟨σ1,g1,g2,g3,fun xs hxs m=>g4 (.inr rfl) xs (by rw [hX]; exact hxs) m⟩
  ·intro W hW
   obtain ⟨_,σ1,g1,g2,g3,g4⟩:=hY _ W hW
   exact ⟨σ1,g1,g2,g3⟩
  ·intro a3 w3 hi3 hw3
   refine seg (J:=J (64 * q+j+1)) (hJ _) (cT realFb k n c _ _ j) rfl rfl (by kernel_rfl) hi3 hw3 fun a4 w4 hi4 hw4 => ?_
   refine seg (J:=J (64 * q+j+1)) (hJ _) p6 rfl rfl (by kernel_rfl) hi4 hw4 fun a5 w5 hi5 hw5 => ?_
   exact inner hJ hJx hY hN hret hex r (j+1) a5 w5 (by omega) hi5 hw5
  ·intro a3 w3 hi3 hw3
   refine itSegO (nb_ps realFb) nb_ok hmix (J:=Jx) hJx (fun m o h=>by simp [aget] at h) rfl rfl gl (cF realFb k n _ _ j) rfl rfl (pin:=pin4 l u0 u1 u2) (show pinS [0,1,2,3] [rC]=true by kernel_rfl) hi3 hw3 fun a4 w4 hi4 hw4 => ?_
   obtain ⟨σ,hr,_⟩:=hi4
   exact hret a4 w4 hr.defers hw4
end
end Go.Proofs.YtanaackimepkdaaGreatDoor.Cha
namespace Go.Proofs.YtanaackimepkdaaGreatDoor.Cha
open Go Go.Eng Go.Cha
theorem ofInt32 (q:Nat):UInt32.ofInt (q:Int)=UInt32.ofNat q:=by
 apply UInt32.toNat_inj.1
 simp [UInt32.ofInt]
 omega
theorem eqS_u32 {a b:UInt32}(h:a=b):eqS (.u32 a) (.u32 b)=true:=by
 subst h
 simp [eqS]
theorem block_no {c:UInt32}{q:Nat}(h:64 * q < 4611686018427387904):eqS (.u32 (c+UInt32.ofInt (IntKind.wrap .i64 (Int.tdiv ((64 * q:Nat):Int) 64)))) (.u32 (c+UInt32.ofNat q))=true:=by
 refine eqS_u32 ?_
 have e:Int.tdiv ((64 * q:Nat):Int) 64=(q:Int):=by
  rw [show (64:Int)=((64:Nat):Int) from rfl,← Int.ofNat_tdiv]
  congr 1
  omega
 rw [e,wrapI _ (by omega) (by omega),ofInt32]
theorem ltT_Tj (φ:Fb) (k n:List UInt8) (cq:UInt32) (x j:Int) (m:Nat):ltT m (Tj φ k n cq x j)=ltT m [(1,.ptr 197 0),(2,.ptr 198 0),(3,.ptr 199 0)]:=by
 have h:ltV m (.agg ((List.range 64).map fun i=>.u8 (φ.bb k n cq i)))=true:=ltL_u8 m ((List.range 64).map fun i=>φ.bb k n cq i)
 unfold Tj
 simp only [ltT,h]
 rfl
theorem Tj_lt (φ:Fb) (k n:List UInt8) (cq:UInt32) (x j:Int):ltT 200 (Tj φ k n cq x j)=true:=(ltT_Tj φ k n cq x j 200).trans (by decide)
theorem at4 {y u0 u1 u2:Value}{B:Array Value}{s:Nat}{v:Value}(h:(#[y,u0,u1,u2]:Array Value)[s]? = some v):(#[y] ++ #[u0,u1,u2]++B)[s]? = some v:=by
 have e:(#[y] ++ #[u0,u1,u2]:Array Value) = #[y,u0,u1,u2]:=rfl
 rw [e,Array.getElem?_append_left (Array.getElem?_eq_some_iff.1 h).1]
 exact h
section
variable {k n:List UInt8}{c:UInt32}{l:Nat}{u0 u1 u2:Value}{J:Nat→World→Prop}{Jx:World→Prop}{N:Nat}
theorem outer (hk:may k n=true) (hJ:∀ i A B,J i A→Grown A B→J i B) (hJx:∀ A B,Jx A→Grown A B→Jx B) (hY:Prem k n c l u0 u1 u2 J Jx N) (hN:N < 1099511627776){Q:Exit→Act→World→Prop}(hret:∀ a w,a.defers=[]→Jx w→Q .ret a w) :
  ∀ (m q:Nat) (a:Act) (w:World),N+1≤64 * (q+m)→ITs k n c l u0 u1 u2 (T0 ((64 * q:Nat):Int)) a w→J (64 * q) w→Code.roundsIn (Fw none) 0 Tryz.prog LB Q (m+1) a w
 | 0,q,a,w,h,hi,hw=>by
  have:=(hY _ _ hw).1
  exfalso
  omega
 | m+1,q,a,w,h,hi,hw=>by
  have hle:=(hY _ _ hw).1
  rw [roundsIn_succ]
  refine wpS_pieces LB ?_
  show wpS none 0 Tryz.prog pL _ a w
  rw [pL_eq]
  show (Code.block 1 B1).wpIn (Fw none) 0 Tryz.prog _ a w
  refine wpIn_block (wpS_pieces B1 ?_)
  show wpS none 0 Tryz.prog pB _ a w
  rw [pB_eq]
  refine wpS_app' [_] [_] (seg (J:=J (64 * q)) (hJ _) (s2 realFb k n c (c+UInt32.ofNat q) ((64 * q:Nat):Int)) ?_ (Tj_lt _ _ _ _ _ _) (by kernel_rfl) hi hw fun a1 w1 hi1 hw1 => ?_)
  ·show allT [may k n,_]=true
   rw [hk,block_no (by omega)]; rfl
  show (Code.block 2 (.loop IB)).wpIn (Fw none) 0 Tryz.prog _ a1 w1
  refine wpIn_block (wpIn_loop_rounds (64+1) ?_)
  refine inner hJ hJx hY hN (q:=q) ?_ ?_ 64 0 a1 w1 rfl hi1 hw1
  ·intro a w hd hx
   exact hret a w hd hx
  ·intro a2 w2 hi2 hw2
   simp only [Exit.inBlock,if_true]
   show wpS none 0 Tryz.prog [pL.getD 1 .skip] _ a2 w2
   refine seg (J:=J (64 * q+64)) (hJ _) (s1 realFb k n c (c+UInt32.ofNat q) ((64 * q:Nat):Int) ((64 * (q+1):Nat):Int)) ?_ rfl (by kernel_rfl) hi2 hw2 fun a3 w3 hi3 hw3 => ?_
   ·simp only [allT]
    have:=wrap_add (x:=64 * q) (j:=64) (by omega)
    rw [show 64 * (q+1)=64 * q+64 by omega]
    rw [show ((64:Nat):Int)=64 from rfl] at this
    rw [this]; rfl
   exact outer hk hJ hJx hY hN hret m (q+1) a3 w3 (by omega) hi3 (by rw [show 64 * (q+1)=64 * q+64 by omega]; exact hw3)
end
theorem res18 (tmps:Array Value) (w:World):(results Tryz.f161 tmps).run Tryz.prog w=.ok (.tuple #[]) w:=by
 have hr:Tryz.f161.results = #[]:=by kernel_rfl
 unfold results
 rw [hr]
 simp
theorem stream_it {k n:List UInt8}{c:UInt32}{N:Nat}(hk:may k n=true) (hN:N < 1099511627776):ItOk Tryz.prog 161 capS (Hc k n c) (X k n c) N false:=by
 intro lb l J Jx W hJ hJx hY h0
 obtain ⟨_,σ0,g1,g2,g3,_⟩:=hY 0 W h0
 obtain ⟨u0,u1,u2,rfl,v0,v1,v2⟩:=LR.inv3 g3
 refine (callsIn_wide (n:=0)).1 (callsIn_of_wp_marks (F:=Fence.wide) (fn:=Tryz.f161) (c:=bodyOf Tryz.f161) (by kernel_rfl) (by kernel_rfl) trivial ?_ rfl)
 refine wpS_pieces (ro:=none) (n:=0) _ ?_
 show wpS none 0 Tryz.prog p18 _ _ W
 rw [p18_eq]
 have hsz:Tryz.f161.ntmps=30:=nt18
 have start:ITs k n c l u0 u1 u2 Tc { tmps:=#[.func (.yield l) #[] #[]] ++ #[u0,u1,u2]++Array.replicate (Tryz.f161.ntmps - (#[.func (.yield l) #[] #[]] ++ #[u0,u1,u2]:Array Value).size) undef,defers:=[] } W:=by
  refine ⟨Go.Eng.cut 200 σ0,⟨(RRel.cut (m:=200) (T:=Tc) ⟨fun s v hs => ?_,by simp [bare,hsz],rfl,g2,g1⟩ rfl rfl gl),rfl,fun s v hs => ?_⟩,cut_fresh _ _,ltM_ok rfl g3⟩
  ·unfold Tc at hs
   rcases aget_cases hs with ⟨rfl,rfl⟩ | hs
   ·exact ⟨u0,at4 rfl,v0⟩
   rcases aget_cases hs with ⟨rfl,rfl⟩ | hs
   ·exact ⟨u1,at4 rfl,v1⟩
   rcases aget_cases hs with ⟨rfl,rfl⟩ | hs
   ·exact ⟨u2,at4 rfl,v2⟩
   simp [aget] at hs
  ·simp only [pin4,List.mem_cons,Prod.mk.injEq,List.mem_nil_iff,or_false] at hs
   rcases hs with ⟨rfl,rfl⟩ | ⟨rfl,rfl⟩ | ⟨rfl,rfl⟩ | ⟨rfl,rfl⟩ <;> exact at4 rfl
 refine wpS_app' [_] [_] (seg (J:=J 0) (hJ 0) (s0 realFb k n c) rfl rfl (by kernel_rfl) start h0 fun a w hi hw => ?_)
 show (Code.block 0 (.loop LB)).wpIn (Fw none) 0 Tryz.prog _ a w
 refine wpIn_block (wpIn_loop_rounds (N / 64+2) (outer hk hJ hJx hY hN (fun a w hd hx => ?_) (N / 64+1) 0 a w (by omega) hi hw))
 show LeavesInM Fence.wide 0 Tryz.prog Tryz.f161 a.tmps _ a.defers .returning w
 rw [hd]
 exact ⟨_,res18 _ _,⟨_,rfl⟩,.inr hx⟩
end Go.Proofs.YtanaackimepkdaaGreatDoor.Cha
namespace Go.Proofs.YtanaackimepkdaaGreatDoor.Cha
open Go Go.Eng Go.Cha
def rfBody:Code→Code
 | .rangeFunc _ _ _ b=>b
 | _=>.skip
def rfAssign:Code→Code
 | .rangeFunc _ _ a _=>a
 | _=>.skip
noncomputable def p10:List Code:=pieces (bodyOf Tryz.f75)
noncomputable def rf10:Code:=blkOf (p10.getD 4 .skip)
noncomputable def as10:Code:=rfAssign rf10
noncomputable def bd10:Code:=rfBody rf10
theorem p10_eq:p10=p10.take 4 ++ .block 1 (.rangeFunc (.tmp 33) #[34,35] as10 bd10)::p10.drop 5:=by kernel_rfl
def nt10 (φ:Fb):CS:=csAlt (csOne 114 k16) (nb φ)
theorem nt10_ok:CSOk Tryz.prog (nt10 realFb):=csAlt_ok k16_ok nb_ok
theorem nt10_ps (φ:Fb):PSOk (psb φ) (nt10 φ):=fun f args e h=>by
 have h1:=nb_ps φ f args e h
 unfold nt10 csAlt csOne
 cases hb:Nat.beq f 114 with
 | false=>exact h1
 | true =>
  rw [Nat.eq_of_beq_eq_true hb] at h
  exact absurd h (by
   intro h2
   have:psb φ 114 args=none:=rfl
   rw [this] at h2
   cases h2)
end Go.Proofs.YtanaackimepkdaaGreatDoor.Cha
namespace Go.Eng
open Go
theorem conv_bytes {P:Program}{cs:CS}{nt base:Nat}{ops:Array Oper}{o:Oper}{T T':TL}{H:HL}{s d e:TypeId}{x:Operand}{n m:Nat}{L:List UInt8}{ro:Bool}(hg:o.guard=none) (ho:o.op=.convert s d x) (hx:opd P (aget T) x=some (.slice n 0 m 1))
  (hs:P.underlying s=some (.slice e)) (he:P.underlying e=some (.int .u8)) (hd:P.underlying d=some .string) (hH:aget H n=some (.cells ro (L.map .u8))) (hm:m=L.length) (hput:putT nt T o.dst (.str L)=some T'):stepA P cs nt ops base o T H=some (T',H):=by
 subst hm
 have hc:convA P s d (.slice n 0 L.length 1)=none:=by
  unfold convA
  simp only [hs,hd]
 have hb:bytesStrA P s d (.slice n 0 L.length 1)=some (.read n fun ob=>match ob with
    | .cells _ c=>cond (Nat.ble (0+L.length) c.length) (match bytesA ((c.drop 0).take L.length) with
     | some bs=>some (.str bs)
     | none=>none) none
    | .mp _=>none):=by
  unfold bytesStrA
  simp only [hs,he,hd]
  rfl
 have hf:effA P cs (opd P (aget T)) o=some (.read n fun ob=>match ob with
    | .cells _ c=>cond (Nat.ble (0+L.length) c.length) (match bytesA ((c.drop 0).take L.length) with
     | some bs=>some (.str bs)
     | none=>none) none
    | .mp _=>none):=by
  unfold effA
  rw [ho]
  simp only [hx,nrm,hc,hb,ofV,orElse]
 have hw:wantA ops (aget T) o=some true:=by
  unfold wantA
  rw [hg]
 have hbl:Nat.ble (0+L.length) (L.map AVal.u8).length=true:=Nat.ble_eq_true_of_le (by simp)
 have ht:(L.map AVal.u8).take L.length=L.map .u8:=List.take_of_length_le (by simp)
 unfold stepA
 simp only [hw,hf,EffA.app,hH,hbl,cond_true,List.drop_zero,ht,bytesA_map,hput]
def turnTo (f:Nat→UInt8) (s:List UInt8):Nat→List UInt8
 | 0=>s
 | i+1=>(turnTo f s i).set i (s.getD i 0 ^^^ f i)
theorem turnTo_len (f:Nat→UInt8) (s:List UInt8):∀ i,(turnTo f s i).length=s.length
 | 0=>rfl
 | i+1=>by unfold turnTo; rw [List.length_set]; exact turnTo_len f s i
theorem turnTo_get (f:Nat→UInt8) (s:List UInt8):∀ (i j:Nat),j < s.length→(turnTo f s i)[j]? = some (if j < i then s.getD j 0 ^^^ f j else s.getD j 0)
 | 0,j,h=>by
  rw [if_neg (by omega),List.getD_eq_getElem?_getD]
  show s[j]? = _
  rw [List.getElem?_eq_getElem h]; rfl
 | i+1,j,h=>by
  unfold turnTo
  by_cases e:i=j
  ·subst e
   rw [List.getElem?_set_self (by rw [turnTo_len]; exact h),if_pos (by omega)]
  ·rw [List.getElem?_set_ne e,turnTo_get f s i j h]
   by_cases hl:j < i
   ·rw [if_pos hl,if_pos (by omega)]
   ·rw [if_neg hl,if_neg (by omega)]
theorem putA_u8 (L:List UInt8){i:Nat}(h:i < L.length) (x:UInt8):putA (L.map .u8) (0+((i:Int).toNat * 1)) (cellsA (.u8 x))=(L.set i x).map .u8:=by
 have e:0+((i:Int).toNat * 1)=i:=by simp
 rw [e,List.map_set]
 unfold putA
 show (L.map AVal.u8).take i++[AVal.u8 x]++(L.map AVal.u8).drop (i+1)=_
 rw [List.set_eq_take_append_cons_drop,if_pos (by simpa using h)]
 simp
end Go.Eng
namespace Go.Proofs.YtanaackimepkdaaGreatDoor.Cha
open Go Go.Eng Go.Cha
theorem endS_ok {P:Program}{ps:PS}{cs:CS}(hps:PSOk ps cs){sy:List Nat}{nt nn F bs:Nat}{l:List Code}{s:SA}{os:List Bool}{vs:List AVal}{Ts Tq:TL}{x:XA}{H:HL}{ob:List Bool}(h:endS Ts (evSO P ps cs sy nt nn F bs l s ⟨os,vs,[]⟩)=some (x,Tq,H,ob)) (ha:allT ob=true) :
  ∃ s',evS P cs nt nn F bs l s=some (x,s')∧s'.H=H:=by
 unfold endS at h
 split at h
 ·rename_i y s' q hs
  simp only [Option.some.injEq,Prod.mk.injEq] at h
  obtain ⟨rfl,_,rfl,rfl⟩:=h
  exact ⟨s',(evSO_ok hps l _ _ _ _ _ hs ha).1,rfl⟩
 ·cases h
def TL10 (k n s:List UInt8) (c:UInt32):TL:=[(0,.str k),(1,.str n),(2,.u32 c),(3,.str s),(8,.str []),(9,.int .i64 0),(13,.bool false),(18,.bool false),(10,.ptr 157 0),(33,.fn 161 [.ptr 197 0,.ptr 198 0,.ptr 199 0])]
def HH10 (k n:List UInt8) (c:UInt32) (L:List UInt8) (m:Nat):HL:=[(149,.cells false (L.map .u8)),(157,.cells false [.slice 149 0 m 1]),(197,.cells false [.str k]),(198,.cells false [.str n]),(199,.cells false [.u32 c])]
def over (c:UInt32) (m:Nat):Bool:=decide (UInt64.ofNat (Int.toNat 4294967296) < c.toUInt64+UInt64.ofInt (IntKind.wrap .i64 ((m:Int)+63)) / UInt64.ofNat (Int.toNat 64))
theorem w10p (φ:Fb) (k n s:List UInt8) (c:UInt32):segO (evSO Tryz.prog (psb φ) (nt10 φ) [17,27] Tryz.f75.ntmps (mask 75) 100 Tryz.prog.globals.size (p10.take 4) ⟨startT [.str k,.str n,.u32 c,.str s] 0,[],Tryz.prog.globals.size⟩ ⟨[false,false],[],[]⟩)=some (⟨TL10 k n s c,HH10 k n c s s.length,205⟩,[!over c s.length,!!(φ.may k n)]):=by kernel_rfl
theorem w10e (φ:Fb) (k n s:List UInt8) (c:UInt32):ansO (run1O Tryz.prog (psb φ) (nt10 φ) [17,27] [true] [] (mask 75) 100 75 [.str k,.str n,.u32 c,.str s] [] Tryz.prog.globals.size)=some (.tup [.str [],.int .i64 2],[!(φ.may k n)]):=by kernel_rfl
theorem w10l (φ:Fb) (k n s:List UInt8) (c:UInt32):ansO (run1O Tryz.prog (psb φ) (nt10 φ) [17,27] [false,true] [] (mask 75) 100 75 [.str k,.str n,.u32 c,.str s] [] Tryz.prog.globals.size)=some (.tup [.str [],.int .i64 4],[over c s.length,!!(φ.may k n)]):=by kernel_rfl
def TA10 (k n s:List UInt8) (c:UInt32) (i:Nat) (b:UInt8):TL:=TL10 k n s c++[(34,.int .i64 (i:Int)),(35,.u8 b),(11,.int .i64 (i:Int)),(12,.u8 b)]
theorem w10a (φ:Fb) (k n s:List UInt8) (c:UInt32) (H:HL) (i:Nat) (b:UInt8):evC Tryz.prog (nt10 φ) Tryz.f75.ntmps (mask 75) 100 205 as10 ⟨putPs (TL10 k n s c) [34,35] [.int .i64 (i:Int),.u8 b],H,205⟩=some (.normal,⟨TA10 k n s c i b,H,221⟩):=by kernel_rfl
theorem w10b (φ:Fb) (k n s L:List UInt8) (c:UInt32) (i m:Nat) (b x:UInt8):endS [] (evSO Tryz.prog (psb φ) (nt10 φ) [39,43,42,46,100046] Tryz.f75.ntmps (mask 75) 100 205 [bd10] ⟨TA10 k n s c i b,HH10 k n c L m,221⟩ ⟨[false],[.u8 x],[]⟩) =
  some (.normal,[],[(149,.cells false (putA (L.map .u8) (0+((i:Int).toNat * 1)) (cellsA (.u8 (x ^^^ b))))),(157,.cells false [.slice 149 0 m 1]),(197,.cells false [.str k]),(198,.cells false [.str n]),(199,.cells false [.u32 c])],
   [Nat.ble ((0+((i:Int).toNat * 1))+(cellsA (.u8 (x ^^^ b))).length) (L.map AVal.u8).length,decide (0≤(i:Int)) && decide ((i:Int) < (m:Int)),isAt (L.map .u8) (0+((i:Int).toNat * 1)) (.u8 x),decide (0≤(i:Int)) && decide ((i:Int) < (m:Int)),!((i:Int) == (m:Int))]):=by kernel_rfl
theorem w10x (φ:Fb) (k n s L:List UInt8) (c:UInt32) (i m:Nat) (b:UInt8):endS [] (evSO Tryz.prog (psb φ) (nt10 φ) [39,43,42,46,100046] Tryz.f75.ntmps (mask 75) 100 205 [bd10] ⟨TA10 k n s c i b,HH10 k n c L m,221⟩ ⟨[true],[],[]⟩) =
  some (.exit 1,[],HH10 k n c L m,[((i:Int) == (m:Int))]):=by kernel_rfl
noncomputable def ops11:Array Oper:=opsOf (p10.getD 5 .skip)
theorem p10d:p10.drop 5=[.region 11 ops11 false,.ret]:=by kernel_rfl
theorem split11:∃ o0 o1 o2 o3:Oper,ops11.toList=[o0,o1,o2,o3]∧o1.guard=none∧o1.op=.convert 50 9 (.tmp 47)∧o1.dst=some 48 ∧
  (∀ (φ:Fb) k n s c L m,stepA Tryz.prog (nt10 φ) Tryz.f75.ntmps ops11 205 o0 (TL10 k n s c) (HH10 k n c L m)=some (TL10 k n s c++[(47,.slice 149 0 m 1)],HH10 k n c L m)) ∧
  (∀ (φ:Fb) k n s c (L:List UInt8) (H:HL),runA Tryz.prog (nt10 φ) Tryz.f75.ntmps ops11 [o2,o3] 221 (TL10 k n s c++[(47,.slice 149 0 L.length 1),(48,.str L)]) H=some (aset (aset (TL10 k n s c++[(47,.slice 149 0 L.length 1),(48,.str L)]) 8 (.str L)) 9 (.int .i64 0),H)):=
 ⟨ops11[0]!,ops11[1]!,ops11[2]!,ops11[3]!,by kernel_rfl,by kernel_rfl,by kernel_rfl,by kernel_rfl,fun φ k n s c L m=>by kernel_rfl,fun φ k n s c L H=>by kernel_rfl⟩
theorem u36:∃ e,Tryz.prog.underlying 50=some (.slice e)∧Tryz.prog.underlying e=some (.int .u8):=⟨5,by kernel_rfl,by kernel_rfl⟩
theorem u9:Tryz.prog.underlying 9=some .string:=by kernel_rfl
theorem nt10_n:Tryz.f75.ntmps=49:=by kernel_rfl
theorem fin10 (L k n s:List UInt8) (c:UInt32) (H:HL) (fr:Nat):finR Tryz.prog Tryz.f75 ⟨prune (mask 75) (aset (aset (TL10 k n s c++[(47,.slice 149 0 L.length 1),(48,.str L)]) 8 (.str L)) 9 (.int .i64 0)),H,fr⟩=some (.tup [.str L,.int .i64 0],H,fr):=by kernel_rfl
theorem tail10 (φ:Fb) (k n s:List UInt8) (c:UInt32) (L:List UInt8):∃ s2,evS Tryz.prog (nt10 φ) Tryz.f75.ntmps (mask 75) 100 Tryz.prog.globals.size (p10.drop 5) ⟨TL10 k n s c,HH10 k n c L L.length,205⟩=some (.ret,s2)∧∃ H' fr',finR Tryz.prog Tryz.f75 s2=some (.tup [.str L,.int .i64 0],H',fr'):=by
 obtain ⟨o0,o1,o2,o3,h1,h2,h3,h4,h5,h6⟩:=split11
 obtain ⟨e,e1,e2⟩:=u36
 have hc:=conv_bytes (P:=Tryz.prog) (cs:=nt10 φ) (nt:=Tryz.f75.ntmps) (base:=213) (ops:=ops11) (T:=TL10 k n s c++[(47,.slice 149 0 L.length 1)]) (T':=TL10 k n s c++[(47,.slice 149 0 L.length 1),(48,.str L)]) (H:=HH10 k n c L L.length) (n:=149) (m:=L.length) (L:=L) (ro:=false) h2 h3 (by rfl) e1 e2 u9 rfl rfl (by rw [h4,nt10_n]; rfl)
 have hr:=runA_cons (h5 φ k n s c L L.length) rfl (runA_cons hc rfl (h6 φ k n s c L (HH10 k n c L L.length)))
 rw [p10d]
 have he:evC Tryz.prog (nt10 φ) Tryz.f75.ntmps (mask 75) 100 Tryz.prog.globals.size (.region 11 ops11 false) ⟨TL10 k n s c,HH10 k n c L L.length,205⟩=some (.normal,⟨prune (mask 75) (aset (aset (TL10 k n s c++[(47,.slice 149 0 L.length 1),(48,.str L)]) 8 (.str L)) 9 (.int .i64 0)),HH10 k n c L L.length,205+8 * ops11.size⟩):=by
  simp only [evC,regA,h1,hr]
 have hv:evS Tryz.prog (nt10 φ) Tryz.f75.ntmps (mask 75) 100 Tryz.prog.globals.size [.region 11 ops11 false,.ret] ⟨TL10 k n s c,HH10 k n c L L.length,205⟩=some (.ret,⟨prune (mask 75) (aset (aset (TL10 k n s c++[(47,.slice 149 0 L.length 1),(48,.str L)]) 8 (.str L)) 9 (.int .i64 0)),HH10 k n c L L.length,205+8 * ops11.size⟩):=by
  rw [evS,he]; rfl
 exact ⟨_,hv,_,_,fin10 L _ _ _ _ _ _⟩
theorem hlt10 (k n:List UInt8) (c:UInt32) (L:List UInt8) (m:Nat):ltH 205 (HH10 k n c L m)=true:=by
 unfold HH10
 simp only [ltH,ltL_u8]
 rfl
theorem hc10 (k n:List UInt8) (c:UInt32) (L:List UInt8) (m:Nat):LessRo (Hc k n c) (HH10 k n c L m):=fun j o h=>by
 unfold Hc at h
 rcases aget_cases h with ⟨rfl,rfl⟩ | h
 ·exact ⟨false,_,rfl,rfl⟩
 rcases aget_cases h with ⟨rfl,rfl⟩ | h
 ·exact ⟨false,_,rfl,rfl⟩
 rcases aget_cases h with ⟨rfl,rfl⟩ | h
 ·exact ⟨false,_,rfl,rfl⟩
 simp [aget] at h
def tb (k n:List UInt8) (c:UInt32) (i:Nat):UInt8:=byteAt k n (c+UInt32.ofNat (i / 64)) (i % 64)
theorem natI (i m:Nat):((i:Int) == (m:Int))=(i == m):=by rw [Bool.eq_iff_iff]; simp only [beq_iff_eq]; omega
theorem ents {P:Program}{f:FuncId}(hb:bodied P f=true):∀ args w,(callFunc f args).run P w=.ok (.enter f args) w:=by
 obtain ⟨fn,hfn,hbody,hname⟩:=bodied_ok hb
 intro args w
 simp only [callFunc,Sem.run_bind,run_program,Result.andThen_ok,hfn,hname,hbody,Bool.false_eq_true,if_false,Sem.run_pure]
theorem ents10:∀ args w,(callFunc 161 args).run Tryz.prog w=.ok (.enter 161 args) w:=ents (by kernel_rfl)
theorem turn_callOk (k n s:List UInt8) (c:UInt32) (hk:may k n=true) (ho:over c s.length=false) (hs:s.length < 1099511627776):CallOk Tryz.prog 75 [.str k,.str n,.u32 c,.str s] (.pure (.tup [.str (turnTo (tb k n c) s s.length),.int .i64 0])):=by
 have h1:=segO_pre (nt10_ps _) (w10p realFb k n s c) (by show allT [!over c s.length,!!(may k n)]=true; rw [ho,hk]; rfl)
 have hL:(turnTo (tb k n c) s s.length).length=s.length:=turnTo_len _ _ _
 obtain ⟨s2,ht,H',fr',hfin⟩:=tail10 realFb k n s c (turnTo (tb k n c) s s.length)
 rw [hL] at ht
 refine callOk_of (H':=H') (fr':=fr') (fun σ args' w hl hH hg hf => ?_) rfl rfl
 refine runR_ok nt10_ok hmix (nn:=mask 75) (F:=100) (fn:=Tryz.f75) (c:=bodyOf Tryz.f75) (by kernel_rfl) (by kernel_rfl) (by kernel_rfl) (l1:=p10.take 4) (l2:=p10.drop 5) p10_eq h1 (N:=s.length) (fin:=false) (cap:=capS) (Hc:=Hc k n c) (X:=X k n c) (by rfl) ents10 (stream_it hk hs) (Nat.le_trans gl (by show 200≤205; omega))
  (fun i=>HH10 k n c (turnTo (tb k n c) s i) s.length) (fun _ _ h=>h) (fun i _=>hlt10 k n c _ _) (fun i _=>hc10 k n c _ _) (fun i=>rfl) ?_ ?_ (Hf:=HH10 k n c (turnTo (tb k n c) s s.length) s.length) (fun h=>by cases h) (hlt10 k n c _ _) ?_ ht (.inr rfl) hfin hl hH hg hf
 ·intro p hp
  rw [nt10_n]
  simp only [List.mem_cons,List.mem_nil_iff,or_false] at hp
  rcases hp with rfl | rfl <;> decide
 ·intro i hi
  have hli:(turnTo (tb k n c) s i).length=s.length:=turnTo_len _ _ _
  have hx:(turnTo (tb k n c) s i)[i]? = some (s.getD i 0):=by
   rw [turnTo_get _ _ _ _ hi,if_neg (by omega)]
  have q1:((turnTo (tb k n c) s i).map AVal.u8)[0+((i:Int).toNat * 1)]? = some (.u8 (s.getD i 0)):=by
   rw [show 0+((i:Int).toNat * 1)=i by simp,List.getElem?_map,hx]; rfl
  have q2:=isAt_of q1 (by simp [eqS])
  have q3:Nat.ble ((0+((i:Int).toNat * 1))+(cellsA (.u8 (s.getD i 0 ^^^ tb k n c i))).length) ((turnTo (tb k n c) s i).map AVal.u8).length=true:=by
   rw [show 0+((i:Int).toNat * 1)=i by simp,List.length_map,hli]
   exact Nat.ble_eq_true_of_le hi
  have q4:(decide (0≤(i:Int)) && decide ((i:Int) < (s.length:Int)))=true:=by simp; omega
  have q5:((i:Int) == (s.length:Int))=false:=by rw [natI]; simp; omega
  obtain ⟨s',e1,e2⟩:=endS_ok (nt10_ps realFb) (w10b realFb k n s (turnTo (tb k n c) s i) c i s.length (tb k n c i) (s.getD i 0)) (by simp only [allT,q2,q3,q4,q5]; rfl)
  rw [evS_one] at e1
  refine ⟨_,s',w10a realFb k n s c _ i (tb k n c i),e1,fun m o hm => ?_⟩
  rw [e2,putA_u8 _ (by rw [hli]; exact hi)]
  exact hm
 ·intro _
  obtain ⟨s',e1,e2⟩:=endS_ok (nt10_ps realFb) (w10x realFb k n s (turnTo (tb k n c) s s.length) c s.length s.length (tb k n c s.length)) (by simp [allT])
  rw [evS_one] at e1
  refine ⟨_,s',w10a realFb k n s c _ s.length (tb k n c s.length),e1,fun m o hm => ?_⟩
  rw [e2]
  exact hm
end Go.Proofs.YtanaackimepkdaaGreatDoor.Cha
namespace Go.Proofs.YtanaackimepkdaaGreatDoor.Cha
open Go Go.Eng Go.Cha
noncomputable def p11:List Code:=pieces (bodyOf Tryz.f86)
noncomputable def L11:Code:=loopOf (p11.getD 9 .skip)
theorem p11_9:p11[9]? = some (.block 0 (.loop L11)):=by kernel_rfl
def T11 (k n s cur:List UInt8) (c:UInt32) (bl:UInt64) (m i:Nat):TL:=[(0,.str k),(1,.str n),(2,.u32 c),(3,.str s),(8,.str []),(9,.int .i64 0),(17,.bool false),(10,.u64 bl),(27,.bool false),(11,.slice 149 0 m 1),(12,.str cur),(13,.int .i64 (i:Int))]
def S11 (k n s cur L:List UInt8) (c:UInt32) (bl:UInt64) (m i:Nat):SA:=⟨T11 k n s cur c bl m i,[(149,.cells false (L.map .u8))],181⟩
def bl11 (m:Nat):UInt64:=UInt64.ofInt (IntKind.wrap .i64 ((m:Int)+63)) / UInt64.ofNat (Int.toNat 64)
theorem w11p (φ:Fb) (k n s:List UInt8) (c:UInt32) (F:Nat):segO (evSO Tryz.prog (psb φ) (nb φ) [17,27] Tryz.f86.ntmps (mask 86) F Tryz.prog.globals.size (p11.take 9) ⟨startT [.str k,.str n,.u32 c,.str s] 0,[],Tryz.prog.globals.size⟩ ⟨[false,false],[],[]⟩)=some (S11 k n s [] s c (bl11 s.length) s.length 0,[!over c s.length,!!(φ.may k n)]):=by kernel_rfl
theorem w11e (φ:Fb) (k n s:List UInt8) (c:UInt32):ansO (run1O Tryz.prog (psb φ) (nb φ) [17,27] [true] [] (mask 86) 100 86 [.str k,.str n,.u32 c,.str s] [] Tryz.prog.globals.size)=some (.tup [.str [],.int .i64 2],[!(φ.may k n)]):=by kernel_rfl
theorem w11l (φ:Fb) (k n s:List UInt8) (c:UInt32):ansO (run1O Tryz.prog (psb φ) (nb φ) [17,27] [false,true] [] (mask 86) 100 86 [.str k,.str n,.u32 c,.str s] [] Tryz.prog.globals.size)=some (.tup [.str [],.int .i64 4],[over c s.length,!!(φ.may k n)]):=by kernel_rfl
def sy11:List Nat:=[33,38,46,200045,51,52,56,58,100058,200035]
theorem r11a (φ:Fb) (k n s cur L cur0 L0:List UInt8) (c cq:UInt32) (bl:UInt64) (m i F y:Nat) (x:UInt8):roundO2 Tryz.prog (psb φ) (nb φ) sy11 [true,true] [.u32 cq,.u8 x,.int .i64 (y:Int)] Tryz.f86.ntmps (mask 86) F Tryz.prog.globals.size L11 (S11 k n s cur0 L0 c bl m 0) (S11 k n s cur L c bl m i) =
  some (⟨T11 k n s (blkL φ k n cq) c bl m y,[(149,.cells false (putA (L.map .u8) (0+((i:Int).toNat * 1)) (cellsA (.u8 (x ^^^ (blkL φ k n cq).getD (Int.toNat (Int.tmod (i:Int) 64)) 0)))))],181⟩,
   [eqS (.int .i64 (IntKind.wrap .i64 ((i:Int)+1))) (.int .i64 (y:Int)),Nat.ble ((0+((i:Int).toNat * 1))+(cellsA (.u8 (x ^^^ (blkL φ k n cq).getD (Int.toNat (Int.tmod (i:Int) 64)) 0))).length) (L.map AVal.u8).length,decide (0≤(i:Int)) && decide ((i:Int) < (m:Int)),decide (0≤Int.tmod (i:Int) 64) && decide (Int.tmod (i:Int) 64 < ((blkL φ k n cq).length:Int)),isAt (L.map .u8) (0+((i:Int).toNat * 1)) (.u8 x),decide (0≤(i:Int)) && decide ((i:Int) < (m:Int)),φ.may k n,eqS (.u32 (c+UInt32.ofInt (IntKind.wrap .i64 (Int.tdiv (i:Int) 64)))) (.u32 cq),Int.tmod (i:Int) 64 == 0,decide ((i:Int) < (m:Int))]):=by kernel_rfl
theorem r11b (φ:Fb) (k n s cur L cur0 L0:List UInt8) (c:UInt32) (bl:UInt64) (m i F y:Nat) (x:UInt8):roundO2 Tryz.prog (psb φ) (nb φ) sy11 [true,false] [.u8 x,.int .i64 (y:Int)] Tryz.f86.ntmps (mask 86) F Tryz.prog.globals.size L11 (S11 k n s cur0 L0 c bl m 0) (S11 k n s cur L c bl m i) =
  some (⟨T11 k n s cur c bl m y,[(149,.cells false (putA (L.map .u8) (0+((i:Int).toNat * 1)) (cellsA (.u8 (x ^^^ cur.getD (Int.toNat (Int.tmod (i:Int) 64)) 0)))))],181⟩,
   [eqS (.int .i64 (IntKind.wrap .i64 ((i:Int)+1))) (.int .i64 (y:Int)),Nat.ble ((0+((i:Int).toNat * 1))+(cellsA (.u8 (x ^^^ cur.getD (Int.toNat (Int.tmod (i:Int) 64)) 0))).length) (L.map AVal.u8).length,decide (0≤(i:Int)) && decide ((i:Int) < (m:Int)),decide (0≤Int.tmod (i:Int) 64) && decide (Int.tmod (i:Int) 64 < (cur.length:Int)),isAt (L.map .u8) (0+((i:Int).toNat * 1)) (.u8 x),decide (0≤(i:Int)) && decide ((i:Int) < (m:Int)),!(Int.tmod (i:Int) 64 == 0),decide ((i:Int) < (m:Int))]):=by kernel_rfl
theorem x11 (φ:Fb) (k n s cur L:List UInt8) (c:UInt32) (bl:UInt64) (m i F:Nat):evSO Tryz.prog (psb φ) (nb φ) [33] Tryz.f86.ntmps (mask 86) F Tryz.prog.globals.size [L11] (S11 k n s cur L c bl m i) ⟨[false],[],[]⟩=some (.exit 0,⟨T11 k n s cur c bl m i++[(33,.bool false)],[(149,.cells false (L.map .u8))],213⟩,⟨[],[],[!(decide ((i:Int) < (m:Int)))]⟩):=by kernel_rfl
noncomputable def ops14:Array Oper:=opsOf (p11.getD 10 .skip)
theorem p11d:p11.drop 10=[.region 14 ops14 false,.ret]:=by kernel_rfl
theorem split14:∃ o0 o1 o2 o3:Oper,ops14.toList=[o0,o1,o2,o3]∧o1.guard=none∧o1.op=.convert 50 9 (.tmp 59)∧o1.dst=some 60 ∧
  (∀ (φ:Fb) k n s cur c bl m i (H:HL),stepA Tryz.prog (nb φ) Tryz.f86.ntmps ops14 213 o0 (T11 k n s cur c bl m i++[(33,.bool false)]) H=some (T11 k n s cur c bl m i++[(33,.bool false),(59,.slice 149 0 m 1)],H)) ∧
  (∀ (φ:Fb) k n s cur c bl i (L:List UInt8) (H:HL),runA Tryz.prog (nb φ) Tryz.f86.ntmps ops14 [o2,o3] 229 (T11 k n s cur c bl L.length i++[(33,.bool false),(59,.slice 149 0 L.length 1),(60,.str L)]) H=some (aset (aset (T11 k n s cur c bl L.length i++[(33,.bool false),(59,.slice 149 0 L.length 1),(60,.str L)]) 8 (.str L)) 9 (.int .i64 0),H)):=
 ⟨ops14[0]!,ops14[1]!,ops14[2]!,ops14[3]!,by kernel_rfl,by kernel_rfl,by kernel_rfl,by kernel_rfl,fun φ k n s cur c bl m i H=>by kernel_rfl,fun φ k n s cur c bl i L H=>by kernel_rfl⟩
theorem nt11_n:Tryz.f86.ntmps=61:=by kernel_rfl
theorem fin11 (L k n s cur:List UInt8) (c:UInt32) (bl:UInt64) (i:Nat) (H:HL) (fr:Nat):finV Tryz.prog Tryz.f86 (some (.ret,⟨prune (mask 86) (aset (aset (T11 k n s cur c bl L.length i++[(33,.bool false),(59,.slice 149 0 L.length 1),(60,.str L)]) 8 (.str L)) 9 (.int .i64 0)),H,fr⟩))=some (.tup [.str L,.int .i64 0]):=by kernel_rfl
theorem tail11 (φ:Fb) (k n s cur:List UInt8) (c:UInt32) (bl:UInt64) (i F:Nat) (L:List UInt8):finV Tryz.prog Tryz.f86 (evS Tryz.prog (nb φ) Tryz.f86.ntmps (mask 86) F Tryz.prog.globals.size (p11.drop 10) ⟨T11 k n s cur c bl L.length i++[(33,.bool false)],[(149,.cells false (L.map .u8))],213⟩)=some (.tup [.str L,.int .i64 0]):=by
 obtain ⟨o0,o1,o2,o3,h1,h2,h3,h4,h5,h6⟩:=split14
 obtain ⟨e,e1,e2⟩:=u36
 have hc:=conv_bytes (P:=Tryz.prog) (cs:=nb φ) (nt:=Tryz.f86.ntmps) (base:=221) (ops:=ops14) (T:=T11 k n s cur c bl L.length i++[(33,.bool false),(59,.slice 149 0 L.length 1)]) (T':=T11 k n s cur c bl L.length i++[(33,.bool false),(59,.slice 149 0 L.length 1),(60,.str L)]) (H:=[(149,.cells false (L.map .u8))]) (n:=149) (m:=L.length) (L:=L) (ro:=false) h2 h3 (by rfl) e1 e2 u9 rfl rfl (by rw [h4,nt11_n]; rfl)
 have hr:=runA_cons (h5 φ k n s cur c bl L.length i [(149,.cells false (L.map .u8))]) rfl (runA_cons hc rfl (h6 φ k n s cur c bl i L [(149,.cells false (L.map .u8))]))
 rw [p11d]
 have he:evC Tryz.prog (nb φ) Tryz.f86.ntmps (mask 86) F Tryz.prog.globals.size (.region 14 ops14 false) ⟨T11 k n s cur c bl L.length i++[(33,.bool false)],[(149,.cells false (L.map .u8))],213⟩=some (.normal,⟨prune (mask 86) (aset (aset (T11 k n s cur c bl L.length i++[(33,.bool false),(59,.slice 149 0 L.length 1),(60,.str L)]) 8 (.str L)) 9 (.int .i64 0)),[(149,.cells false (L.map .u8))],213+8 * ops14.size⟩):=by
  simp only [evC,regA,h1,hr]
 rw [evS,he]
 exact fin11 L k n s cur c bl i _ _
end Go.Proofs.YtanaackimepkdaaGreatDoor.Cha
namespace Go.Proofs.YtanaackimepkdaaGreatDoor.Cha
open Go Go.Eng Go.Cha
def curOf (k n:List UInt8) (c:UInt32):Nat→List UInt8
 | 0=>[]
 | i+1=>blkL realFb k n (c+UInt32.ofNat (i / 64))
theorem curOf_eq (k n:List UInt8) (c:UInt32){i:Nat}(h:¬ i % 64=0):curOf k n c i=blkL realFb k n (c+UInt32.ofNat (i / 64)):=by
 cases i with
 | zero=>exact absurd rfl h
 | succ i =>
  have e:(i+1) / 64=i / 64:=by omega
  rw [e]
  rfl
theorem blkL_len (φ:Fb) (k n:List UInt8) (c:UInt32):(blkL φ k n c).length=64:=by unfold blkL; simp
theorem blkL_get (φ:Fb) (k n:List UInt8) (c:UInt32){j:Nat}(h:j < 64):(blkL φ k n c).getD j 0=φ.bb k n c j:=by
 unfold blkL
 rw [List.getD_eq_getElem?_getD,List.getElem?_map,List.getElem?_range h]; rfl
theorem tmodN (i:Nat):Int.tmod (i:Int) 64=((i % 64:Nat):Int):=(Int.ofNat_tmod i 64).symm
theorem tdivN (i:Nat):Int.tdiv (i:Int) 64=((i / 64:Nat):Int):=(Int.ofNat_tdiv i 64).symm
def I11 (k n s:List UInt8) (c:UInt32) (i:Nat):SA:=S11 k n s (curOf k n c i) (turnTo (tb k n c) s i) c (bl11 s.length) s.length i
theorem ok11 (k n s cur L:List UInt8) (c:UInt32) (bl:UInt64) (m i:Nat):okS Tryz.prog (S11 k n s cur L c bl m i)=true:=by
 have h:Nat.ble Tryz.prog.globals.size 181=true:=by kernel_rfl
 have h2:ltL 181 (L.map AVal.u8)=true:=ltL_u8 181 L
 have h3:ltH 181 [(149,AObj.cells false (L.map AVal.u8))]=true:=by
  simp only [ltH,h2]; rfl
 unfold okS S11
 simp only [h,h3]
 rfl
theorem step11 {k n s:List UInt8}{c:UInt32}(hk:may k n=true) (hs:s.length < 1099511627776) (F:Nat):∀ i,i < s.length→roundA (evC Tryz.prog (nb realFb) Tryz.f86.ntmps (mask 86) F Tryz.prog.globals.size L11) (headA Tryz.prog Tryz.prog.globals.size (I11 k n s c 0)) (I11 k n s c i)=some (I11 k n s c (i+1)):=fun i hi=>by
 have hli:(turnTo (tb k n c) s i).length=s.length:=turnTo_len _ _ _
 have hx:(turnTo (tb k n c) s i)[i]? = some (s.getD i 0):=by rw [turnTo_get _ _ _ _ hi,if_neg (by omega)]
 have ei:0+((i:Int).toNat * 1)=i:=by simp
 have q1:((turnTo (tb k n c) s i).map AVal.u8)[0+((i:Int).toNat * 1)]? = some (.u8 (s.getD i 0)):=by rw [ei,List.getElem?_map,hx]; rfl
 have q2:=isAt_of q1 (by simp [eqS])
 have q3:∀ x:UInt8,Nat.ble ((0+((i:Int).toNat * 1))+(cellsA (.u8 x)).length) ((turnTo (tb k n c) s i).map AVal.u8).length=true:=fun x=>by
  rw [ei,List.length_map,hli]
  exact Nat.ble_eq_true_of_le hi
 have q4:(decide (0≤(i:Int)) && decide ((i:Int) < (s.length:Int)))=true:=by simp; omega
 have q5:eqS (.int .i64 (IntKind.wrap .i64 ((i:Int)+1))) (.int .i64 ((i+1:Nat):Int))=true:=wrap_add (x:=i) (j:=1) (by omega)
 have q6:decide ((i:Int) < (s.length:Int))=true:=decide_eq_true (by omega)
 have q0:decide (0≤(i:Int))=true:=decide_eq_true (by omega)
 have tn:Int.toNat (Int.tmod (i:Int) 64)=i % 64:=by rw [tmodN,Int.toNat_natCast]
 have q7:∀ cur:List UInt8,cur.length=64→(decide (0≤Int.tmod (i:Int) 64) && decide (Int.tmod (i:Int) 64 < (cur.length:Int)))=true:=fun cur hc=>by
  rw [tmodN,hc]
  simp only [Bool.and_eq_true,decide_eq_true_eq]
  omega
 have fin:∀ cur:List UInt8,cur=blkL realFb k n (c+UInt32.ofNat (i / 64))→(⟨T11 k n s cur c (bl11 s.length) s.length (i+1),[(149,.cells false (putA ((turnTo (tb k n c) s i).map .u8) (0+((i:Int).toNat * 1)) (cellsA (.u8 (s.getD i 0 ^^^ cur.getD (Int.toNat (Int.tmod (i:Int) 64)) 0)))))],181⟩:SA)=I11 k n s c (i+1):=fun cur hc=>by
  rw [putA_u8 _ (by rw [hli]; exact hi),tn,hc,blkL_get _ _ _ _ (by omega)]
  rfl
 by_cases h64:i % 64=0
 ·have h:=r11a realFb k n s (curOf k n c i) (turnTo (tb k n c) s i) (curOf k n c 0) (turnTo (tb k n c) s 0) c (c+UInt32.ofNat (i / 64)) (bl11 s.length) s.length i F (i+1) (s.getD i 0)
  rw [fin _ rfl] at h
  refine roundO2_ok (nb_ps _) h ?_ (ok11 _ _ _ _ _ _ _ _ _)
  have q8:(Int.tmod (i:Int) 64 == 0)=true:=by rw [tmodN,h64]; rfl
  have q9:eqS (.u32 (c+UInt32.ofInt (IntKind.wrap .i64 (Int.tdiv (i:Int) 64)))) (.u32 (c+UInt32.ofNat (i / 64)))=true:=by
   refine eqS_u32 ?_
   rw [tdivN,wrapI _ (by omega) (by omega),ofInt32]
  have q10:realFb.may k n=true:=hk
  simp only [allT,q2,q3,q0,q5,q6,Bool.and_true,q7 _ (blkL_len realFb k n (c+UInt32.ofNat (i / 64))),q8,q9,q10,cond_true]
 ·have hcur:=curOf_eq k n c h64
  have h:=r11b realFb k n s (curOf k n c i) (turnTo (tb k n c) s i) (curOf k n c 0) (turnTo (tb k n c) s 0) c (bl11 s.length) s.length i F (i+1) (s.getD i 0)
  rw [fin _ hcur] at h
  refine roundO2_ok (nb_ps _) h ?_ (ok11 _ _ _ _ _ _ _ _ _)
  have q8:(Int.tmod (i:Int) 64 == 0)=false:=by
   rw [tmodN]
   simp only [beq_eq_false_iff_ne,ne_eq]
   omega
  have hl:(curOf k n c i).length=64:=by rw [hcur,blkL_len]
  simp only [allT,q2,q3,q0,q5,q6,Bool.and_true,q7 _ hl,q8,cond_true,Bool.not_false]
theorem run11 {k n s:List UInt8}{c:UInt32}(hk:may k n=true) (ho:over c s.length=false) (hs:s.length < 1099511627776):(run1 Tryz.prog (nb realFb) (mask 86) (s.length+1) 86 [.str k,.str n,.u32 c,.str s] [] Tryz.prog.globals.size).map (·.1)=some (.tup [.str (turnTo (tb k n c) s s.length),.int .i64 0]):=by
 have hL:(turnTo (tb k n c) s s.length).length=s.length:=turnTo_len _ _ _
 have hp:=segO_pre (nb_ps _) (w11p realFb k n s c (s.length+1)) (by show allT [!over c s.length,!!(may k n)]=true; rw [ho,hk]; rfl)
 have hx:=(evSO_ok (nb_ps _) _ _ _ _ _ _ (x11 realFb k n s (curOf k n c s.length) (turnTo (tb k n c) s s.length) c (bl11 s.length) s.length s.length (s.length+1)) (by simp [allT])).1
 rw [evS_one] at hx
 have ht:=tail11 realFb k n s (curOf k n c s.length) c (bl11 s.length) s.length (s.length+1) (turnTo (tb k n c) s s.length)
 rw [hL] at ht
 exact run_loop (fn:=Tryz.f86) (c:=bodyOf Tryz.f86) (by kernel_rfl) (by kernel_rfl) (by kernel_rfl) 9 p11_9 (I11 k n s c) s.length hp (step11 hk hs _) hx (by omega) ht
def tvR (k n:List UInt8) (c:UInt32) (s:List UInt8):List UInt8:=cond (may k n) (cond (over c s.length) [] (turnTo (tb k n c) s s.length)) []
def trR (k n:List UInt8) (c:UInt32) (s:List UInt8):Int:=cond (may k n) (cond (over c s.length) 4 0) 2
def shortB (s:List UInt8):Bool:=Nat.ble s.length 1099511627775
theorem call10 (k n s:List UInt8) (c:UInt32) (h:shortB s=true):CallOk Tryz.prog 75 [.str k,.str n,.u32 c,.str s] (.pure (.tup [.str (tvR k n c s),.int .i64 (trR k n c s)])):=by
 have hs:=Nat.le_of_ble_eq_true h
 unfold tvR trR
 cases hk:may k n
 ·exact callOk_val nt10_ok hmix (ansO_run (nt10_ps _) (w10e realFb k n s c) (by show allT [!(may k n)]=true; rw [hk]; rfl)) rfl rfl
 cases ho:over c s.length
 ·exact turn_callOk k n s c hk ho (by omega)
 ·exact callOk_val nt10_ok hmix (ansO_run (nt10_ps _) (w10l realFb k n s c) (by show allT [over c s.length,!!(may k n)]=true; rw [ho,hk]; rfl)) rfl rfl
theorem call11 (k n s:List UInt8) (c:UInt32) (h:shortB s=true):CallOk Tryz.prog 86 [.str k,.str n,.u32 c,.str s] (.pure (.tup [.str (tvR k n c s),.int .i64 (trR k n c s)])):=by
 have hs:=Nat.le_of_ble_eq_true h
 unfold tvR trR
 cases hk:may k n
 ·exact callOk_val nb_ok hmix (ansO_run (nb_ps _) (w11e realFb k n s c) (by show allT [!(may k n)]=true; rw [hk]; rfl)) rfl rfl
 cases ho:over c s.length
 ·exact callOk_val nb_ok hmix (run11 hk ho (by omega)) rfl rfl
 ·exact callOk_val nb_ok hmix (ansO_run (nb_ps _) (w11l realFb k n s c) (by show allT [over c s.length,!!(may k n)]=true; rw [ho,hk]; rfl)) rfl rfl
end Go.Proofs.YtanaackimepkdaaGreatDoor.Cha
namespace Go.Poly
def vN (b:Nat) (x:Nat→Nat):Nat→Nat
 | 0=>0
 | n+1=>vN b x n+x n * b ^ n
def chN (b:Nat) (x:Nat→Nat):Nat→Nat
 | 0=>x 0
 | j+1=>x (j+1)+chN b x j / b
theorem vN_congr {b:Nat}{x y:Nat→Nat}:∀ {n:Nat},(∀ i,i < n→x i=y i)→vN b x n=vN b y n
 | 0,_=>rfl
 | n+1,h=>by
  show vN b x n+_=vN b y n+_
  rw [vN_congr (n:=n) fun i hi=>h i (by omega),h n (by omega)]
theorem carry_val (b:Nat) (x:Nat→Nat):∀ n,vN b x (n+1)=vN b (fun i=>chN b x i % b) (n+1)+chN b x n / b * b ^ (n+1)
 | 0=>by
  show 0+x 0 * b ^ 0=0+x 0 % b * b ^ 0+x 0 / b * b ^ 1
  have:=Nat.mod_add_div (x 0) b
  rw [Nat.pow_zero,Nat.pow_one,Nat.mul_comm (x 0 / b) b]
  omega
 | n+1=>by
  show vN b x (n+1)+x (n+1) * b ^ (n+1)=(vN b (fun i=>chN b x i % b) (n+1)+chN b x (n+1) % b * b ^ (n+1))+chN b x (n+1) / b * b ^ (n+2)
  rw [carry_val b x n]
  have e:chN b x (n+1)=x (n+1)+chN b x n / b:=rfl
  have h:=Nat.mod_add_div (chN b x (n+1)) b
  have e2:b ^ (n+2)=b * b ^ (n+1):=by rw [Nat.pow_succ,Nat.mul_comm]
  have h2:chN b x (n+1) * b ^ (n+1)=chN b x (n+1) % b * b ^ (n+1)+chN b x (n+1) / b * (b * b ^ (n+1)):=by
   conv=>lhs; rw [← h]
   rw [Nat.add_mul,Nat.mul_assoc,Nat.mul_left_comm]
  have h3:chN b x (n+1) * b ^ (n+1)=x (n+1) * b ^ (n+1)+chN b x n / b * b ^ (n+1):=by rw [e,Nat.add_mul]
  rw [e2]
  omega
theorem vN_lt {b:Nat}(hb:0 < b){x:Nat→Nat}:∀ {n:Nat},(∀ i,i < n→x i < b)→vN b x n < b ^ n
 | 0,_=>by simp [vN]
 | n+1,h=>by
  have h1:=vN_lt hb (n:=n) fun i hi=>h i (by omega)
  have h2:x n * b ^ n≤(b - 1) * b ^ n:=Nat.mul_le_mul_right _ (by have:=h n (by omega); omega)
  show vN b x n+x n * b ^ n < b ^ (n+1)
  have h3:b ^ (n+1)=(b - 1) * b ^ n+b ^ n:=by
   have:(b - 1) * b ^ n+b ^ n=(b - 1+1) * b ^ n:=by rw [Nat.add_mul,Nat.one_mul]
   rw [this,Nat.sub_add_cancel hb,Nat.pow_succ,Nat.mul_comm]
  omega
theorem vN_digit {b:Nat}(hb:0 < b){x:Nat→Nat}{n:Nat}(h:∀ i,i < n→x i < b){i:Nat}(hi:i < n):vN b x n / b ^ i % b=x i:=by
 induction n with
 | zero=>omega
 | succ n ih =>
  show (vN b x n+x n * b ^ n) / b ^ i % b=x i
  by_cases e:i=n
  ·subst e
   have h1:=vN_lt hb (n:=i) (x:=x) fun j hj=>h j (by omega)
   rw [Nat.add_mul_div_right _ _ (Nat.pow_pos hb),Nat.div_eq_of_lt h1,Nat.zero_add,Nat.mod_eq_of_lt (h i (by omega))]
  ·have e2:x n * b ^ n=(x n * b ^ (n - i - 1) * b) * b ^ i:=by
    have:b ^ n=b ^ (n - i - 1) * b * b ^ i:=by
     rw [← Nat.pow_succ,← Nat.pow_add]
     congr 1
     omega
    rw [this]
    simp only [Nat.mul_assoc]
   rw [e2,Nat.add_mul_div_right _ _ (Nat.pow_pos hb),Nat.add_mul_mod_self_right]
   exact ih (fun j hj=>h j (by omega)) (by omega)
theorem vN_high {b:Nat}(hb:0 < b){x:Nat→Nat}{n k:Nat}(h:vN b x n < b ^ k){i:Nat}(hk:k≤i) (hi:i < n):x i=0:=by
 induction n with
 | zero=>omega
 | succ n ih =>
  have e:vN b x (n+1)=vN b x n+x n * b ^ n:=rfl
  by_cases hin:i=n
  ·subst hin
   have h1:b ^ k≤b ^ i:=Nat.pow_le_pow_right hb hk
   by_cases hz:x i=0
   ·exact hz
   ·have:1 * b ^ i≤x i * b ^ i:=Nat.mul_le_mul_right _ (by omega)
    omega
  ·exact ih (by omega) (by omega)
theorem vN_zero (b:Nat){x:Nat→Nat}:∀ {n:Nat},(∀ i,i < n→x i=0)→vN b x n=0
 | 0,_=>rfl
 | n+1,h=>by
  show vN b x n+x n * b ^ n=0
  rw [vN_zero b (n:=n) fun i hi=>h i (by omega),h n (by omega),Nat.zero_mul]
theorem vN_add (b:Nat) (x y:Nat→Nat):∀ n,vN b (fun i=>x i+y i) n=vN b x n+vN b y n
 | 0=>rfl
 | n+1=>by
  show vN b (fun i=>x i+y i) n+(x n+y n) * b ^ n=(vN b x n+x n * b ^ n)+(vN b y n+y n * b ^ n)
  rw [vN_add b x y n,Nat.add_mul]
  omega
theorem vN_mul (b c:Nat) (x:Nat→Nat):∀ n,vN b (fun i=>c * x i) n=c * vN b x n
 | 0=>rfl
 | n+1=>by
  show vN b (fun i=>c * x i) n+c * x n * b ^ n=c * (vN b x n+x n * b ^ n)
  rw [vN_mul b c x n,Nat.mul_add,Nat.mul_assoc]
theorem vN_upd (b:Nat) (x:Nat→Nat) (k v:Nat):∀ n,k < n→vN b (fun i=>if i=k then x k+v else x i) n=vN b x n+v * b ^ k
 | 0,h=>by omega
 | n+1,h=>by
  show vN b (fun i=>if i=k then x k+v else x i) n+(if n=k then x k+v else x n) * b ^ n=(vN b x n+x n * b ^ n)+v * b ^ k
  by_cases e:n=k
  ·subst e
   rw [if_pos rfl,Nat.add_mul,vN_congr (y:=x) fun i hi=>by rw [if_neg (by omega)]]
   omega
  ·rw [if_neg e,vN_upd b x k v n (by omega)]
   omega
theorem ch_bound {b:Nat}(hb:2≤b){x:Nat→Nat}{M:Nat}:∀ {j:Nat},(∀ i,i≤j→x i≤M)→chN b x j≤2 * M
 | 0,h=>by have:=h 0 (by omega); show x 0≤2 * M; omega
 | j+1,h=>by
  have h1:=ch_bound hb (j:=j) fun i hi=>h i (by omega)
  have h2:chN b x j / b≤M:=by
   rw [Nat.div_le_iff_le_mul_add_pred (by omega)]
   have:2 * M≤b * M:=Nat.mul_le_mul_right _ hb
   omega
  have:=h (j+1) (by omega)
  show x (j+1)+chN b x j / b≤2 * M
  omega
def rowN (y:Nat→Nat) (c k w:Nat) (m:Nat):Nat:=if k≤m∧m < k+w then c * y (m - k) else 0
theorem row_val (b:Nat) (y:Nat→Nat) (c k w:Nat):∀ n,vN b (rowN y c k w) (k+n)=c * b ^ k * vN b y (min n w)
 | 0=>by
  rw [Nat.add_zero,Nat.zero_min]
  show _=c * b ^ k * 0
  rw [Nat.mul_zero]
  exact vN_zero b fun i hi=>by unfold rowN; rw [if_neg (by omega)]
 | n+1=>by
  show vN b (rowN y c k w) (k+n)+rowN y c k w (k+n) * b ^ (k+n)=_
  rw [row_val b y c k w n]
  unfold rowN
  by_cases h:n < w
  ·rw [if_pos (by omega),Nat.add_sub_cancel_left,Nat.min_eq_left (by omega),Nat.min_eq_left (by omega)]
   show _=c * b ^ k * (vN b y n+y n * b ^ n)
   rw [Nat.mul_add,Nat.pow_add]
   congr 1
   simp only [Nat.mul_assoc,Nat.mul_left_comm,Nat.mul_comm]
  ·rw [if_neg (by omega),Nat.min_eq_right (by omega),Nat.min_eq_right (by omega),Nat.zero_mul,Nat.add_zero]
def prN (x y:Nat→Nat) (w:Nat) (m:Nat):Nat→Nat
 | 0=>0
 | i+1=>prN x y w m i+rowN y (x i) i w m
theorem pr_val (b:Nat) (x y:Nat→Nat) (w N:Nat):∀ r,r+w≤N→vN b (fun m=>prN x y w m r) N=vN b x r * vN b y w
 | 0,_=>by
  show vN b (fun m=>0) N=0 * _
  rw [Nat.zero_mul]
  exact vN_zero b fun _ _=>rfl
 | r+1,h=>by
  show vN b (fun m=>prN x y w m r+rowN y (x r) r w m) N=(vN b x r+x r * b ^ r) * vN b y w
  rw [vN_add,pr_val b x y w N r (by omega),Nat.add_mul]
  congr 1
  obtain ⟨n,rfl⟩:∃ n,N=r+n:=⟨N - r,by omega⟩
  have:=row_val b y (x r) r w n
  rw [Nat.min_eq_right (by omega)] at this
  exact this
def Pp:Nat:=2 ^ 130 - 5
theorem Pp_eq:2 ^ 130=Pp+5:=by unfold Pp; omega
theorem Pp_pos:0 < Pp:=by unfold Pp; omega
theorem fold_top (a b:Nat):(a+b * 2 ^ 130) % Pp=(a+5 * b) % Pp:=by
 rw [Pp_eq,Nat.mul_add,Nat.mul_comm b 5,show a+(b * Pp+5 * b)=a+5 * b+b * Pp by omega,Nat.add_mul_mod_self_right]
theorem mod_mul {a a' b b':Nat}(h:a % Pp=a' % Pp) (h':b % Pp=b' % Pp):a * b % Pp=a' * b' % Pp:=by rw [Nat.mul_mod,h,h',← Nat.mul_mod]
theorem mod_add {a a' b b':Nat}(h:a % Pp=a' % Pp) (h':b % Pp=b' % Pp):(a+b) % Pp=(a' + b') % Pp:=by rw [Nat.add_mod,h,h',← Nat.add_mod]
end Go.Poly
namespace Go.Poly
abbrev B26:Nat:=67108864
def pass5 (X:Nat→Nat) (j:Nat):Nat:=if j=0 then chN B26 X 0 % B26+5 * (chN B26 X 4 / B26) else chN B26 X j % B26
theorem pass5_val (X:Nat→Nat):vN B26 (pass5 X) 5=vN B26 (fun i=>chN B26 X i % B26) 5+5 * (chN B26 X 4 / B26):=by
 have h:=vN_upd B26 (fun i=>chN B26 X i % B26) 0 (5 * (chN B26 X 4 / B26)) 5 (by omega)
 rw [Nat.pow_zero,Nat.mul_one] at h
 rw [← h]
 exact vN_congr fun i hi=>by
  show (if i=0 then _ else _)=if i=0 then _ else _
  by_cases e:i=0
  ·subst e; rfl
  ·rw [if_neg e]
theorem pass5_mod (X:Nat→Nat):vN B26 (pass5 X) 5 % Pp=vN B26 X 5 % Pp:=by
 rw [pass5_val,carry_val B26 X 4,show B26 ^ (4+1)=2 ^ 130 by rfl,fold_top]
def N5 (X:Nat→Nat):Prop:=X 0 < 67108869∧∀ i,0 < i→i < 5→X i < B26
def T5 (X:Nat→Nat):Prop:=∀ i,i < 5→X i < B26
theorem ch5 (X:Nat→Nat):chN B26 X 0=X 0∧chN B26 X 1=X 1+chN B26 X 0 / B26∧chN B26 X 2=X 2+chN B26 X 1 / B26∧chN B26 X 3=X 3+chN B26 X 2 / B26∧chN B26 X 4=X 4+chN B26 X 3 / B26:=⟨rfl,rfl,rfl,rfl,rfl⟩
theorem i5 {P:Nat→Prop}(h0:P 0) (h1:P 1) (h2:P 2) (h3:P 3) (h4:P 4):∀ i,i < 5→P i:=fun i hi=>by
 match i,hi with
 | 0,_=>exact h0
 | 1,_=>exact h1
 | 2,_=>exact h2
 | 3,_=>exact h3
 | 4,_=>exact h4
theorem p5 (X:Nat→Nat):pass5 X 0=chN B26 X 0 % B26+5 * (chN B26 X 4 / B26)∧pass5 X 1=chN B26 X 1 % B26∧pass5 X 2=chN B26 X 2 % B26∧pass5 X 3=chN B26 X 3 % B26∧pass5 X 4=chN B26 X 4 % B26:=⟨rfl,rfl,rfl,rfl,rfl⟩
theorem pass5_1 {X:Nat→Nat}(h:∀ i,i < 5→X i < 4611686018427387904):pass5 X 0 < 1099511627776∧∀ i,0 < i→i < 5→pass5 X i < B26:=by
 obtain ⟨c0,c1,c2,c3,c4⟩:=ch5 X
 obtain ⟨q0,q1,q2,q3,q4⟩:=p5 X
 have h0:=h 0 (by omega)
 have h1:=h 1 (by omega)
 have h2:=h 2 (by omega)
 have h3:=h 3 (by omega)
 have h4:=h 4 (by omega)
 unfold B26 at *
 refine ⟨by omega,fun i hi h5 => ?_⟩
 have:i=1 ∨ i=2 ∨ i=3 ∨ i=4:=by omega
 rcases this with rfl | rfl | rfl | rfl <;> omega
theorem pass5_2 {X:Nat→Nat}(h0:X 0 < 1099511627776) (h:∀ i,0 < i→i < 5→X i < B26):N5 (pass5 X):=by
 obtain ⟨c0,c1,c2,c3,c4⟩:=ch5 X
 obtain ⟨q0,q1,q2,q3,q4⟩:=p5 X
 have h1:=h 1 (by omega) (by omega)
 have h2:=h 2 (by omega) (by omega)
 have h3:=h 3 (by omega) (by omega)
 have h4:=h 4 (by omega) (by omega)
 unfold N5
 unfold B26 at *
 refine ⟨by omega,fun i hi h5 => ?_⟩
 have:i=1 ∨ i=2 ∨ i=3 ∨ i=4:=by omega
 rcases this with rfl | rfl | rfl | rfl <;> omega
theorem pass5_3 {X:Nat→Nat}(h:N5 X):T5 (pass5 X):=by
 obtain ⟨h0,h⟩:=h
 obtain ⟨c0,c1,c2,c3,c4⟩:=ch5 X
 obtain ⟨q0,q1,q2,q3,q4⟩:=p5 X
 have h1:=h 1 (by omega) (by omega)
 have h2:=h 2 (by omega) (by omega)
 have h3:=h 3 (by omega) (by omega)
 have h4:=h 4 (by omega) (by omega)
 unfold T5
 unfold B26 at *
 exact i5 (by omega) (by omega) (by omega) (by omega) (by omega)
theorem N5_of {X:Nat→Nat}(h:T5 X):N5 X:=⟨by have:=h 0 (by omega); unfold B26 at this; omega,fun i _ hi=>h i hi⟩
theorem N5_lt {X:Nat→Nat}(h:N5 X):∀ i,i < 5→X i < 67108869:=fun i hi=>by
 by_cases e:i=0
 ·subst e; exact h.1
 ·have:=h.2 i (by omega) hi
  unfold B26 at this
  omega
def carN5 (X:Nat→Nat):Nat→Nat:=pass5 (pass5 X)
theorem carN5_ok {X:Nat→Nat}(h:∀ i,i < 5→X i < 4611686018427387904):N5 (carN5 X):=by
 obtain ⟨a,b⟩:=pass5_1 h
 exact pass5_2 a b
theorem carN5_tight {X:Nat→Nat}(h:N5 X):T5 (carN5 X):=pass5_3 (N5_of (pass5_3 h))
theorem carN5_mod (X:Nat→Nat):vN B26 (carN5 X) 5 % Pp=vN B26 X 5 % Pp:=by
 unfold carN5
 rw [pass5_mod,pass5_mod]
def zN (x y:Nat→Nat) (j:Nat):Nat→Nat
 | 0=>0
 | i+1=>zN x y j i+x i * (if i≤j then y (j - i) else y (j+5 - i) * 5)
theorem zN_poly (b p x0 x1 x2 x3 x4 y0 y1 y2 y3 y4:Int) (hb:b ^ 5=p+5) :
  (x0 * y0+x1 * (y4 * 5)+x2 * (y3 * 5)+x3 * (y2 * 5)+x4 * (y1 * 5))+(x0 * y1+x1 * y0+x2 * (y4 * 5)+x3 * (y3 * 5)+x4 * (y2 * 5)) * b+(x0 * y2+x1 * y1+x2 * y0+x3 * (y4 * 5)+x4 * (y3 * 5)) * b ^ 2+(x0 * y3+x1 * y2+x2 * y1+x3 * y0+x4 * (y4 * 5)) * b ^ 3+(x0 * y4+x1 * y3+x2 * y2+x3 * y1+x4 * y0) * b ^ 4
   + p * ((x1 * y4+x2 * y3+x3 * y2+x4 * y1)+(x2 * y4+x3 * y3+x4 * y2) * b+(x3 * y4+x4 * y3) * b ^ 2+x4 * y4 * b ^ 3)
  = (x0+x1 * b+x2 * b ^ 2+x3 * b ^ 3+x4 * b ^ 4) * (y0+y1 * b+y2 * b ^ 2+y3 * b ^ 3+y4 * b ^ 4):=by
 have hp:p=b ^ 5 - 5:=by omega
 subst hp
 grind -lia -linarith
theorem zN_mod (x y:Nat→Nat):vN B26 (fun j=>zN x y j 5) 5 % Pp=vN B26 x 5 * vN B26 y 5 % Pp:=by
 have h:=zN_poly 67108864 (Pp:Int) (x 0) (x 1) (x 2) (x 3) (x 4) (y 0) (y 1) (y 2) (y 3) (y 4) (by unfold Pp; decide)
 have e1:vN B26 (fun j=>zN x y j 5) 5=0+(x 0 * y 0+x 1 * (y 4 * 5)+x 2 * (y 3 * 5)+x 3 * (y 2 * 5)+x 4 * (y 1 * 5)) * 67108864 ^ 0+(x 0 * y 1+x 1 * y 0+x 2 * (y 4 * 5)+x 3 * (y 3 * 5)+x 4 * (y 2 * 5)) * 67108864 ^ 1+(x 0 * y 2+x 1 * y 1+x 2 * y 0+x 3 * (y 4 * 5)+x 4 * (y 3 * 5)) * 67108864 ^ 2+(x 0 * y 3+x 1 * y 2+x 2 * y 1+x 3 * y 0+x 4 * (y 4 * 5)) * 67108864 ^ 3+(x 0 * y 4+x 1 * y 3+x 2 * y 2+x 3 * y 1+x 4 * y 0) * 67108864 ^ 4:=by
  simp [vN,zN,B26]
 have e2:∀ z:Nat→Nat,vN B26 z 5=0+z 0 * 67108864 ^ 0+z 1 * 67108864 ^ 1+z 2 * 67108864 ^ 2+z 3 * 67108864 ^ 3+z 4 * 67108864 ^ 4:=fun z=>rfl
 obtain ⟨q,hq⟩:∃ q,q=(x 1 * y 4+x 2 * y 3+x 3 * y 2+x 4 * y 1)+(x 2 * y 4+x 3 * y 3+x 4 * y 2) * 67108864+(x 3 * y 4+x 4 * y 3) * 67108864 ^ 2+x 4 * y 4 * 67108864 ^ 3:=⟨_,rfl⟩
 have h3:vN B26 (fun j=>zN x y j 5) 5+Pp * q=vN B26 x 5 * vN B26 y 5:=by
  rw [e1,e2 x,e2 y,hq]
  apply Int.ofNat_inj.1
  simp only [Int.natCast_add,Int.natCast_mul,Int.natCast_pow,Nat.pow_zero,Nat.pow_one,Nat.mul_one,Nat.zero_add,Int.pow_zero,Int.pow_one,Int.mul_one,Int.zero_add] at h ⊢
  exact h
 rw [← h3,Nat.add_mul_mod_self_left]
def topN (X:Nat→Nat):Nat:=chN 256 X 16 % 256 / 4+64 * (chN 256 X 17 % 256)+16384 * (chN 256 X 17 / 256)
def lowN (X:Nat→Nat) (j:Nat):Nat:=if j=16 then chN 256 X 16 % 256 % 4 else if j=17 then 0 else chN 256 X j % 256
def rpassN (X:Nat→Nat) (j:Nat):Nat:=if j=0 then lowN X 0+5 * topN X else lowN X j
theorem low_top (X:Nat→Nat):vN 256 X 18=vN 256 (lowN X) 18+topN X * 2 ^ 130:=by
 have h:=carry_val 256 X 17
 have e1:vN 256 (fun i=>chN 256 X i % 256) (17+1)=vN 256 (fun i=>chN 256 X i % 256) 16+chN 256 X 16 % 256 * 256 ^ 16+chN 256 X 17 % 256 * 256 ^ 17:=rfl
 have e2:vN 256 (lowN X) 18=vN 256 (lowN X) 16+chN 256 X 16 % 256 % 4 * 256 ^ 16+0 * 256 ^ 17:=rfl
 have e3:vN 256 (lowN X) 16=vN 256 (fun i=>chN 256 X i % 256) 16:=vN_congr fun i hi=>by unfold lowN; rw [if_neg (by omega),if_neg (by omega)]
 rw [h,e1,e2,e3]
 unfold topN
 generalize vN 256 (fun i=>chN 256 X i % 256) 16=v
 generalize chN 256 X 16 % 256=u
 generalize chN 256 X 17=w
 omega
theorem low_lt (X:Nat→Nat):vN 256 (lowN X) 18 < 2 ^ 130:=by
 have e2:vN 256 (lowN X) 18=vN 256 (lowN X) 16+chN 256 X 16 % 256 % 4 * 256 ^ 16+0 * 256 ^ 17:=rfl
 have h:=vN_lt (b:=256) (by omega) (x:=lowN X) (n:=16) fun i hi=>by unfold lowN; rw [if_neg (by omega),if_neg (by omega)]; omega
 rw [e2]
 generalize chN 256 X 16 % 256=u
 omega
theorem rpass_val (X:Nat→Nat):vN 256 (rpassN X) 18=vN 256 X 18 % 2 ^ 130+5 * (vN 256 X 18 / 2 ^ 130):=by
 have h:=vN_upd 256 (lowN X) 0 (5 * topN X) 18 (by omega)
 rw [Nat.pow_zero,Nat.mul_one] at h
 have h1:=low_top X
 have h2:=low_lt X
 have h3:vN 256 X 18 % 2 ^ 130=vN 256 (lowN X) 18:=by rw [h1,Nat.add_mul_mod_self_right,Nat.mod_eq_of_lt h2]
 have h4:vN 256 X 18 / 2 ^ 130=topN X:=by rw [h1,Nat.add_mul_div_right _ _ (by decide),Nat.div_eq_of_lt h2,Nat.zero_add]
 rw [h3,h4,← h]
 rfl
theorem mod_top (v:Nat):(v % 2 ^ 130+5 * (v / 2 ^ 130)) % Pp=v % Pp:=by
 rw [← fold_top]
 have:=Nat.mod_add_div v (2 ^ 130)
 rw [Nat.mul_comm (v / 2 ^ 130),this]
theorem vN_le {b c:Nat}(hb:0 < b){x:Nat→Nat}:∀ {n:Nat},(∀ i,i < n→x i≤c * (b - 1))→vN b x n+c≤c * b ^ n
 | 0,_=>by simp [vN]
 | n+1,h=>by
  have h1:=vN_le hb (n:=n) fun i hi=>h i (by omega)
  have h2:x n * b ^ n≤c * (b - 1) * b ^ n:=Nat.mul_le_mul_right _ (h n (by omega))
  show vN b x n+x n * b ^ n+c≤c * b ^ (n+1)
  have h3:c * b ^ (n+1)=c * (b - 1) * b ^ n+c * b ^ n:=by
   rw [← Nat.add_mul,← Nat.mul_succ,Nat.succ_eq_add_one,Nat.sub_add_cancel hb,Nat.pow_succ,Nat.mul_comm (b ^ n) b,Nat.mul_assoc]
  omega
def C18 (X:Nat→Nat):Prop:=(∀ i,i < 18→X i < 256)∧vN 256 X 18 < 2 ^ 130
def carN18 (X:Nat→Nat) (j:Nat):Nat:=chN 256 (rpassN (rpassN (rpassN X))) j % 256
theorem top_le (X:Nat→Nat):topN X=vN 256 X 18 / 2 ^ 130:=by
 have h1:=low_top X
 have h2:=low_lt X
 rw [h1,Nat.add_mul_div_right _ _ (by decide),Nat.div_eq_of_lt h2,Nat.zero_add]
theorem rpass_le {X:Nat→Nat}{c:Nat}(h:vN 256 X 18 / 2 ^ 130≤c):∀ i,i < 18→rpassN X i≤255+5 * c:=fun i hi=>by
 have ht:=top_le X
 unfold rpassN lowN
 by_cases h0:i=0
 ·rw [if_pos h0,if_neg (by omega),if_neg (by omega)]
  omega
 ·rw [if_neg h0]
  by_cases h1:i=16
  ·rw [if_pos h1]; omega
  ·rw [if_neg h1]
   by_cases h2:i=17
   ·rw [if_pos h2]; omega
   ·rw [if_neg h2]; omega
theorem val_4096 {X:Nat→Nat}(h:∀ i,i < 18→X i≤4096):vN 256 X 18 / 2 ^ 130≤524288:=by
 have h1:=vN_le (b:=256) (c:=17) (by omega) (x:=X) (n:=18) fun i hi=>by have:=h i hi; omega
 omega
theorem car18_vals {X:Nat→Nat}(h:vN 256 X 18 / 2 ^ 130≤524288):vN 256 (rpassN X) 18 / 2 ^ 130≤1∧vN 256 (rpassN (rpassN X)) 18 < 2 ^ 130∧vN 256 (rpassN (rpassN (rpassN X))) 18=vN 256 (rpassN (rpassN X)) 18:=by
 have h1:=rpass_val X
 have h2:=rpass_val (rpassN X)
 have h3:=rpass_val (rpassN (rpassN X))
 generalize vN 256 X 18=a at *
 generalize vN 256 (rpassN X) 18=b at *
 generalize vN 256 (rpassN (rpassN X)) 18=c at *
 generalize vN 256 (rpassN (rpassN (rpassN X))) 18=d at *
 omega
theorem car18_ok {X:Nat→Nat}(h:∀ i,i < 18→X i≤4096):C18 (carN18 X)∧vN 256 (carN18 X) 18 % Pp=vN 256 X 18 % Pp:=by
 obtain ⟨h1,h2,h3⟩:=car18_vals (val_4096 h)
 have e:=carry_val 256 (rpassN (rpassN (rpassN X))) 17
 have e2:vN 256 (carN18 X) 18=vN 256 (rpassN (rpassN X)) 18:=by
  show vN 256 (fun i=>chN 256 (rpassN (rpassN (rpassN X))) i % 256) (17+1)=_
  rw [h3] at e
  have hz:chN 256 (rpassN (rpassN (rpassN X))) 17 / 256=0:=by
   generalize chN 256 (rpassN (rpassN (rpassN X))) 17 / 256=k at *
   generalize vN 256 (fun i=>chN 256 (rpassN (rpassN (rpassN X))) i % 256) (17+1)=m at *
   have e':vN 256 (rpassN (rpassN X)) 18=m+k * 256 ^ 18:=e
   omega
  rw [hz,Nat.zero_mul,Nat.add_zero] at e
  exact e.symm
 refine ⟨⟨fun i _=>Nat.mod_lt _ (by omega),by rw [e2]; exact h2⟩,?_⟩
 rw [e2,rpass_val (rpassN X),mod_top,rpass_val X,mod_top]
def tN18 (a b:Nat→Nat) (m:Nat):Nat:=prN a b 18 m 18
def tcN (a b:Nat→Nat) (j:Nat):Nat:=chN 256 (tN18 a b) j % 256
def loN (a b:Nat→Nat) (j:Nat):Nat:=if 17≤j then 0 else if j=16 then tcN a b 16 % 4 else tcN a b j
def hiN (a b:Nat→Nat) (j:Nat):Nat:=if 17≤j then 0 else tcN a b (16+j) / 4+tcN a b (17+j) % 4 * 64
def prR18 (a b:Nat→Nat) (j:Nat):Nat:=loN a b j+5 * hiN a b j
theorem split_hi0 (p1 p2 q1 u w:Nat):(p1+4 * p2) * (u * w)+q1 * (256 * u * w)=p1 * (u * w)+4 * u * ((p2+q1 * 64) * w):=by grind -lia -linarith
theorem split_hi1 (p q u w:Nat):p * (u * w)+q % 4 * (256 * u * w)=p % 4 * (u * w)+4 * u * ((p / 4+q % 4 * 64) * w):=by
 have h:=split_hi0 (p % 4) (p / 4) (q % 4) u w
 rw [Nat.mod_add_div] at h
 exact h
theorem split_hi (t:Nat→Nat) (u v:Nat) (hu:u=256 ^ 16) (hv:v=4 * u) (n:Nat):vN 256 t (16+n)+t (16+n) % 4 * (u * 256 ^ n)=vN 256 t 16+t 16 % 4 * u+v * vN 256 (fun j=>t (16+j) / 4+t (17+j) % 4 * 64) n:=by
 induction n with
 | zero =>
  show vN 256 t 16+t 16 % 4 * (u * 1)=vN 256 t 16+t 16 % 4 * u+v * 0
  rw [Nat.mul_one,Nat.mul_zero,Nat.add_zero]
 | succ n h =>
  have e:vN 256 t (16+(n+1))=vN 256 t (16+n)+t (16+n) * (u * 256 ^ n):=by
   show vN 256 t (16+n)+t (16+n) * 256 ^ (16+n)=_
   rw [hu,Nat.pow_add]
  have e2:vN 256 (fun j=>t (16+j) / 4+t (17+j) % 4 * 64) (n+1)=vN 256 (fun j=>t (16+j) / 4+t (17+j) % 4 * 64) n+(t (16+n) / 4+t (17+n) % 4 * 64) * 256 ^ n:=rfl
  have e5:16+(n+1)=17+n:=by omega
  have e6:u * 256 ^ (n+1)=256 * u * 256 ^ n:=by rw [Nat.pow_succ,Nat.mul_comm (256 ^ n) 256,← Nat.mul_assoc,Nat.mul_comm u 256]
  rw [e,e2,e6,show t (16+(n+1))=t (17+n) by rw [e5],Nat.mul_add,← Nat.add_assoc,← h,Nat.add_assoc,Nat.add_assoc,hv]
  rw [split_hi1]
theorem vN_36 (t:Nat→Nat):vN 256 t 36=vN 256 t 33+t 33 * 256 ^ 33+t 34 * 256 ^ 34+t 35 * 256 ^ 35:=rfl
theorem vN_18 (t:Nat→Nat):vN 256 t 18=vN 256 t 16+t 16 * 256 ^ 16+t 17 * 256 ^ 17:=rfl
theorem vN_18b (t:Nat→Nat):vN 256 t 18=vN 256 t 17+t 17 * 256 ^ 17:=rfl
theorem carry_36 (x y:Nat→Nat) (h:∀ i,y i=chN 256 x i % 256):vN 256 x 36=vN 256 y 36+chN 256 x 35 / 256 * 256 ^ 36:=by
 have e:(fun i=>chN 256 x i % 256)=y:=funext fun i=>(h i).symm
 have:=carry_val 256 x 35
 rw [e] at this
 exact this
theorem t36 {t:Nat→Nat}{v w k:Nat}(hl:v < 2 ^ 130 * 2 ^ 130) (hc:v=w+k * 256 ^ 36):w=v:=by omega
theorem t33 {t:Nat→Nat}{v:Nat}(hl:v < 2 ^ 130 * 2 ^ 130) (hv:vN 256 t 36=v):vN 256 t 33=v∧t 33=0:=by
 have hb:v < 256 ^ 33:=by omega
 have hh:=fun i=>vN_high (b:=256) (by omega) (x:=t) (n:=36) (k:=33) (by rw [hv]; exact hb) (i:=i)
 have h33:t 33=0:=hh 33 (by omega) (by omega)
 have h34:t 34=0:=hh 34 (by omega) (by omega)
 have h35:t 35=0:=hh 35 (by omega) (by omega)
 rw [vN_36,h33,h34,h35] at hv
 refine ⟨?_,h33⟩
 rw [← hv]
 generalize vN 256 t 33=x
 generalize 256 ^ 33=p
 generalize 256 ^ 34=q
 generalize 256 ^ 35=r
 omega
theorem times18h {t lo hi pr:Nat→Nat}{v:Nat}(h33:vN 256 t 33=v) (hz:t 33=0) (hlo0:∀ i,i < 16→lo i=t i) (hlo1:lo 16=t 16 % 4) (hlo2:lo 17=0)
  (hhi0:∀ i,i < 17→hi i=t (16+i) / 4+t (17+i) % 4 * 64) (hhi1:hi 17=0) (hpr:∀ i,pr i=lo i+5 * hi i):vN 256 pr 18 % Pp=v % Pp:=by
 have hlo:vN 256 lo 18=vN 256 t 16+t 16 % 4 * 256 ^ 16:=by
  rw [vN_18,hlo1,hlo2,Nat.zero_mul,Nat.add_zero,vN_congr (x:=lo) (y:=t) hlo0]
 have hhi:vN 256 hi 18=vN 256 (fun j=>t (16+j) / 4+t (17+j) % 4 * 64) 17:=by
  rw [vN_18b,hhi1,Nat.zero_mul,Nat.add_zero]
  exact vN_congr hhi0
 have e:vN 256 pr 18=vN 256 lo 18+5 * vN 256 hi 18:=by
  rw [← vN_mul,← vN_add]
  exact vN_congr fun i _=>hpr i
 have hs:v=vN 256 t 16+t 16 % 4 * 256 ^ 16+2 ^ 130 * vN 256 (fun j=>t (16+j) / 4+t (17+j) % 4 * 64) 17:=by
  obtain ⟨n,hn⟩:∃ n,n=17:=⟨_,rfl⟩
  have hs:=split_hi t (256 ^ 16) (2 ^ 130) rfl (by decide) n
  have hn33:16+n=33:=by omega
  rw [hn33,hz,h33,Nat.zero_mod,Nat.zero_mul,Nat.add_zero] at hs
  subst hn
  exact hs
 rw [e,← fold_top,hs,hlo,hhi,Nat.mul_comm (2 ^ 130)]
theorem times18g {x t lo hi pr:Nat→Nat}{v:Nat}(hl:v < 2 ^ 130 * 2 ^ 130) (hx:vN 256 x 36=v) (ht:∀ i,t i=chN 256 x i % 256) (hlo0:∀ i,i < 16→lo i=t i) (hlo1:lo 16=t 16 % 4) (hlo2:lo 17=0)
  (hhi0:∀ i,i < 17→hi i=t (16+i) / 4+t (17+i) % 4 * 64) (hhi1:hi 17=0) (hpr:∀ i,pr i=lo i+5 * hi i):vN 256 pr 18 % Pp=v % Pp:=by
 have hc:=carry_36 x t ht
 rw [hx] at hc
 obtain ⟨h1,h2⟩:=t33 hl (t36 (t:=t) hl hc)
 exact times18h h1 h2 hlo0 hlo1 hlo2 hhi0 hhi1 hpr
theorem tN18_val (a b:Nat→Nat):vN 256 (tN18 a b) 36=vN 256 a 18 * vN 256 b 18:=pr_val 256 a b 18 36 18 (by omega)
theorem times18 {a b:Nat→Nat}(ha:vN 256 a 18 < 2 ^ 130) (hb:vN 256 b 18 < 2 ^ 130):vN 256 (prR18 a b) 18 % Pp=vN 256 a 18 * vN 256 b 18 % Pp:=
 times18g (t:=tcN a b) (lo:=loN a b) (hi:=hiN a b) (Nat.mul_lt_mul'' ha hb) (tN18_val a b) (fun i=>rfl) (fun i hi=>by unfold loN; rw [if_neg (by omega),if_neg (by omega)]) (by unfold loN; rw [if_neg (by omega),if_pos rfl]) (by unfold loN; rw [if_pos (by omega)])
  (fun i hi=>by unfold hiN; rw [if_neg (by omega)]) (by unfold hiN; rw [if_pos (by omega)]) (fun i=>rfl)
theorem prR18_le {a b:Nat→Nat}:∀ i,i < 18→prR18 a b i≤4096:=fun i hi=>by
 have ht:∀ j,tcN a b j < 256:=fun j=>Nat.mod_lt _ (by omega)
 have h1:=ht i
 have h2:=ht 16
 have h3:=ht (16+i)
 unfold prR18 loN hiN
 by_cases h:17≤i
 ·rw [if_pos h,if_pos h]; omega
 ·rw [if_neg h,if_neg h]
  by_cases h':i=16
  ·rw [if_pos h']; omega
  ·rw [if_neg h']; omega
end Go.Poly
namespace Go.Proofs.YtanaackimepkdaaGreatDoor.Pol
open Go Go.Eng
set_option maxRecDepth 1000000
def chS (s:Nat) (x:Nat→UInt64):Nat→UInt64
 | 0=>x 0+0
 | j+1=>x (j+1)+shr_u64 (chS s x j) s
def cpass (x:Nat→UInt64) (j:Nat):UInt64:=cond (Nat.beq j 0) ((chS 26 x 0 &&& 67108863)+5 * shr_u64 (chS 26 x 4) 26) (chS 26 x j &&& 67108863)
def carF (x:Nat→UInt64):Nat→UInt64:=cpass (cpass x)
theorem run12 (x:Nat→UInt64):(run1 Tryz.prog noCS (mask 165) 100 165 [.agg (cellsU 5 x)] [] Tryz.prog.globals.size).map (·.1)=some (.agg (cellsU 5 (carF x))):=by kernel_rfl
def rpass (a:Nat→UInt64) (j:Nat):UInt64:=match j with
 | 0=>(chS 8 a 0 &&& 255)+5 * ((shr_u64 (chS 8 a 16 &&& 255) 2 ||| shl_u64 (chS 8 a 17 &&& 255) 6) ||| shl_u64 (shr_u64 (chS 8 a 17) 8) 14)
 | 16=>(chS 8 a 16 &&& 255) &&& 3
 | 17=>0
 | j=>chS 8 a j &&& 255
def carR (a:Nat→UInt64) (j:Nat):UInt64:=chS 8 (rpass (rpass (rpass a))) j &&& 255
theorem run16 (x:Nat→UInt64):(run1 Tryz.prog noCS (mask 188) 100 188 [.agg (cellsU 18 x)] [] Tryz.prog.globals.size).map (·.1)=some (.agg (cellsU 18 (carR x))):=by kernel_rfl
structure Fp where
 car:(Nat→UInt64)→Nat→UInt64
 carR:(Nat→UInt64)→Nat→UInt64
def l12 (τ:Fp):List AVal→Option EffA
 | [u]=>match aggU 5 u with
  | some a=>some (.pure (.agg (cellsU 5 (τ.car a))))
  | _=>none
 | _=>none
def l16 (τ:Fp):List AVal→Option EffA
 | [u]=>match aggU 18 u with
  | some a=>some (.pure (.agg (cellsU 18 (τ.carR a))))
  | _=>none
 | _=>none
def nc (τ:Fp):CS:=csAlt (csOne 165 (l12 τ)) (csOne 188 (l16 τ))
def zS (x y:Nat→UInt64) (j:Nat):Nat→UInt64
 | 0=>0
 | i+1=>zS x y j i+x i * cond (Nat.ble i j) (y (j - i)) (y (j+5 - i) * 5)
theorem run13 (τ:Fp) (x y:Nat→UInt64):(run1 Tryz.prog (nc τ) (mask 166) 100 166 [.agg (cellsU 5 x),.agg (cellsU 5 y)] [] Tryz.prog.globals.size).map (·.1)=some (.agg (cellsU 5 (τ.car (gU (cellsU 5 fun j=>zS x y j 5))))):=by kernel_rfl
end Go.Proofs.YtanaackimepkdaaGreatDoor.Pol
namespace Go.Proofs.YtanaackimepkdaaGreatDoor.Pol
open Go Go.Eng
set_option maxRecDepth 1000000
def plus5 (x:Nat→UInt64) (j:Nat):UInt64:=cond (Nat.beq j 0) (x 0+5) (x j)
def red5 (x:Nat→UInt64) (j:Nat):UInt64:=chS 26 (plus5 x) j &&& 67108863
def redC (x:Nat→UInt64):UInt64:=shr_u64 (chS 26 (plus5 x) 4) 26
def car2 (τ:Fp) (x:Nat→UInt64):Nat→UInt64:=gU (cellsU 5 (τ.car (gU (cellsU 5 (τ.car (gU (cellsU 5 x)))))))
theorem run14t (τ:Fp) (x:Nat→UInt64):ansO (run1O Tryz.prog noPS (nc τ) [35] [true] [] (mask 167) 100 167 [.agg (cellsU 5 x)] [] Tryz.prog.globals.size)=some (.agg (cellsU 5 (red5 (car2 τ x))),[decide (0 < redC (car2 τ x))]):=by kernel_rfl
theorem run14f (τ:Fp) (x:Nat→UInt64):ansO (run1O Tryz.prog noPS (nc τ) [35] [false] [] (mask 167) 100 167 [.agg (cellsU 5 x)] [] Tryz.prog.globals.size)=some (.agg (cellsU 5 (car2 τ x)),[!(decide (0 < redC (car2 τ x)))]):=by kernel_rfl
def whG (τ:Fp) (x:Nat→UInt64):Nat→UInt64:=gU (cellsU 18 (τ.carR (gU (cellsU 18 x))))
def wh5 (x:Nat→UInt64) (j:Nat):UInt64:=chS 8 (plus5 x) j &&& 255
def wh3 (x:Nat→UInt64) (j:Nat):UInt64:=cond (Nat.beq j 16) (wh5 x 16 &&& 3) (wh5 x j)
theorem run17t (τ:Fp) (x:Nat→UInt64):ansO (run1O Tryz.prog noPS (nc τ) [31] [true] [] (mask 189) 100 189 [.agg (cellsU 18 x)] [] Tryz.prog.globals.size)=some (.agg (cellsU 18 (wh3 (whG τ x))),[decide (4≤wh5 (whG τ x) 16)]):=by kernel_rfl
theorem run17f (τ:Fp) (x:Nat→UInt64):ansO (run1O Tryz.prog noPS (nc τ) [31] [false] [] (mask 189) 100 189 [.agg (cellsU 18 x)] [] Tryz.prog.globals.size)=some (.agg (cellsU 18 (whG τ x)),[!(decide (4≤wh5 (whG τ x) 16))]):=by kernel_rfl
end Go.Proofs.YtanaackimepkdaaGreatDoor.Pol
namespace Go.Proofs.YtanaackimepkdaaGreatDoor.Pol
open Go Go.Eng
set_option maxRecDepth 1000000
def tR (a b:Nat→UInt64) (m:Nat):Nat→UInt64
 | 0=>0
 | i+1=>cond (Nat.ble i m && Nat.ble m (i+17)) (tR a b m i+a i * b (m - i)) (tR a b m i)
def tC (a b:Nat→UInt64) (j:Nat):UInt64:=chS 8 (fun m=>tR a b m 18) j &&& 255
def loR (a b:Nat→UInt64) (j:Nat):UInt64:=cond (Nat.ble 17 j) 0 (cond (Nat.beq j 16) (tC a b 16 &&& 3) (tC a b j))
def hiR (a b:Nat→UInt64) (j:Nat):UInt64:=cond (Nat.ble 17 j) 0 (shr_u64 (tC a b (16+j)) 2 ||| (shl_u64 (tC a b (17+j)) 6 &&& 255))
def prR (a b:Nat→UInt64) (j:Nat):UInt64:=loR a b j+5 * hiR a b j
theorem run15 (τ:Fp) (a b:Nat→UInt64):(run1 Tryz.prog (nc τ) (mask 187) 100 187 [.agg (cellsU 18 a),.agg (cellsU 18 b)] [] Tryz.prog.globals.size).map (·.1)=some (.agg (cellsU 18 (τ.carR (gU (cellsU 18 (prR a b)))))):=by kernel_rfl
end Go.Proofs.YtanaackimepkdaaGreatDoor.Pol
