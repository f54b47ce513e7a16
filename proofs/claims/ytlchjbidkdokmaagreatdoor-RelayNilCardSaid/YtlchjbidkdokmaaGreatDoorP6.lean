/- Texts Eng28, Eng20, Num1, Rn0, Eng30, Eng31, Eng38, Eng39, Eng40, Eng41, Eng44, Eng45, Eng48, Eng60, Eng61, Eng49, Eng62, Eng63, Rb0, Bl1, Rb1, Eng65, Eng50, Eng51, Eng52, Eng53, Eng66, Rb2, Rb3, Rb4, Rb5, Eng67, Rb6: what they show that this claim uses. -/
import Derived.Test.YtlchjbidkdokmaaGreatDoorP5
import Derived.Test.YtlchjbidkdokmaaGreatDoorP4
import Derived.WalkKit
import Derived.ProofKit
import Derived.OpenShut
import Derived.ShutString
import Derived.ChangeSame
import Derived.Test.YtlchjbidkdokmaaGreatDoorChecked
set_option maxRecDepth 100000
set_option maxHeartbeats 1000000
set_option linter.unusedVariables false
set_option linter.unusedSimpArgs false
namespace Go.Eng
open Go
def viewN0 (P:Program) (cs:CS) (nn F:Nat) (f:FuncId) (ns:List Nat) (cargs:List AVal):EffA:=
 .eff fun base η=>match objsA η ns P.globals.size with
  | none=>none
  | some Ho=>match run1 P cs nn F f cargs (Ho) (P.globals.size+ns.length) with
   | none=>none
   | some (v,H',_)=>match backA η H' ns P.globals.size with
    | none=>none
    | some us=>match newN v with
     | none=>none
     | some k=>match aget H' k with
      | some (.cells false c)=>match renV k 0 v with
       | none=>none
       | some v1=>match renV 0 base v1 with
        | none=>none
        | some v2=>cond (ltV 1 v1 && ltL 0 c && nodupB ns && Nat.ble (P.globals.size+ns.length) k) (some (v2,us++[(base,some (.cells false c))])) none
      | _=>none
theorem callOk_viewN0 {P:Program}{cs:CS}(hcs:CSOk P cs) (hm:P.follows .mixedOrders=true){nn F:Nat}{f:FuncId}{args cargs:List AVal}{ns:List Nat}(hcan:canL P.globals.size [] args=some (cargs,ns)):CallOk P f args (viewN0 P cs nn F f ns cargs):=by
 intro σ args' H w base v0 H0 hl hg hH happ hfree
 simp only [viewN0,EffA.app] at happ
 cases hobj:objsA (aget H) ns P.globals.size with
 | none=>rw [hobj] at happ; cases happ
 | some Ho =>
 rw [hobj] at happ
 simp only at happ
 cases hrun:run1 P cs nn F f cargs (Ho) (P.globals.size+ns.length) with
 | none=>rw [hrun] at happ; cases happ
 | some r =>
 obtain ⟨v,H',fr'⟩:=r
 rw [hrun] at happ
 simp only at happ
 cases hback:backA (aget H) H' ns P.globals.size with
 | none=>rw [hback] at happ; cases happ
 | some us =>
 rw [hback] at happ
 simp only at happ
 cases hnew:newN v with
 | none=>rw [hnew] at happ; cases happ
 | some k =>
 rw [hnew] at happ
 simp only at happ
 cases hblk:aget H' k with
 | none=>rw [hblk] at happ; cases happ
 | some obk =>
 cases obk with
 | mp _=>rw [hblk] at happ; cases happ
 | cells rok ck =>
 cases rok with
 | true=>rw [hblk] at happ; cases happ
 | false =>
 rw [hblk] at happ
 simp only at happ
 cases hr0:renV k 0 v with
 | none=>rw [hr0] at happ; cases happ
 | some v1 =>
 rw [hr0] at happ
 simp only at happ
 cases hr1:renV 0 base v1 with
 | none=>rw [hr1] at happ; cases happ
 | some v2 =>
 rw [hr1] at happ
 simp only at happ
 cases hcond:(ltV 1 v1 && ltL 0 ck && nodupB ns && Nat.ble (P.globals.size+ns.length) k) with
 | false=>rw [hcond] at happ; cases happ
 | true =>
 rw [hcond] at happ
 simp only [cond_true,Option.some.injEq,Prod.mk.injEq] at happ
 obtain ⟨rfl,rfl⟩:=happ
 simp only [Bool.and_eq_true] at hcond
 obtain ⟨⟨⟨hv1,hck⟩,hnd⟩,hkk⟩:=hcond
 have hkk:=Nat.le_of_ble_eq_true hkk
 have hnd:=nodupB_ok hnd
 obtain ⟨fn,body,hf,hb,hrunF⟩:=run1_some hrun
 obtain ⟨u1,u2⟩:=backA_mem hback
 have husome:∀ m x,(m,x) ∈ us→x.isSome=true:=fun m x hx=>by
  obtain ⟨c,i,c0,e,_⟩:=u1 m x hx
  rw [e]; rfl
 -- what the callee sees
 have heap:∀ m o,aget (Ho) m=some o→∃ n ro c,aget H n=some o∧o=.cells ro c∧ltL 0 c=true∧sigC P.globals.size ns σ m=σ n∧((m < P.globals.size∧n=m∧ro=true) ∨ ∃ i,m=P.globals.size+i∧ns[i]? = some n):=fun m o hmo=>by
  obtain ⟨a1,n,a2,a3,ro,c,a4,a5⟩:=objsA_get hobj m o hmo
  have e:m=P.globals.size+(m - P.globals.size):=by omega
  refine ⟨n,ro,c,a3,a4,a5,?_,.inr ⟨m - P.globals.size,e,a2⟩⟩
  rw [e]
  exact sigC_at a2
 have hgc:GRel P (sigC P.globals.size ns σ):=fun g hgl=>by
  obtain ⟨sz,hs⟩:=hg g hgl
  exact ⟨sz,by unfold sigC; rw [if_pos hgl]; exact hs⟩
 have hfr:Fresh (sigC P.globals.size ns σ) (P.globals.size+ns.length):=fun m hm'=>by
  unfold sigC
  rw [if_neg (by omega),List.getElem?_eq_none (by omega)]
 obtain ⟨_,hlen,hcv⟩:=canL_ok hcan
 have hlc:LR (sigC P.globals.size ns σ) cargs args':=by
  refine ⟨by rw [hlen]; exact hl.1,fun i u u' h1 h2 => ?_⟩
  have:=hcv [] σ i u u' h1 fun x hx=>hl.2 i x u' hx h2
  rwa [List.append_nil] at this
 have hHc:HRel (sigC P.globals.size ns σ) (aget (Ho)) w:=by
  refine ⟨fun m o hmo => ?_,fun m m' o o' q q' h1 h2 hq hq' he => ?_⟩
  ·obtain ⟨n,ro,c,a1,rfl,a3,a4,_⟩:=heap m o hmo
   obtain ⟨p,hp,hor⟩:=hH.obj n _ a1
   exact ⟨p,by rw [a4]; exact hp,hor.plain a3⟩
  ·obtain ⟨n,ro,c,a1,rfl,a3,a4,a5⟩:=heap m o h1
   obtain ⟨n',ro',c',b1,rfl,b3,b4,b5⟩:=heap m' o' h2
   rw [a4] at hq
   rw [b4] at hq'
   rcases hH.inj n n' _ _ q q' a1 b1 hq hq' he with e | e
   ·subst e
    rw [a1] at b1
    cases b1
    rcases a5 with ⟨x1,x2,x3⟩ | ⟨i,x1,x2⟩ <;> rcases b5 with ⟨y1,y2,y3⟩ | ⟨j,y1,y2⟩
    ·exact .inl (by omega)
    ·subst x3; exact .inr ⟨rfl,rfl⟩
    ·subst y3; exact .inr ⟨rfl,rfl⟩
    ·left
     have h3:=(List.getElem?_eq_some_iff.1 x2)
     have h4:=(List.getElem?_eq_some_iff.1 y2)
     obtain ⟨hi,ei⟩:=h3
     obtain ⟨hj,ej⟩:=h4
     have:i=j:=(List.getElem_inj hnd).1 (ei.trans ej.symm)
     omega
   ·exact .inr e
 refine (runF_ok hcs hm hf hb hrunF hlc hHc hgc hfr).mono fun r w' hrw => ?_
 obtain ⟨σ',v',rfl,g1,g2,g3,g4⟩:=hrw
 -- what the callee may write,the caller may
 have hown:∀ b,Own (sigC P.globals.size ns σ) (aget (Ho)) b→∃ n c p,n ∈ ns∧aget H n=some (.cells false c)∧σ n=some p∧p.blk=b:=fun b ⟨m,o,p,a1,a2,a3,a4⟩=>by
  obtain ⟨n,ro,c,b1,rfl,b3,b4,b5⟩:=heap m o a1
  have hro:ro=false:=a2
  subst hro
  rw [b4] at a3
  rcases b5 with ⟨_,_,x⟩ | ⟨i,_,x⟩
  ·cases x
  ·exact ⟨n,c,p,List.mem_of_getElem? x,b1,a3,a4⟩
 have hold:∀ b,b < w.heap.size→(∀ n c p,n ∈ ns→aget H n=some (.cells false c)→σ n=some p→p.blk ≠ b)→w'.heap[b]? = w.heap[b]?:=fun b hb hne =>
  (g3.old b hb fun ho=>by
   obtain ⟨n,c,p,a1,a2,a3,a4⟩:=hown b ho
   exact hne n c p a1 a2 a3 a4).1
 have orig:∀ m ob,aget (appU H us) m=some ob→∃ ob0,aget H m=some ob0∧ob0.ro=ob.ro:=fun m ob hmo=>by
  rcases appU_get husome (H:=H) m with ⟨o,a1,a2⟩ | ⟨_,a2⟩
  ·obtain ⟨c,i,c0,e1,_,_,_,e5⟩:=u1 m _ a1
   rw [hmo] at a2
   cases a2
   cases e1
   exact ⟨_,e5,rfl⟩
  ·exact ⟨ob,by rw [← a2]; exact hmo,rfl⟩
 have hbn:σ base=none:=hfree 0 (by omega)
 obtain ⟨pk,hpk,hork⟩:=g2.obj k _ hblk
 have ownk:Own σ' (aget H') pk.blk:=⟨k,_,pk,hblk,rfl,hpk,rfl⟩
 -- the new block is none of the caller's
 have fresh:∀ m ob q,aget H m=some ob→σ m=some q→q.blk ≠ pk.blk:=fun m ob q hmo hq he=>by
  obtain ⟨q',hq',hor⟩:=hH.obj m ob hmo
  rw [hq] at hq'; cases hq'
  by_cases hin:∃ c,m ∈ ns∧ob=.cells false c
  ·obtain ⟨c,h1,rfl⟩:=hin
   obtain ⟨x,hx⟩:=u2 m c h1 hmo
   obtain ⟨c1,i,c0,e1,e2,e3,e4,e5⟩:=u1 m x hx
   have hq2:σ' (P.globals.size+i)=some q:=g3.ext _ _ (by rw [sigC_at e3]; exact hq)
   rcases g2.inj _ _ _ _ _ _ e4 hblk hq2 hpk he with e | ⟨e,_⟩
   ·have:=(List.getElem?_eq_some_iff.1 e3).1
    omega
   ·cases e
  ·refine (g3.old q.blk hor.lt fun ho => ?_).2 (he ▸ ownk)
   obtain ⟨n,c,p,a1,a2,a3,a4⟩:=hown _ ho
   rcases hH.inj n m _ ob p q a2 hmo a3 hq a4 with e | ⟨e,_⟩
   ·subst e
    rw [a2] at hmo
    cases hmo
    exact hin ⟨c,a1,rfl⟩
   ·cases e
 have hbase:aget (appU H us) base=none:=by
  cases hb:aget (appU H us) base with
  | none=>rfl
  | some ob =>
   obtain ⟨ob0,h1,_⟩:=orig base ob hb
   obtain ⟨p,hp,_⟩:=hH.obj base ob0 h1
   rw [hbn] at hp; cases hp
 have app:∀ m,aget (appU H (us++[(base,some (.cells false ck))])) m=if base=m then some (.cells false ck) else aget (appU H us) m:=fun m=>by
  rw [appU_append husome]
  simp only [appU]
  rw [aget_aset]
 have vr:VR (σ.set base pk) v2 v':=by
  have h1:=ltV_ok hv1 (renV_ok hr0 g1)
  refine (renV_ok hr1 h1).mono fun n p hp => ?_
  unfold Sig.ren at hp
  split at hp
  ·rename_i e
   subst e
   have hp1:=cut_le 1 (Sig.ren k 0 σ') 0 p hp
   have hp2:σ' k=some p:=by simpa [Sig.ren] using hp1
   rw [hpk] at hp2; cases hp2
   exact Sig.set_same σ n _
  ·split at hp
   ·cases hp
   ·rename_i e1 e2
    simp only [Go.Eng.cut] at hp
    rw [if_neg (by omega)] at hp
    cases hp
 have base0:HRel σ (aget (appU H us)) w':=by
  refine ⟨fun m ob hmo => ?_,fun m1 m2 o1 o2 q1 q2 h1 h2 hq1 hq2 he => ?_⟩
  ·rcases appU_get husome (H:=H) m with ⟨o,a1,a2⟩ | ⟨a1,a2⟩
   ·obtain ⟨c,i,c0,e1,e2,e3,e4,e5⟩:=u1 m _ a1
    rw [hmo] at a2
    cases a2
    cases e1
    obtain ⟨p,hp,_⟩:=hH.obj m _ e5
    refine ⟨p,hp,?_⟩
    obtain ⟨q,hq,hor⟩:=g2.obj _ _ e4
    have:q=p:=Option.some.inj (hq.symm.trans (g3.ext _ _ (by rw [sigC_at e3]; exact hp)))
    subst this
    exact hor.plain e2
   ·rw [a2] at hmo
    obtain ⟨p,hp,hor⟩:=hH.obj m ob hmo
    refine ⟨p,hp,hor.mono (Sig.le_refl σ) (hold _ hor.lt fun n c q k1 k2 k3 k4 => ?_)⟩
    rcases hH.inj n m _ ob q p k2 hmo k3 hp k4 with e | ⟨e,_⟩
    ·subst e
     obtain ⟨x,hx⟩:=u2 n c k1 k2
     exact a1 x hx
    ·cases e
  ·obtain ⟨x1,y1,z1⟩:=orig m1 o1 h1
   obtain ⟨x2,y2,z2⟩:=orig m2 o2 h2
   rcases hH.inj m1 m2 x1 x2 q1 q2 y1 y2 hq1 hq2 he with e | ⟨e1,e2⟩
   ·exact .inl e
   ·exact .inr ⟨z1 ▸ e1,z2 ▸ e2⟩
 refine ⟨σ.set base pk,v',rfl,vr,⟨fun m ob hmo => ?_,fun m1 m2 o1 o2 q1 q2 h1 h2 hq1 hq2 he => ?_⟩,⟨Sig.le_set hbn pk,g3.size,g3.os,g3.output,g3.tape,fun b hb hno=>⟨hold b hb fun n c p k1 k2 k3 k4=>hno ⟨n,_,p,k2,rfl,k3,k4⟩,?_⟩⟩,fun n hn=>Sig.set_other σ _ (by omega)⟩
 ·rw [app] at hmo
  split at hmo
  ·rename_i e
   subst e
   cases hmo
   exact ⟨pk,Sig.set_same σ base pk,hork.plain hck⟩
  ·rename_i e
   obtain ⟨p,hp,hor⟩:=base0.obj m ob hmo
   exact ⟨p,by rw [Sig.set_other σ _ (Ne.symm e)]; exact hp,hor.mono (Sig.le_set hbn pk) rfl⟩
 ·rw [app] at h1 h2
  split at h1 <;> split at h2
  ·rename_i e1 e2; exact .inl (e1.symm.trans e2)
  ·rename_i e1 e2
   subst e1
   rw [Sig.set_same] at hq1; cases hq1
   rw [Sig.set_other σ _ (Ne.symm e2)] at hq2
   obtain ⟨x2,y2,_⟩:=orig m2 o2 h2
   exact absurd he.symm (fresh m2 x2 q2 y2 hq2)
  ·rename_i e1 e2
   subst e2
   rw [Sig.set_same] at hq2; cases hq2
   rw [Sig.set_other σ _ (Ne.symm e1)] at hq1
   obtain ⟨x1,y1,_⟩:=orig m1 o1 h1
   exact absurd he (fresh m1 x1 q1 y1 hq1)
  ·rename_i e1 e2
   rw [Sig.set_other σ _ (Ne.symm e1)] at hq1
   rw [Sig.set_other σ _ (Ne.symm e2)] at hq2
   exact base0.inj m1 m2 o1 o2 q1 q2 h1 h2 hq1 hq2 he
 ·rintro ⟨m,o,q,k1,k2,k3,k4⟩
  rw [app] at k1
  split at k1
  ·rename_i e
   subst e
   rw [Sig.set_same] at k3; cases k3
   refine (g3.old b hb fun ho => ?_).2 (k4 ▸ ownk)
   obtain ⟨n,c,p,a1,a2,a3,a4⟩:=hown b ho
   exact hno ⟨n,_,p,a2,rfl,a3,a4⟩
  ·rename_i e
   rw [Sig.set_other σ _ (Ne.symm e)] at k3
   obtain ⟨x1,y1,z1⟩:=orig m o k1
   exact hno ⟨m,x1,q,y1,by rw [z1]; exact k2,k3,k4⟩
theorem callOk_new {P:Program}{cs:CS}(hcs:CSOk P cs) (hm:P.follows .mixedOrders=true){nn F:Nat}{f:FuncId}{args:List AVal}{k len esz fr:Nat}{H':HL}{c:List AVal}(hcan:canL P.globals.size [] args=some (args,[]))
  (hrun:run1 P cs nn F f args [] P.globals.size=some (.slice k 0 len esz,H',fr)) (hk:aget H' k=some (.cells false c)) (hc:ltL 0 c=true) (hg:Nat.ble P.globals.size k=true):CallOk P f args (.alloc (.cells false c) fun b=>.slice b 0 len esz):=by
 refine (callOk_viewN0 hcs hm (nn:=nn) (F:=F) (f:=f) hcan).less fun base H r hr => ?_
 simp only [EffA.app,Option.some.injEq] at hr
 subst hr
 have e1:renV k 0 (.slice k 0 len esz)=some (.slice 0 0 len esz):=by
  simp only [renV,renS,renN,Nat.beq_refl,cond_true]
 have e2:renV 0 base (.slice 0 0 len esz)=some (.slice base 0 len esz):=by
  simp only [renV,renS,renN,Nat.beq_refl,cond_true]
 have e3:ltV 1 (.slice 0 0 len esz)=true:=rfl
 simp only [viewN0,EffA.app,objsA,List.length_nil,Nat.add_zero,hrun,backA,newN,hk,e1,e2,e3,hc,nodupB,hg,Bool.and_self,cond_true,List.nil_append,appU]
end Go.Eng
namespace Go.Eng
open Go
def newR (x:Option (AVal × HL × Nat)):Option (Nat × Nat × Nat × List AVal):=
 match x with
 | some (.slice k 0 len esz,H',_)=>match aget H' k with
  | some (.cells false c)=>some (k,len,esz,c)
  | _=>none
 | _=>none
theorem callOk_new2 {P:Program}{cs:CS}(hcs:CSOk P cs) (hm:P.follows .mixedOrders=true){nn F:Nat}{f:FuncId}{args:List AVal}{k len esz:Nat}{c:List AVal}(hcan:canL P.globals.size [] args=some (args,[]))
  (hrun:newR (run1 P cs nn F f args [] P.globals.size)=some (k,len,esz,c)) (hc:ltL 0 c=true) (hg:Nat.ble P.globals.size k=true):CallOk P f args (.alloc (.cells false c) fun b=>.slice b 0 len esz):=by
 unfold newR at hrun
 split at hrun
 ·rename_i k' len' esz' H' fr hr
  split at hrun
  ·rename_i c' hk
   simp only [Option.some.injEq,Prod.mk.injEq] at hrun
   obtain ⟨rfl,rfl,rfl,rfl⟩:=hrun
   exact callOk_new hcs hm hcan hr hk hc hg
  ·cases hrun
 ·cases hrun
end Go.Eng
namespace Go.Eng
open Go Go.WideShapes Go.ChangeShapes
theorem post_of_grew {H:Type}{enc:TypeId × Value→H}{P:Program}{f:Func}{s:ChangeSpec}{apart fresh handsOn again:Bool}{W W':World}{args:Array Value}{v:Value}{ds gs:List (DataW H)}{before pa pv:List MemPlace}
  (hW:DataW.Whole enc P f.params.toList s.vars apart W args.toList ds gs before)
  (hres:∀ (b:Nat) (sp:Nat→Bool) (hd:Bool),DataW.TrodAll enc P W' b sp hd f.resultTypes.toList (v.resultList f.resultTypes.size) (s.fn H (ds++gs)).results [])
  (hargs:∀ sp:Nat→Bool,(∀ p ∈ before,sp p.block=true)→DataW.TrodAll enc P W' 0 sp true f.params.toList args.toList (s.fn H (ds++gs)).args pa)
  (hvars:∀ sp:Nat→Bool,(∀ p ∈ before,sp p.block=true)→DataW.TrodVars enc P W' sp s.vars (s.fn H (ds++gs)).vars pv)
  (hps:before=pa++pv) (hg:Grew W W')
  (hok:∀ (j:Nat) (t:TypeId) (r:Value),f.resultTypes[j]? = some t→(v.resultList f.resultTypes.size)[j]? = some r→Value.okWide P W' .any 0 t r) :
  s.post enc P f apart fresh handsOn again W args v W':=by
 have hlt:=hW.lt
 have hold:∀ p ∈ before,(fun b=>decide (b < W.heap.size)) p.block=true:=fun p hp=>by simpa using hlt p hp
 refine ⟨ds,gs,before,[],pa,pv,hW,hres _ _ _,hargs _ hold,hvars _ hold,World.keptBut_mono (fun p hp=>hp.elim) hg.1,fun _ => ?_⟩
 obtain ⟨_,_,_,_,_,hz,hn⟩:=hW
 have hmem:∀ p,p ∈ ([]++pa)++pv→p ∈ before:=fun p hp=>by rw [hps]; simpa using hp
 refine ⟨hok,_,_,([]++pa)++pv,⟨[]++pa,pv,trodAll_append (hargs _ (fun _ _=>rfl)) (hres _ _ _),hvars _ (fun _ _=>rfl),rfl,fun b off hp => ?_,fun ha => ?_⟩,fun p hp _ => ?_⟩
 ·have hb:=hmem _ hp
  rw [hg.2.1 ⟨b,off,none⟩ (hlt _ hb)]
  exact hz b off hb
 ·have:=hn ha
  rw [hps] at this
  simpa using this
 ·exact hmem _ hp
theorem vr_str (σ:Sig) (a:ByteArray):VR σ (.str a.data.toList) (.string a):=by
 have:=VR.str (σ:=σ) a.data.toList
 rwa [Array.toArray_toList] at this
theorem wf_le {k:IntKind}{n:Int}(h:(Lit.int k n).wf=true):k.min≤n∧n≤k.max:=by
 simpa only [Lit.wf,Bool.and_eq_true,decide_eq_true_eq] using h
theorem vr_u32 {a:Int}(h:(Lit.int .u32 a).wf=true):∃ x:UInt32,∀ σ,VR σ (.u32 x) (.int .u32 a):=by
 have h':=wf_le h
 have h1:(0:Int)≤a:=h'.1
 have h2:a≤4294967295:=h'.2
 refine ⟨UInt32.ofNat a.toNat,fun σ => ?_⟩
 have e:((UInt32.ofNat a.toNat).toNat:Int)=a:=by rw [UInt32.toNat_ofNat_of_lt' (show a.toNat < 4294967296 by omega)]; omega
 have:=VR.u32 (σ:=σ) (UInt32.ofNat a.toNat)
 rwa [e] at this
end Go.Eng
namespace Go.Num
open Go Go.Eng
structure E5 where
 x0:UInt64
 x1:UInt64
 x2:UInt64
 x3:UInt64
 x4:UInt64
 deriving DecidableEq
def E5.av (a:E5):AVal:=.agg [.u64 a.x0,.u64 a.x1,.u64 a.x2,.u64 a.x3,.u64 a.x4]
structure N16 where
 x0:UInt64
 x1:UInt64
 x2:UInt64
 x3:UInt64
 x4:UInt64
 x5:UInt64
 x6:UInt64
 x7:UInt64
 x8:UInt64
 x9:UInt64
 x10:UInt64
 x11:UInt64
 x12:UInt64
 x13:UInt64
 x14:UInt64
 x15:UInt64
 deriving DecidableEq
def N16.av (a:N16):AVal:=.agg [.u64 a.x0,.u64 a.x1,.u64 a.x2,.u64 a.x3,.u64 a.x4,.u64 a.x5,.u64 a.x6,.u64 a.x7,.u64 a.x8,.u64 a.x9,.u64 a.x10,.u64 a.x11,.u64 a.x12,.u64 a.x13,.u64 a.x14,.u64 a.x15]
def N16.list (a:N16):List UInt64:=[a.x0,a.x1,a.x2,a.x3,a.x4,a.x5,a.x6,a.x7,a.x8,a.x9,a.x10,a.x11,a.x12,a.x13,a.x14,a.x15]
def N16.ofL (l:List UInt64):N16:=⟨l.getD 0 0,l.getD 1 0,l.getD 2 0,l.getD 3 0,l.getD 4 0,l.getD 5 0,l.getD 6 0,l.getD 7 0,l.getD 8 0,l.getD 9 0,l.getD 10 0,l.getD 11 0,l.getD 12 0,l.getD 13 0,l.getD 14 0,l.getD 15 0⟩
def bit64 (b:Bool):UInt64:=cond b 1 0
end Go.Num
namespace Go.Num
open Go Go.Eng
def clampL (s:List UInt8):List UInt8:=(s.set 0 (s.getD 0 0 &&& 248)).set 31 (s.getD 31 0 &&& 127 ||| 64)
def isLen (s:List UInt8) (n:Nat):Bool:=Nat.beq s.length n
def mulHi (x y:UInt64):UInt64:=UInt64.ofNat (x.toNat * y.toNat / 18446744073709551616)
theorem len32 {α:Type}{l:List α}(h:l.length=32):∃ a0 a1 a2 a3 a4 a5 a6 a7 a8 a9 a10 a11 a12 a13 a14 a15 a16 a17 a18 a19 a20 a21 a22 a23 a24 a25 a26 a27 a28 a29 a30 a31,l=[a0,a1,a2,a3,a4,a5,a6,a7,a8,a9,a10,a11,a12,a13,a14,a15,a16,a17,a18,a19,a20,a21,a22,a23,a24,a25,a26,a27,a28,a29,a30,a31]:=
 match l,h with
 | [_,_,_,_,_,_,_,_,_,_,_,_,_,_,_,_,_,_,_,_,_,_,_,_,_,_,_,_,_,_,_,_],_=>⟨_,_,_,_,_,_,_,_,_,_,_,_,_,_,_,_,_,_,_,_,_,_,_,_,_,_,_,_,_,_,_,_,rfl⟩
end Go.Num
namespace Go.Num
open Go Go.Eng
theorem isLen_eq {s:List UInt8}{n:Nat}:isLen s n=true ↔ s.length=n:=by
 unfold isLen
 exact ⟨Nat.eq_of_beq_eq_true,fun h=>by rw [h]; exact Nat.beq_refl n⟩
end Go.Num
namespace Go.Num
open Go Go.Eng
theorem isLen_ne {s:List UInt8}{n:Nat}(h:isLen s n=false):¬ (s.length:Int)=(n:Int):=fun e=>by
 have:=isLen_eq.2 (Int.ofNat.inj e)
 rw [h] at this; cases this
theorem isLen_to {s:List UInt8}{n:Nat}(h:isLen s n=true):(s.length:Int)=(n:Int):=by rw [isLen_eq.1 h]
theorem ne32 {s:List UInt8}(h:isLen s 32=false):¬ (s.length:Int)=32:=isLen_ne h
theorem to32 {s:List UInt8}(h:isLen s 32=true):(s.length:Int)=32:=isLen_to h
end Go.Num
namespace Go.Eng
open Go
end Go.Eng
namespace Go.Proofs.YtlchjbidkdokmaaGreatDoor
open Go Go.Eng Go.Num
def bodyOf (f:Func):Code:=f.body.getD .skip
def mask:FuncId→Nat:=fun f=>match f with | 2=>0 | 3=>2361184367334864191431 | 4=>392318859192418410641901190110794513973993277205954691059 | 5=>18889466223948674109399 | 6=>5107 | 7=>68719477247 | 8=>1077937095 | 9=>1077937095 | 10=>157 | 11=>68719477243 | 12=>5 | 13=>140737488383943 | 14=>66035 | 15=>33571891 | 16=>17729692370887 | 17=>15 | 18=>13 | 19=>16499 | 20=>4125 | 21=>1099511627899 | 22=>633825602345569885906392858599 | 23=>2418146787134510716698383 | 24=>8563 | 25=>21 | 26=>4211911 | 27=>16499 | 28=>21 | 29=>5 | 30=>2113651 | 31=>19 | 32=>2113651 | 33=>19 | 34=>324518553658426744799753561702387 | 35=>19 | 36=>157 | 37=>5213233219947619063588994761098749 | 38=>65907 | 39=>5 | 40=>35188669153469 | 41=>1 | 42=>8390911 | 43=>5018090848835661732347 | 44=>545294279 | 45=>16781363 | 46=>17305843 | 47=>35184439232967 | 48=>34359742515 | 49=>5 | 50=>268445779 | 51=>5 | 52=>13 | 53=>7 | 54=>549755821491 | 55=>307 | 56=>8522227 | 57=>13 | 58=>5 | 59=>5 | 60=>1151 | 61=>8959 | 62=>31 | 63=>7 | 64=>159 | 65=>23456248059229 | 66=>4199475 | 67=>16627 | 68=>17301533 | 69=>262195 | 70=>65669 | 71=>23456248059229 | 72=>5 | 73=>3 | 74=>262149 | 75=>1049063 | 76=>134742247 | 77=>8423 | 78=>348789426093966876810116114138679193108751 | 79=>9690591207981026925645175 | 80=>5444850177894893887268250969917165670375 | 81=>5 | 82=>5 | 83=>8363 | 84=>157 | 85=>157 | 86=>5 | 87=>131071 | 88=>442938030551212031999 | 89=>31 | 90=>2147484479 | 91=>13 | 92=>247 | 93=>5 | 94=>19816712040022917843543179263 | 95=>95 | 96=>4125 | 97=>39 | 98=>1050743 | 99=>33267 | 100=>8650767 | 101=>138412063 | 102=>5 | 103=>5 | 104=>138412063 | 105=>5 | 106=>5 | 107=>138009378819 | 108=>138412063 | 109=>5 | 110=>5 | 111=>19023209241239356687 | 112=>21 | 113=>4398046511335 | 114=>2319 | 115=>528499 | 116=>7 | 117=>4211 | 118=>23 | 119=>77 | 120=>2361183241434956825575 | 121=>247 | 122=>10384593871817177683247510831234831 | 123=>5 | 124=>125 | 125=>543 | 126=>255 | 127=>6297727 | 128=>975 | 129=>7 | 130=>247 | 131=>2097335 | 132=>6442696815 | 133=>132039 | 134=>4722366487267960168391 | 135=>65727 | 136=>39 | 137=>1535 | 138=>19 | 139=>51 | 140=>983347 | 141=>7283 | 142=>983347 | 143=>7283 | 144=>549902614547 | 145=>983347 | 146=>7283 | 147=>77 | 148=>575 | 149=>1073746119 | 150=>1074268103 | 151=>8804682991559 | 152=>20829169751433159 | 153=>8391 | 154=>83087207854311395603287443752634311 | 155=>19 | 156=>19023213622105999119 | 157=>22458641409078797123448399039441150152463 | 158=>277 | 159=>16661 | 160=>16371 | 162=>1099511758963 | 163=>34029619 | 164=>25769836669 | 165=>1 | 166=>45671926166590716193865151621903026828528189215 | 167=>8519923 | 168=>5 | 169=>4838064462843443614319679 | 170=>4503668346913551 | 171=>5 | 172=>5 | 173=>71 | 174=>1055 | 175=>5 | 176=>1 | 177=>2090694862423093148849536486400876297056199 | 178=>262781 | 179=>16639 | 180=>983347 | 181=>263 | 182=>1 | 183=>1 | 184=>1 | 185=>1 | 186=>1 | 187=>1 | 188=>1 | 189=>1 | 190=>1 | 191=>4367 | 192=>9520611261530279935 | 193=>262927 | 194=>129087 | 195=>51 | 196=>19 | 197=>7 | 198=>5 | 199=>138351151749653378483 | 200=>2175 | 201=>1005 | 202=>19 | 203=>5 | 204=>2097283 | 205=>51 | 206=>5 | 207=>5491 | 208=>17188391667 | 209=>524353 | 210=>19 | 211=>21 | 212=>13 | 213=>2923003971560093291123168138537876760321514930163 | 214=>20426010943356750102455122975 | 217=>5 | 218=>13 | 219=>5 | 220=>5 | 221=>21 | 222=>21 | 249=>0 | _=>0
theorem hmix:Tryz.prog.follows .mixedOrders=true:=by kernel_rfl
def cs0:CS:=noCS
theorem cs0_ok:CSOk Tryz.prog cs0:=noCS_ok _
end Go.Proofs.YtlchjbidkdokmaaGreatDoor
namespace Go.Eng
open Go
noncomputable def endO (P:Program) (ps:PS) (cs:CS) (sy:List Nat) (fn:Func) (nn F bs id:Nat) (b:Code) (l:List Code) (s:SA) (q:OS):Option (AVal × List Bool):=
 match evT P ps cs sy fn.ntmps nn F bs b s q with
 | some (.exit id',s1,q1)=>cond (Nat.beq id' id) (ansF P fn (evSO P ps cs sy fn.ntmps nn F bs l s1 q1)) none
 | _=>none
theorem ansF_ok2 {P:Program}{ps:PS}{cs:CS}(hps:PSOk ps cs){sy:List Nat}{fn:Func}{nt nn F bs:Nat}{l:List Code}{s:SA}{q:OS}{v:AVal}{ob:List Bool}(h:ansF P fn (evSO P ps cs sy nt nn F bs l s q)=some (v,ob)) (ha:allT ob=true):finV P fn (evS P cs nt nn F bs l s)=some v∧allT q.ob=true:=by
 cases hx:evSO P ps cs sy nt nn F bs l s q with
 | none=>rw [hx] at h; cases h
 | some r =>
  obtain ⟨x,s',q'⟩:=r
  rw [hx] at h
  have hq:q'.ob=ob:=by
   unfold ansF at h
   cases hv:finV P fn (some (x,s')) with
   | none=>simp only [hv] at h; cases h
   | some u =>
    simp only [hv,Option.some.injEq,Prod.mk.injEq] at h
    exact h.2
  have h2:=evSO_ok hps l s q x s' q' hx (by rw [hq]; exact ha)
  refine ⟨?_,h2.2⟩
  rw [h2.1]
  unfold ansF at h
  cases hv:finV P fn (some (x,s')) with
  | none=>simp only [hv] at h; cases h
  | some u =>
   simp only [hv,Option.some.injEq,Prod.mk.injEq] at h
   rw [h.1]
theorem endO_ok {P:Program}{ps:PS}{cs:CS}(hps:PSOk ps cs){sy:List Nat}{fn:Func}{nn F bs id:Nat}{b:Code}{l:List Code}{s:SA}{os:List Bool}{vs:List AVal}{v:AVal}{ob:List Bool}(h:endO P ps cs sy fn nn F bs id b l s ⟨os,vs,[]⟩=some (v,ob)) (ha:allT ob=true) :
  ∃ s1,evC P cs fn.ntmps nn F bs b s=some (.exit id,s1)∧finV P fn (evS P cs fn.ntmps nn F bs l s1)=some v:=by
 unfold endO at h
 split at h
 ·rename_i id' s1 q1 he
  cases hb:Nat.beq id' id with
  | false=>rw [hb] at h; cases h
  | true =>
   rw [hb,cond_true] at h
   have:=Nat.eq_of_beq_eq_true hb
   subst this
   obtain ⟨h1,h2⟩:=ansF_ok2 hps h ha
   exact ⟨s1,(evT_ok hps b _ _ _ _ _ he h2).1,h1⟩
 ·cases h
theorem segO_pre {P:Program}{ps:PS}{cs:CS}(hps:PSOk ps cs){sy:List Nat}{nt nn F bs:Nat}{l:List Code}{s s':SA}{os:List Bool}{vs:List AVal}{ob:List Bool}(h:segO (evSO P ps cs sy nt nn F bs l s ⟨os,vs,[]⟩)=some (s',ob)) (ha:allT ob=true):evS P cs nt nn F bs l s=some (.normal,s'):=by
 unfold segO at h
 split at h
 ·rename_i s1 q he
  simp only [Option.some.injEq,Prod.mk.injEq] at h
  obtain ⟨rfl,rfl⟩:=h
  exact (evSO_ok hps _ _ _ _ _ _ he ha).1
 ·cases h
theorem run_loopO {P:Program}{ps:PS}{cs:CS}(hps:PSOk ps cs){nn F:Nat}{f:FuncId}{fn:Func}{c:Code}{args:List AVal}{H:HL}{fr:Nat}(hf:P.funcs[f]? = some fn) (hb:fn.body=some c) (hn:Nat.ble args.length fn.ntmps=true)
  (k:Nat) {id:Nat} {b:Code} (hk:(pieces c)[k]? = some (.block id (.loop b))) (I:Nat→SA) (N:Nat) {sy0 sy1:List Nat} {os0 os1:List Bool} {vs0 vs1:List AVal} {ob0 ob1:List Bool}
  (hpre:segO (evSO P ps cs sy0 fn.ntmps nn F fr ((pieces c).take k) ⟨startT args 0,H,fr⟩ ⟨os0,vs0,[]⟩)=some (I 0,ob0)) (ha0:allT ob0=true)
  (hstep:∀ j,j < N→roundA (evC P cs fn.ntmps nn F fr b) (headA P fr (I 0)) (I j)=some (I (j+1)))
  {v:AVal} (hend:endO P ps cs sy1 fn nn F fr id b ((pieces c).drop (k+1)) (I N) ⟨os1,vs1,[]⟩=some (v,ob1)) (ha1:allT ob1=true) (hF:N < F):(run1 P cs nn F f args H fr).map (·.1)=some v:=by
 obtain ⟨s1,h1,h2⟩:=endO_ok hps hend ha1
 exact run_loop hf hb hn k hk I N (segO_pre hps hpre ha0) hstep h1 hF h2
end Go.Eng
namespace Go.Eng
open Go
theorem evS_loopR {P:Program}{cs:CS}{nt nn F bs:Nat}{l:List Code}{k id:Nat}{b:Code}(hk:l[k]? = some (.block id (.loop b))) (I:Nat→SA) (N:Nat){s1:SA}(hstep:∀ k,k < N→roundA (evC P cs nt nn F bs b) (headA P bs (I 0)) (I k)=some (I (k+1)))
  (hend:evC P cs nt nn F bs b (I N)=some (.ret,s1)) (hF:N < F):evS P cs nt nn F bs (l.drop k) (I 0)=some (.ret,s1):=by
 have hlt:=(List.getElem?_eq_some_iff.1 hk).1
 have e:l.drop k=.block id (.loop b)::l.drop (k+1):=by
  rw [List.drop_eq_getElem_cons hlt]
  rw [List.getElem?_eq_getElem hlt] at hk
  rw [Option.some.inj hk]
 rw [e]
 simp only [evS,evC_loop_ret I N (fun k h=>roundA_some (hstep k h)) hend hF]
end Go.Eng
namespace Go.Eng
open Go
def cellsB (n:Nat) (f:Nat→UInt8):List AVal:=(List.range n).map fun j=>.u8 (f j)
def updF {α:Type}(w:Nat→α) (k:Nat) (v:α):Nat→α:=fun j=>if j=k then v else w j
end Go.Eng
namespace Go.Eng
open Go
theorem psOne_ok {P:Program}{f:FuncId}{g:List AVal→Option (EffA × Bool)}(h:∀ args e,g args=some (e,true)→CallOk P f args e):CSOk P (csP (psOne f g)):=by
 intro f' args e he
 unfold csP psOne at he
 cases hf:Nat.beq f' f with
 | false=>rw [hf] at he; cases he
 | true =>
  rw [hf] at he
  have hf:=Nat.eq_of_beq_eq_true hf
  subst hf
  simp only at he
  cases hg:g args with
  | none=>rw [hg] at he; cases he
  | some r =>
   obtain ⟨e',c⟩:=r
   rw [hg] at he
   cases c with
   | false=>cases he
   | true=>cases he; exact h args _ hg
def nU (k:Nat) (f:Nat→UInt64):Nat→UInt64:=fun j=>if j < k then f j else 0
end Go.Eng
namespace Go.Eng
open Go
theorem renS_plain {m n:Nat}{v:AVal}(h:ltS 0 v=true):renS m n v=some v:=by
 have h0:∀ n:Nat,Nat.ble (n+1) 0=false:=fun n=>rfl
 cases v <;> first | rfl | (simp only [ltS,h0] at h; done) | skip
 all_goals simp only [ltS,h0] at h
 all_goals first | cases h | skip
 all_goals (rename_i cs; cases cs <;> first | rfl | cases h)
theorem renL_plain {m n:Nat}:∀ {c:List AVal},ltL 0 c=true→renL m n c=some c
 | [],_=>rfl
 | v::c,h=>by
  simp only [ltL] at h
  cases hv:ltS 0 v <;> rw [hv] at h <;> simp only [cond_true,cond_false] at h
  ·cases h
  ·simp only [renL,renS_plain hv,renL_plain h]
def memD (k:Nat):List Nat→Bool
 | []=>false
 | m::l=>cond (Nat.beq k m) true (memD k l)
def renHx (dl:List Nat) (m n:Nat):HL→Option (HL × List Bool)
 | []=>some ([],[])
 | (k,.cells ro c)::l=>match renN m n k,renHx dl m n l with
  | some k',some (l',ob)=>cond (memD k dl) (some ((k',.cells ro c)::l',ltL 0 c::ob)) (match renL m n c with
   | some c'=>some ((k',.cells ro c')::l',ob)
   | none=>none)
  | _,_=>none
 | (k,.mp c)::l=>match renN m n k,renHx dl m n l with
  | some k',some (l',ob)=>match renL m n c with
   | some c'=>some ((k',.mp c')::l',ob)
   | none=>none
  | _,_=>none
theorem renHx_ok {dl:List Nat}{m n:Nat}:∀ {H H':HL}{ob:List Bool},renHx dl m n H=some (H',ob)→allT ob=true→renH m n H=some H'
 | [],H',ob,h,_=>by cases h; rfl
 | (k,.cells ro c)::l,H',ob,h,ha=>by
  simp only [renHx] at h
  split at h
  ·rename_i k' l' ob' h1 h2
   cases hm:memD k dl <;> rw [hm] at h <;> simp only [cond_true,cond_false] at h
   ·split at h
    ·rename_i c' hc
     cases h
     simp only [renH,h1,hc,renHx_ok h2 ha]
    ·cases h
   ·cases h
    have:=allT_cons ha
    simp only [renH,h1,renL_plain this.1,renHx_ok h2 this.2]
  ·cases h
 | (k,.mp c)::l,H',ob,h,ha=>by
  simp only [renHx] at h
  split at h
  ·rename_i k' l' ob' h1 h2
   split at h
   ·rename_i c' hc
    cases h
    simp only [renH,h1,hc,renHx_ok h2 ha]
   ·cases h
  ·cases h
def ren1x (dl:List Nat) (P:Program) (bs m n:Nat) (s:SA):Option (SA × List Bool):=
 cond (Nat.ble bs m && Nat.ble bs n && Nat.ble P.globals.size bs && Nat.ble (n+1) s.fr && !(Nat.beq m n)) (match renT m n s.T,renHx dl m n (adel s.H n) with
  | some T,some (H,ob)=>some (⟨T,H,s.fr⟩,ob)
  | _,_=>none) none
theorem ren1x_ok {dl:List Nat}{P:Program}{bs m n:Nat}{s s':SA}{ob:List Bool}(h:ren1x dl P bs m n s=some (s',ob)) (ha:allT ob=true):ren1 P bs m n s=some s':=by
 unfold ren1x at h
 unfold ren1 ren0
 simp only at h ⊢
 cases hc:(Nat.ble bs m && Nat.ble bs n && Nat.ble P.globals.size bs && Nat.ble (n+1) s.fr && !(Nat.beq m n)) <;> rw [hc] at h <;> simp only [cond_true,cond_false] at h ⊢
 ·cases h
 ·split at h
  ·rename_i T H ob' h1 h2
   cases h
   simp only [h1,renHx_ok h2 ha]
  ·cases h
def renAllx (dl:List Nat) (P:Program) (bs:Nat):List (Nat × Nat)→SA→List Bool→Option (SA × List Bool)
 | [],s,ob=>some (s,ob)
 | (m,n)::l,s,ob=>match ren1x dl P bs m n s with
  | some (s',ob')=>renAllx dl P bs l s' (ob' ++ ob)
  | none=>none
theorem allT_append:∀ {a b:List Bool},allT (a++b)=true→allT a=true∧allT b=true
 | [],b,h=>⟨rfl,h⟩
 | x::a,b,h=>by
  have h1:=allT_cons (b:=x) (l:=a++b) h
  have h2:=allT_append h1.2
  refine ⟨?_,h2.2⟩
  simp only [allT,h1.1,h2.1,cond_true]
theorem renAllx_ok {dl:List Nat}{P:Program}{bs:Nat}:∀ {l:List (Nat × Nat)}{s s':SA}{ob ob':List Bool},renAllx dl P bs l s ob=some (s',ob')→allT ob'=true→renAll P bs l s=s'∧allT ob=true
 | [],s,s',ob,ob',h,ha=>by cases h; exact ⟨rfl,ha⟩
 | (m,n)::l,s,s',ob,ob',h,ha=>by
  simp only [renAllx] at h
  split at h
  ·rename_i s1 ob1 h1
   obtain ⟨e1,e2⟩:=renAllx_ok h ha
   have e3:=allT_append e2
   refine ⟨?_,e3.2⟩
   simp only [renAll,ren1x_ok h1 e3.1]
   exact e1
  ·cases h
end Go.Eng
namespace Go.Eng
open Go
theorem ltL_B (n k:Nat) (f:Nat→UInt8):ltL k (cellsB n f)=true:=by
 have:cellsB n f=((List.range n).map f).map .u8:=by simp [cellsB]
 rw [this]; exact ltL_u8 ..
theorem run_of {x:Option (AVal × HL × Nat)}{v:AVal}(h:x.map (·.1)=some v):∃ H' fr',x=some (v,H',fr'):=by
 cases x with
 | none=>cases h
 | some r =>
  obtain ⟨a,b,c⟩:=r
  simp only [Option.map_some,Option.some.injEq] at h
  subst h
  exact ⟨b,c,rfl⟩
end Go.Eng
namespace Go.Eng
open Go
end Go.Eng
namespace Go.Eng
open Go
inductive RN (ρ:Nat→Nat→Prop):AVal→AVal→Prop where
 | same {v:AVal} (h:ltV 0 v=true):RN ρ v v
 | ptr {k n off:Nat} (h:ρ k n):RN ρ (.ptr k off) (.ptr n off)
 | slice {k n off len esz:Nat} (h:ρ k n):RN ρ (.slice k off len esz) (.slice n off len esz)
 | map {k n:Nat} (h:ρ k n):RN ρ (.map k) (.map n)
 | fn {f:FuncId} {c c':List AVal} (hs:c.length=c'.length) (h:∀ (i:Nat) v v',c[i]? = some v→c'[i]? = some v'→RN ρ v v'):RN ρ (.fn f c) (.fn f c')
 | iface {t:TypeId} {v v':AVal} (h:RN ρ v v'):RN ρ (.iface t v) (.iface t v')
 | agg {c c':List AVal} (hs:c.length=c'.length) (h:∀ (i:Nat) v v',c[i]? = some v→c'[i]? = some v'→RN ρ v v'):RN ρ (.agg c) (.agg c')
 | tup {c c':List AVal} (hs:c.length=c'.length) (h:∀ (i:Nat) v v',c[i]? = some v→c'[i]? = some v'→RN ρ v v'):RN ρ (.tup c) (.tup c')
 | tp {k n:Nat} {t:TypeId} {b:Bool} (h:ρ k n):RN ρ (.tp k t b) (.tp n t b)
 | mth {f:FuncId} {k n off:Nat} (h:ρ k n):RN ρ (.mth f k off) (.mth f n off)
def RL (ρ:Nat→Nat→Prop) (c c':List AVal):Prop:=c.length=c'.length∧∀ (i:Nat) v v',c[i]? = some v→c'[i]? = some v'→RN ρ v v'
theorem RL.nil (ρ:Nat→Nat→Prop):RL ρ [] []:=⟨rfl,fun i v v' h=>by simp at h⟩
theorem RL.cons {ρ:Nat→Nat→Prop}{v v':AVal}{c c':List AVal}(h:RN ρ v v') (hc:RL ρ c c'):RL ρ (v::c) (v'::c'):=by
 refine ⟨by simp [hc.1],fun i u u' h1 h2 => ?_⟩
 cases i with
 | zero=>simp at h1 h2; subst h1; subst h2; exact h
 | succ i=>exact hc.2 i u u' (by simpa using h1) (by simpa using h2)
theorem ltV_of_ltS48 {v:AVal}(h:ltS 0 v=true):ltV 0 v=true:=by
 cases v with
 | agg l=>cases l with
  | nil=>rfl
  | cons x l=>cases h
 | tup l=>cases l with
  | nil=>rfl
  | cons x l=>cases h
 | fn f l=>cases l with
  | nil=>rfl
  | cons x l=>cases h
 | iface t v=>cases h
 | _=>exact h
theorem partner {c c':List AVal}(hs:c.length=c'.length){i:Nat}{x:AVal}(h:c'[i]? = some x):∃ y,c[i]? = some y:=
 ⟨_,List.getElem?_eq_getElem (by rw [hs]; exact (List.getElem?_eq_some_iff.1 h).1)⟩
theorem RL.same {ρ:Nat→Nat→Prop}{c:List AVal}(h:ltL 0 c=true):RL ρ c c:=
 ⟨rfl,fun i v v' h1 h2=>by
  rw [h1] at h2
  cases h2
  exact .same (ltV_of_ltS48 (ltL_mem h v (List.mem_of_getElem? h1)))⟩
theorem RL.append {ρ:Nat→Nat→Prop}{a a' b b':List AVal}(h:RL ρ a a') (k:RL ρ b b'):RL ρ (a++b) (a' ++ b'):=by
 refine ⟨by simp [h.1,k.1],fun i u u' h1 h2 => ?_⟩
 by_cases hi:i < a.length
 ·rw [List.getElem?_append_left hi] at h1
  rw [List.getElem?_append_left (by rw [← h.1]; exact hi)] at h2
  exact h.2 i u u' h1 h2
 ·rw [List.getElem?_append_right (by omega)] at h1
  rw [List.getElem?_append_right (by rw [← h.1]; omega),← h.1] at h2
  exact k.2 _ u u' h1 h2
theorem RN.aggL {ρ:Nat→Nat→Prop}{c c':List AVal}(h:RL ρ c c'):RN ρ (.agg c) (.agg c'):=.agg h.1 h.2
theorem RN.tupL {ρ:Nat→Nat→Prop}{c c':List AVal}(h:RL ρ c c'):RN ρ (.tup c) (.tup c'):=.tup h.1 h.2
theorem RN.fnL {ρ:Nat→Nat→Prop}{f:FuncId}{c c':List AVal}(h:RL ρ c c'):RN ρ (.fn f c) (.fn f c'):=.fn h.1 h.2
def Keeps2 (ρ:Nat→Nat→Prop) (σ σ':Sig):Prop:=∀ k n,ρ k n→∀ p,σ k=some p→σ' n=some p
theorem RN.vr {ρ:Nat→Nat→Prop}{σ σ':Sig}(hk:Keeps2 ρ σ σ'){c a:AVal}(h:RN ρ c a):∀ {v:Value},VR σ c v→VR σ' a v:=by
 induction h with
 | same h=>intro v hv; exact (ltV_ok h hv).mono fun n p hp=>by simp [cut] at hp
 | ptr h=>intro v hv; cases hv with | ptr hp=>exact .ptr (hk _ _ h _ hp)
 | slice h=>intro v hv; cases hv with | slice hp a b c=>exact .slice (hk _ _ h _ hp) a b c
 | map h=>intro v hv; cases hv with | map hp=>exact .map (hk _ _ h _ hp)
 | mth h=>intro v hv; cases hv with | mth hp=>exact .mth (hk _ _ h _ hp)
 | tp h =>
  intro v hv
  cases hv with
  | tp0 hp a b c=>exact .tp0 (hk _ _ h _ hp) a b c
  | tp1 hp a b c=>exact .tp1 (hk _ _ h _ hp) a b c
 | fn hs h ih =>
  intro v hv
  cases hv with
  | fn a b =>
   refine .fn (hs ▸ a) fun i x x' h1 h2 => ?_
   obtain ⟨y,hy⟩:=partner hs h1
   exact ih i y x hy h1 (b i y x' hy h2)
 | iface h ih=>intro v hv; cases hv with | iface hp=>exact .iface (ih hp)
 | agg hs h ih =>
  intro v hv
  cases hv with
  | agg a b =>
   refine .agg (hs ▸ a) fun i x x' h1 h2 => ?_
   obtain ⟨y,hy⟩:=partner hs h1
   exact ih i y x hy h1 (b i y x' hy h2)
 | tup hs h ih =>
  intro v hv
  cases hv with
  | tup a b =>
   refine .tup (hs ▸ a) fun i x x' h1 h2 => ?_
   obtain ⟨y,hy⟩:=partner hs h1
   exact ih i y x hy h1 (b i y x' hy h2)
theorem RN.vr' {ρ:Nat→Nat→Prop}{σ σ':Sig}(hk:Keeps2 (fun k n=>ρ n k) σ σ'){c a:AVal}(h:RN ρ c a):∀ {v:Value},VR σ a v→VR σ' c v:=by
 induction h with
 | same h=>intro v hv; exact (ltV_ok h hv).mono fun n p hp=>by simp [cut] at hp
 | ptr h=>intro v hv; cases hv with | ptr hp=>exact .ptr (hk _ _ h _ hp)
 | slice h=>intro v hv; cases hv with | slice hp a b c=>exact .slice (hk _ _ h _ hp) a b c
 | map h=>intro v hv; cases hv with | map hp=>exact .map (hk _ _ h _ hp)
 | mth h=>intro v hv; cases hv with | mth hp=>exact .mth (hk _ _ h _ hp)
 | tp h =>
  intro v hv
  cases hv with
  | tp0 hp a b c=>exact .tp0 (hk _ _ h _ hp) a b c
  | tp1 hp a b c=>exact .tp1 (hk _ _ h _ hp) a b c
 | fn hs h ih =>
  intro v hv
  cases hv with
  | fn a b =>
   refine .fn (hs.symm ▸ a) fun i x x' h1 h2 => ?_
   obtain ⟨y,hy⟩:=partner hs.symm h1
   exact ih i x y h1 hy (b i y x' hy h2)
 | iface h ih=>intro v hv; cases hv with | iface hp=>exact .iface (ih hp)
 | agg hs h ih =>
  intro v hv
  cases hv with
  | agg a b =>
   refine .agg (hs.symm ▸ a) fun i x x' h1 h2 => ?_
   obtain ⟨y,hy⟩:=partner hs.symm h1
   exact ih i x y h1 hy (b i y x' hy h2)
 | tup hs h ih =>
  intro v hv
  cases hv with
  | tup a b =>
   refine .tup (hs.symm ▸ a) fun i x x' h1 h2 => ?_
   obtain ⟨y,hy⟩:=partner hs.symm h1
   exact ih i x y h1 hy (b i y x' hy h2)
def RO (ρ:Nat→Nat→Prop) (o o':AObj):Prop:=(∃ ro c c',o=.cells ro c∧o'=.cells ro c'∧RL ρ c c') ∨ ∃ c c',o=.mp c∧o'=.mp c'∧RL ρ c c'
theorem RO.orel {ρ:Nat→Nat→Prop}{σ σ':Sig}(hk:Keeps2 ρ σ σ'){o o':AObj}(h:RO ρ o o'){w:World}{p:Place}(ho:ORel σ w p o):ORel σ' w p o':=by
 rcases h with ⟨ro,c,c',rfl,rfl,hl⟩ | ⟨c,c',rfl,rfl,hl⟩
 ·obtain ⟨d,t,fz,h1,h2,h3,h4⟩:=ho
  refine ⟨d,t,fz,h1,h2,fun i v hv => ?_,h4⟩
  obtain ⟨y,hy⟩:∃ y,c[i]? = some y:=⟨_,List.getElem?_eq_getElem (by rw [hl.1]; exact (List.getElem?_eq_some_iff.1 hv).1)⟩
  obtain ⟨v',a,b⟩:=h3 i y hy
  exact ⟨v',a,(hl.2 i y v hy hv).vr hk b⟩
 ·obtain ⟨en,clk,h1,hst,h2⟩:=ho
  refine ⟨en,clk,h1,hst,h2.imp fun _ h2=>⟨by rw [← hl.1]; exact h2.1,fun i v v' hv hv' => ?_⟩⟩
  obtain ⟨y,hy⟩:∃ y,c[i]? = some y:=⟨_,List.getElem?_eq_getElem (by rw [hl.1]; exact (List.getElem?_eq_some_iff.1 hv).1)⟩
  exact (hl.2 i y v hy hv).vr hk (h2.2 i y v' hy hv')
theorem RO.orel' {ρ:Nat→Nat→Prop}{σ σ':Sig}(hk:Keeps2 (fun k n=>ρ n k) σ σ'){o o':AObj}(h:RO ρ o o'){w:World}{p:Place}(ho:ORel σ w p o'):ORel σ' w p o:=by
 rcases h with ⟨ro,c,c',rfl,rfl,hl⟩ | ⟨c,c',rfl,rfl,hl⟩
 ·obtain ⟨d,t,fz,h1,h2,h3,h4⟩:=ho
  refine ⟨d,t,fz,h1,h2,fun i v hv => ?_,h4⟩
  obtain ⟨y,hy⟩:∃ y,c'[i]? = some y:=⟨_,List.getElem?_eq_getElem (by rw [← hl.1]; exact (List.getElem?_eq_some_iff.1 hv).1)⟩
  obtain ⟨v',a,b⟩:=h3 i y hy
  exact ⟨v',a,(hl.2 i v y hv hy).vr' hk b⟩
 ·obtain ⟨en,clk,h1,hst,h2⟩:=ho
  refine ⟨en,clk,h1,hst,h2.imp fun _ h2=>⟨by rw [hl.1]; exact h2.1,fun i v v' hv hv' => ?_⟩⟩
  obtain ⟨y,hy⟩:∃ y,c'[i]? = some y:=⟨_,List.getElem?_eq_getElem (by rw [← hl.1]; exact (List.getElem?_eq_some_iff.1 hv).1)⟩
  exact (hl.2 i v y hv hy).vr' hk (h2.2 i y v' hy hv')
theorem RO.ro {ρ:Nat→Nat→Prop}{o o':AObj}(h:RO ρ o o'):o.ro=o'.ro:=by
 rcases h with ⟨ro,c,c',rfl,rfl,_⟩ | ⟨c,c',rfl,rfl,_⟩ <;> rfl
theorem appU_at:∀ {us:List (Nat × Option AObj)}{H:HL}{m:Nat},(us.map (·.1)).Nodup→(∃ x,(m,x) ∈ us∧aget (appU H us) m=x) ∨ ((∀ x,(m,x) ∉ us)∧aget (appU H us) m=aget H m)
 | [],H,m,_=>.inr ⟨fun x h=>(by cases h),rfl⟩
 | (k,x)::us,H,m,hn=>by
  simp only [List.map_cons,List.nodup_cons] at hn
  have hstep:∀ H1:HL,(aget H1 k=x)→(∀ j,j ≠ k→aget H1 j=aget H j)→appU H ((k,x)::us)=appU H1 us→(∃ x',(m,x') ∈ (k,x)::us∧aget (appU H ((k,x)::us)) m=x') ∨ ((∀ x',(m,x') ∉ (k,x)::us)∧aget (appU H ((k,x)::us)) m=aget H m):=fun H1 e1 e2 e3=>by
   rw [e3]
   rcases appU_at (us:=us) (H:=H1) (m:=m) hn.2 with ⟨x',h1,h2⟩ | ⟨h1,h2⟩
   ·exact .inl ⟨x',List.mem_cons_of_mem _ h1,h2⟩
   ·by_cases c:m=k
    ·subst c
     exact .inl ⟨x,List.mem_cons_self ..,by rw [h2,e1]⟩
    ·refine .inr ⟨fun x' h => ?_,by rw [h2,e2 m c]⟩
     rcases List.mem_cons.1 h with h | h
     ·cases h; exact c rfl
     ·exact h1 x' h
  cases x with
  | some o=>exact hstep (aset H k o) (by rw [aget_aset_fun,upd_same]) (fun j hj=>by rw [aget_aset_fun,upd_other _ _ (Ne.symm hj)]) rfl
  | none=>exact hstep (adel H k) (by rw [aget_adel,if_pos rfl]) (fun j hj=>by rw [aget_adel,if_neg (Ne.symm hj)]) rfl
def ρ0 (G:Nat) (ns:List Nat) (k n:Nat):Prop:=(k < G∧n=k) ∨ ∃ i,k=G+i∧ns[i]? = some n
def ρ1 (G:Nat) (ns ks:List Nat) (base:Nat) (k n:Nat):Prop:=ρ0 G ns k n ∨ ∃ j,ks[j]? = some k∧n=base+j
def Known (η:Nat→Option AObj) (args:List AVal) (n:Nat):Prop:=(∃ o,η n=some o) ∨ (∃ (m:Nat) (fz:Bool) (c:List AVal) (i:Nat),η m=some (.cells fz c)∧((∃ off len esz,c[i]? = some (AVal.slice n off len esz)) ∨ ∃ off,c[i]? = some (AVal.ptr n off))) ∨ (∃ (i:Nat) (off:Nat),args[i]? = some (AVal.ptr n off)) ∨ ∃ (i off len esz:Nat),args[i]? = some (AVal.slice n off len esz)
structure Deep (P:Program) (cs:CS) (f:FuncId) (args:List AVal) (base:Nat) (η:Nat→Option AObj) (v:AVal) (us:List (Nat × Option AObj)) where
 nn:Nat
 F:Nat
 ns:List Nat
 ks:List Nat
 cargs:List AVal
 Hc:HL
 fr:Nat
 v0:AVal
 H':HL
 fr':Nat
 hns:ns.Nodup
 hη:∀ n,n ∈ ns→Known η args n
 hargs:RL (ρ0 P.globals.size ns) cargs args
 hblk:∀ k o,aget Hc k=some o→∃ n o',ρ0 P.globals.size ns k n∧η n=some o'∧RO (ρ0 P.globals.size ns) o o'∧(k < P.globals.size→o.ro=true)
 hfr:P.globals.size+ns.length≤fr
 hrun:run1 P cs nn F f cargs Hc fr=some (v0,H',fr')
 hks:ks.Nodup
 hks8:ks.length≤8
 hkfr:∀ k,k ∈ ks→fr≤k
 hv:RN (ρ1 P.globals.size ns ks base) v0 v
 hnd:(us.map (·.1)).Nodup
 hus:∀ m x,(m,x) ∈ us→(∃ i,ns[i]? = some m∧(x=none ∨ ∃ o o',x=some o'∧aget H' (P.globals.size+i)=some o∧o.ro=false∧RO (ρ1 P.globals.size ns ks base) o o')) ∨
  ∃ j k o o',m=base+j∧ks[j]? = some k∧x=some o'∧aget H' k=some o∧o.ro=false∧RO (ρ1 P.globals.size ns ks base) o o'
 hall:∀ i n o,ns[i]? = some n→aget Hc (P.globals.size+i)=some o→o.ro=false→∃ x,(n,x) ∈ us
theorem inj_of_nodup {l:List Nat}(h:l.Nodup){i j n:Nat}(hi:l[i]? = some n) (hj:l[j]? = some n):i=j:=by
 obtain ⟨a,ea⟩:=List.getElem?_eq_some_iff.1 hi
 obtain ⟨b,eb⟩:=List.getElem?_eq_some_iff.1 hj
 exact (List.getElem_inj h).1 (ea.trans eb.symm)
theorem callOk_deep {P:Program}{cs:CS}(hcs:CSOk P cs) (hm:P.follows .mixedOrders=true){f:FuncId}{args:List AVal}{K:Nat→(Nat→Option AObj)→Option (AVal × List (Nat × Option AObj))}
  (h:∀ base η v us,K base η=some (v,us)→Nonempty (Deep P cs f args base η v us)):CallOk P f args (.eff K):=by
 intro σ args' H w base v H0 hl hg hH happ hfree
 simp only [EffA.app] at happ
 cases hK:K base (aget H) with
 | none=>rw [hK] at happ; cases happ
 | some r =>
 obtain ⟨v1,us⟩:=r
 rw [hK] at happ
 simp only [Option.some.injEq,Prod.mk.injEq] at happ
 obtain ⟨rfl,rfl⟩:=happ
 obtain ⟨D⟩:=h base (aget H) v1 us hK
 obtain ⟨nn,F,ns,ks,cargs,Hc,fr,v0,H',fr',hns,hη,hargs,hblk,hfr,hrun,hks,hks8,hkfr,hv,hnd,hus,hall⟩:=D
 obtain ⟨fn,body,hf,hb,hrunF⟩:=run1_some hrun
 obtain ⟨G,hG⟩:∃ G,G=P.globals.size:=⟨_,rfl⟩
 rw [← hG] at hargs hblk hfr hv hus hall
 -- the callee's names
 obtain ⟨σc,hσc⟩:∃ σc,σc=sigC G ns σ:=⟨_,rfl⟩
 have c1:∀ k,k < G→σc k=σ k:=fun k hk=>by rw [hσc]; unfold sigC; rw [if_pos hk]
 have c2:∀ i n,ns[i]? = some n→σc (G+i)=σ n:=fun i n hi=>by rw [hσc]; exact sigC_at hi
 have hin:Keeps2 (fun n k=>ρ0 G ns k n) σ σc:=fun n k hk p hp=>by
  rcases hk with ⟨a,rfl⟩ | ⟨i,rfl,hi⟩
  ·rw [c1 _ a]; exact hp
  ·rw [c2 i n hi]; exact hp
 have hgc:GRel P σc:=fun g hgl=>by
  obtain ⟨sz,hs⟩:=hg g hgl
  exact ⟨sz,by rw [c1 g (by omega)]; exact hs⟩
 have hfrc:Fresh σc fr:=fun m hm'=>by
  rw [hσc]
  unfold sigC
  rw [if_neg (by omega),List.getElem?_eq_none (by omega)]
 have hlc:LR σc cargs args':=⟨hargs.1.trans hl.1,fun i u u' h1 h2=>by
  obtain ⟨y,hy⟩:=partner hargs.1.symm h1
  exact (hargs.2 i u y h1 hy).vr' hin (hl.2 i y u' hy h2)⟩
 have hdef:∀ n,n ∈ ns→∃ p,σ n=some p:=fun n hn=>by
  rcases hη n hn with ⟨o,ho⟩ | ⟨m,fz,c,i,ho,hc⟩ | ⟨i,off,ha⟩ | ⟨i,off,len,esz,ha⟩
  ·obtain ⟨p,hp,_⟩:=hH.obj n o ho
   exact ⟨p,hp⟩
  ·obtain ⟨p,hp,d,t,fz,h1,h2,h3,h4⟩:=hH.obj m _ ho
   rcases hc with ⟨off,len,esz,hc⟩ | ⟨off,hc⟩
   ·obtain ⟨v',a,b⟩:=h3 i _ hc
    cases b with
    | slice hs=>exact ⟨_,hs⟩
   ·obtain ⟨v',a,b⟩:=h3 i _ hc
    cases b with
    | ptr hs=>exact ⟨_,hs⟩
  ·obtain ⟨v',hv'⟩:∃ v',args'[i]? = some v':=⟨_,Array.getElem?_eq_getElem (by rw [← hl.1]; exact (List.getElem?_eq_some_iff.1 ha).1)⟩
   cases hl.2 i _ v' ha hv' with
   | ptr hs=>exact ⟨_,hs⟩
  ·obtain ⟨v',hv'⟩:∃ v',args'[i]? = some v':=⟨_,Array.getElem?_eq_getElem (by rw [← hl.1]; exact (List.getElem?_eq_some_iff.1 ha).1)⟩
   cases hl.2 i _ v' ha hv' with
   | slice hs=>exact ⟨_,hs⟩
 have hHc:HRel σc (aget Hc) w:=by
  refine ⟨fun k o hk => ?_,fun k k' o o' q q' h1 h2 hq hq' he => ?_⟩
  ·obtain ⟨n,o',hr0,ho',hro,_⟩:=hblk k o hk
   obtain ⟨p,hp,hor⟩:=hH.obj n o' ho'
   exact ⟨p,hin n k hr0 p hp,hro.orel' hin hor⟩
  ·obtain ⟨n,u,r1,hu,hro,t1⟩:=hblk k o h1
   obtain ⟨n',u',r2,hu',hro',t2⟩:=hblk k' o' h2
   obtain ⟨p,hp,_⟩:=hH.obj n u hu
   obtain ⟨p',hp',_⟩:=hH.obj n' u' hu'
   have ep:q=p:=by have:=hin n k r1 p hp; rw [hq] at this; exact Option.some.inj this
   have ep':q'=p':=by have:=hin n' k' r2 p' hp'; rw [hq'] at this; exact Option.some.inj this
   subst ep ep'
   rcases hH.inj n n' u u' q q' hu hu' hp hp' he with e | ⟨e1,e2⟩
   ·subst e
    rw [hu] at hu'
    cases hu'
    have both:o.ro=o'.ro:=hro.ro.trans hro'.ro.symm
    rcases r1 with ⟨a1,b1⟩ | ⟨i,b1,hi⟩ <;> rcases r2 with ⟨a2,b2⟩ | ⟨i',b2,hi'⟩
    ·exact .inl (b1.symm.trans b2)
    ·have:=t1 a1
     exact .inr ⟨this,both ▸ this⟩
    ·have:=t2 a2
     exact .inr ⟨both.trans this,this⟩
    ·subst b1 b2
     exact .inl (by rw [inj_of_nodup hns hi hi'])
   ·exact .inr ⟨by rw [hro.ro]; exact e1,by rw [hro'.ro]; exact e2⟩
 refine (runF_ok hcs hm hf hb hrunF hlc hHc hgc hfrc).mono fun r w' hrw => ?_
 obtain ⟨σ',v',rfl,g1,g2,g3,g4⟩:=hrw
 -- the caller's names behind the call
 obtain ⟨σ2,hσ2⟩:∃ σ2:Sig,σ2=fun m=>if base≤m∧m < base+8 then (match ks[m - base]? with | some k=>σ' k | none=>none) else σ m:=⟨_,rfl⟩
 have s1:∀ j k,ks[j]? = some k→σ2 (base+j)=σ' k:=fun j k hj=>by
  have:j < ks.length:=(List.getElem?_eq_some_iff.1 hj).1
  rw [hσ2]
  show (if base≤base+j∧base+j < base+8 then _ else _)=_
  rw [if_pos (by omega),Nat.add_sub_cancel_left,hj]
 have s2:∀ m,(m < base ∨ base+8≤m)→σ2 m=σ m:=fun m hm'=>by
  rw [hσ2]
  show (if base≤m∧m < base+8 then _ else _)=_
  rw [if_neg (by omega)]
 have hfr0:∀ m p,σ m=some p→m < base ∨ base+8≤m:=fun m p hp=>by
  by_cases c:base≤m∧m < base+8
  ·have:=hfree (m - base) (by omega)
   rw [show base+(m - base)=m by omega,hp] at this
   cases this
  ·omega
 have s3:∀ m p,σ m=some p→σ2 m=some p:=fun m p hp=>by rw [s2 m (hfr0 m p hp)]; exact hp
 have hout0:∀ k n,ρ0 G ns k n→σ' k=σ2 n:=fun k n hk=>by
  rcases hk with ⟨a,rfl⟩ | ⟨i,rfl,hi⟩
  ·obtain ⟨sz,hs⟩:=hg n (by omega)
   rw [s3 _ _ hs]
   exact g3.ext _ _ (by rw [c1 _ a]; exact hs)
  ·obtain ⟨p,hp⟩:=hdef n (List.mem_of_getElem? hi)
   rw [s3 _ _ hp]
   exact g3.ext _ _ (by rw [c2 i n hi]; exact hp)
 have hout:Keeps2 (ρ1 G ns ks base) σ' σ2:=fun k n hk p hp=>by
  rcases hk with hk | ⟨j,hj,rfl⟩
  ·rw [← hout0 k n hk]; exact hp
  ·rw [s1 j k hj]; exact hp
 -- what the callee may write,the caller may
 have hown:∀ b,Own σc (aget Hc) b→∃ i n o p,ns[i]? = some n∧(∃ x,(n,x) ∈ us)∧aget H n=some o∧o.ro=false∧σ n=some p∧p.blk=b:=fun b ⟨k,o,p,a1,a2,a3,a4⟩=>by
  obtain ⟨n,o',hr0,ho',hro,ht⟩:=hblk k o a1
  rcases hr0 with ⟨hk,_⟩ | ⟨i,rfl,hi⟩
  ·rw [ht hk] at a2
   cases a2
  ·rw [c2 i n hi] at a3
   exact ⟨i,n,o',p,hi,hall i n o hi a1 a2,ho',by rw [← hro.ro]; exact a2,a3,a4⟩
 have hnot:∀ m o p,aget H m=some o→σ m=some p→(∀ x,(m,x) ∉ us) → ¬ Own σc (aget Hc) p.blk:=fun m o p hm' hp hno ho=>by
  obtain ⟨i,n,o',p',a1,⟨x,a2⟩,a3,a4,a5,a6⟩:=hown _ ho
  rcases hH.inj m n o o' p p' hm' a3 hp a5 a6.symm with e | ⟨_,e⟩
  ·subst e; exact hno x a2
  ·rw [a4] at e; cases e
 -- the blocks behind the call
 have key:∀ m x,(m,some x) ∈ us→∃ k o p,aget H' k=some o∧o.ro=false∧x.ro=false∧σ' k=some p∧σ2 m=some p∧RO (ρ1 G ns ks base) o x∧ρ1 G ns ks base k m:=fun m x hx=>by
  rcases hus m _ hx with ⟨i,hi,h1⟩ | ⟨j,k,o,o',rfl,hj,e,a1,a2,a3⟩
  ·rcases h1 with h1 | ⟨o,o',e,a1,a2,a3⟩
   ·cases h1
   ·cases e
    obtain ⟨p,hp,_⟩:=g2.obj _ o a1
    have h0:ρ0 G ns (G+i) m:=.inr ⟨i,rfl,hi⟩
    exact ⟨_,o,p,a1,a2,by rw [← a3.ro]; exact a2,hp,by rw [← hout0 _ _ h0]; exact hp,a3,.inl h0⟩
  ·cases e
   obtain ⟨p,hp,_⟩:=g2.obj _ o a1
   exact ⟨k,o,p,a1,a2,by rw [← a3.ro]; exact a2,hp,by rw [s1 j k hj]; exact hp,a3,.inr ⟨j,hj,rfl⟩⟩
 have parts:∀ m o,aget (appU H us) m=some o→((m,some o) ∈ us) ∨ ((∀ x,(m,x) ∉ us)∧aget H m=some o):=fun m o hm'=>by
  rcases appU_at (H:=H) (m:=m) hnd with ⟨x,a,b⟩ | ⟨a,b⟩
  ·rw [b] at hm'; subst hm'; exact .inl a
  ·rw [b] at hm'; exact .inr ⟨a,hm'⟩
 have names:∀ m x,(m,some x) ∈ us→∃ k o p,aget H' k=some o∧o.ro=false∧σ' k=some p∧σ2 m=some p∧((∃ i,k=G+i∧ns[i]? = some m) ∨ ∃ j,ks[j]? = some k∧m=base+j):=fun m x hx=>by
  rcases hus m _ hx with ⟨i,hi,h1⟩ | ⟨j,k,o,o',rfl,hj,e,a1,a2,a3⟩
  ·rcases h1 with h1 | ⟨o,o',e,a1,a2,a3⟩
   ·cases h1
   ·cases e
    obtain ⟨p,hp,_⟩:=g2.obj _ o a1
    have h0:ρ0 G ns (G+i) m:=.inr ⟨i,rfl,hi⟩
    exact ⟨_,o,p,a1,a2,hp,by rw [← hout0 _ _ h0]; exact hp,.inl ⟨i,rfl,hi⟩⟩
  ·obtain ⟨p,hp,_⟩:=g2.obj _ o a1
   exact ⟨k,o,p,a1,a2,hp,by rw [s1 j k hj]; exact hp,.inr ⟨j,hj,rfl⟩⟩
 have final:HRel σ2 (aget (appU H us)) w':=by
  refine ⟨fun m o hm' => ?_,fun m m' o o' q q' h1 h2 hq hq' he => ?_⟩
  ·rcases parts m o hm' with hx | ⟨hno,ho⟩
   ·obtain ⟨k,u,p,a1,a2,a3,a4,a5,a6,a7⟩:=key m o hx
    obtain ⟨p',hp',hor⟩:=g2.obj k u a1
    rw [a4] at hp'
    cases hp'
    exact ⟨p,a5,a6.orel hout hor⟩
   ·obtain ⟨p,hp,hor⟩:=hH.obj m o ho
    have hsame:=(g3.old p.blk hor.lt (hnot m o p ho hp hno)).1
    exact ⟨p,s3 m p hp,hor.mono (fun n q hq=>s3 n q hq) hsame⟩
  ·rcases parts m o h1 with hx | ⟨hno,ho⟩ <;> rcases parts m' o' h2 with hx' | ⟨hno',ho'⟩
   ·obtain ⟨k,u,p,a1,a2,a4,a5,a7⟩:=names m o hx
    obtain ⟨k',u',p',b1,b2,b4,b5,b7⟩:=names m' o' hx'
    have eq1:=Option.some.inj (a5.symm.trans hq)
    subst eq1
    have eq2:=Option.some.inj (b5.symm.trans hq')
    subst eq2
    rcases g2.inj k k' u u' p p' a1 b1 a4 b4 he with e | ⟨e,_⟩
    ·subst e
     left
     rcases a7 with ⟨i,e1,i1⟩ | ⟨j,j1,rfl⟩ <;> rcases b7 with ⟨i',e1',i1'⟩ | ⟨j',j1',rfl⟩
     ·have:i=i':=by omega
      subst this
      rw [i1] at i1'
      cases i1'; rfl
     ·have h3:=hkfr k (List.mem_of_getElem? j1')
      have h4:=(List.getElem?_eq_some_iff.1 i1).1
      omega
     ·have h3:=hkfr k (List.mem_of_getElem? j1)
      have h4:=(List.getElem?_eq_some_iff.1 i1').1
      omega
     ·rw [inj_of_nodup hks j1 j1']
    ·rw [a2] at e; cases e
   ·obtain ⟨k,u,p,a1,a2,a4,a5,a7⟩:=names m o hx
    have eq1:=Option.some.inj (a5.symm.trans hq)
    subst eq1
    obtain ⟨p',hp',hor⟩:=hH.obj m' o' ho'
    have eq2:=Option.some.inj ((s3 m' p' hp').symm.trans hq')
    subst eq2
    exact absurd ⟨k,u,p,a1,a2,a4,he⟩ (g3.old p'.blk hor.lt (hnot m' o' p' ho' hp' hno')).2
   ·obtain ⟨k,u,p,a1,a2,a4,a5,a7⟩:=names m' o' hx'
    have eq1:=Option.some.inj (a5.symm.trans hq')
    subst eq1
    obtain ⟨p',hp',hor⟩:=hH.obj m o ho
    have eq2:=Option.some.inj ((s3 m p' hp').symm.trans hq)
    subst eq2
    exact absurd ⟨k,u,p,a1,a2,a4,he.symm⟩ (g3.old p'.blk hor.lt (hnot m o p' ho hp' hno)).2
   ·obtain ⟨p,hp,_⟩:=hH.obj m o ho
    obtain ⟨p',hp',_⟩:=hH.obj m' o' ho'
    have eq1:=Option.some.inj ((s3 m p hp).symm.trans hq)
    have eq2:=Option.some.inj ((s3 m' p' hp').symm.trans hq')
    subst eq1
    subst eq2
    exact hH.inj m m' o o' p p' ho ho' hp hp' he
 have hown2:∀ b,¬ Own σ (aget H) b → ¬ Own σc (aget Hc) b:=fun b hb ho=>by
  obtain ⟨i,n,o,p,a1,a2,a3,a4,a5,a6⟩:=hown b ho
  exact hb ⟨n,o,p,a3,a4,a5,a6⟩
 refine ⟨σ2,v',rfl,hv.vr hout g1,final,⟨fun n p hp=>s3 n p hp,g3.size,g3.os,g3.output,g3.tape,fun b hb hno => ?_⟩,fun n hn=>s2 n hn⟩
 obtain ⟨e1,e2⟩:=g3.old b hb (hown2 b hno)
 refine ⟨e1,fun ⟨m,o,p,a1,a2,a3,a4⟩ => ?_⟩
 rcases parts m o a1 with hx | ⟨hno',ho⟩
 ·obtain ⟨k,u,q,b1,b2,b4,b5,_⟩:=names m o hx
  have eq1:=Option.some.inj (b5.symm.trans a3)
  subst eq1
  exact e2 ⟨k,u,q,b1,b2,b4,a4⟩
 ·obtain ⟨q,hq,_⟩:=hH.obj m o ho
  have eq1:=Option.some.inj ((s3 m q hq).symm.trans a3)
  subst eq1
  exact hno ⟨m,o,q,ho,a2,hq,a4⟩
end Go.Eng
namespace Go.Eng
open Go
def cnS (G:Nat) (ns:List Nat) (v:AVal):Option AVal:=match v with
 | .ptr n off=>match posN n ns 0 with
  | some i=>some (.ptr (G+i) off)
  | none=>none
 | .slice n off len esz=>match posN n ns 0 with
  | some i=>some (.slice (G+i) off len esz)
  | none=>none
 | .mth f n off=>match posN n ns 0 with
  | some i=>some (.mth f (G+i) off)
  | none=>none
 | v=>cond (ltV 0 v) (some v) none
def cnL (G:Nat) (ns:List Nat):List AVal→Option (List AVal)
 | []=>some []
 | v::l=>match cnS G ns v,cnL G ns l with
  | some a,some b=>some (a::b)
  | _,_=>none
def cnV (G:Nat) (ns:List Nat) (v:AVal):Option AVal:=match v with
 | .fn f cap=>match cnL G ns cap with
  | some c=>some (.fn f c)
  | none=>none
 | v=>cnS G ns v
def cnW (G:Nat) (ns:List Nat):List AVal→Option (List AVal)
 | []=>some []
 | v::l=>match cnV G ns v,cnW G ns l with
  | some a,some b=>some (a::b)
  | _,_=>none
theorem posN0 {n i:Nat}{ns:List Nat}(h:posN n ns 0=some i):ns[i]? = some n:=by
 have:=(posN_get h).2
 simpa using this
theorem cnS_ok {G:Nat}{ns:List Nat}{v v':AVal}(h:cnS G ns v=some v'):RN (ρ0 G ns) v' v:=by
 unfold cnS at h
 split at h
 ·split at h
  ·rename_i i hi
   cases h
   exact .ptr (.inr ⟨i,rfl,posN0 hi⟩)
  ·cases h
 ·split at h
  ·rename_i i hi
   cases h
   exact .slice (.inr ⟨i,rfl,posN0 hi⟩)
  ·cases h
 ·split at h
  ·rename_i i hi
   cases h
   exact .mth (.inr ⟨i,rfl,posN0 hi⟩)
  ·cases h
 ·cases hb:ltV 0 v <;> rw [hb] at h
  ·cases h
  ·cases h
   exact .same hb
theorem cnL_ok {G:Nat}{ns:List Nat}:∀ {l l':List AVal},cnL G ns l=some l'→RL (ρ0 G ns) l' l
 | [],l',h=>by cases h; exact RL.nil _
 | v::l,l',h=>by
  simp only [cnL] at h
  split at h
  ·rename_i a b ha hb
   cases h
   exact RL.cons (cnS_ok ha) (cnL_ok hb)
  ·cases h
theorem cnV_ok {G:Nat}{ns:List Nat}{v v':AVal}(h:cnV G ns v=some v'):RN (ρ0 G ns) v' v:=by
 unfold cnV at h
 split at h
 ·split at h
  ·rename_i c hc
   cases h
   exact .fnL (cnL_ok hc)
  ·cases h
 ·exact cnS_ok h
theorem cnW_ok {G:Nat}{ns:List Nat}:∀ {l l':List AVal},cnW G ns l=some l'→RL (ρ0 G ns) l' l
 | [],l',h=>by cases h; exact RL.nil _
 | v::l,l',h=>by
  simp only [cnW] at h
  split at h
  ·rename_i a b ha hb
   cases h
   exact RL.cons (cnV_ok ha) (cnW_ok hb)
  ·cases h
def unN (G:Nat) (ns:List Nat) (k:Nat):Option Nat:=cond (Nat.ble G k) (ns[k - G]?) none
theorem unN_ok {G:Nat}{ns:List Nat}{k n:Nat}(h:unN G ns k=some n):ρ0 G ns k n:=by
 unfold unN at h
 cases hb:Nat.ble G k <;> rw [hb] at h
 ·cases h
 ·exact .inr ⟨k - G,by have:=Nat.le_of_ble_eq_true hb; omega,h⟩
def unS (G:Nat) (ns:List Nat) (v:AVal):Option AVal:=match v with
 | .ptr k off=>match unN G ns k with
  | some n=>some (.ptr n off)
  | none=>none
 | .slice k off len esz=>match unN G ns k with
  | some n=>some (.slice n off len esz)
  | none=>none
 | v=>cond (ltV 0 v) (some v) none
def unW (G:Nat) (ns:List Nat):List AVal→Option (List AVal)
 | []=>some []
 | v::l=>match unS G ns v,unW G ns l with
  | some a,some b=>some (a::b)
  | _,_=>none
theorem unS_ok {G base:Nat}{ns:List Nat}{v v':AVal}(h:unS G ns v=some v'):RN (ρ1 G ns [] base) v v':=by
 unfold unS at h
 split at h
 ·split at h
  ·rename_i n hn
   cases h
   exact .ptr (.inl (unN_ok hn))
  ·cases h
 ·split at h
  ·rename_i n hn
   cases h
   exact .slice (.inl (unN_ok hn))
  ·cases h
 ·cases hb:ltV 0 v <;> rw [hb] at h
  ·cases h
  ·cases h
   exact .same hb
theorem unW_ok {G base:Nat}{ns:List Nat}:∀ {l l':List AVal},unW G ns l=some l'→RL (ρ1 G ns [] base) l l'
 | [],l',h=>by cases h; exact RL.nil _
 | v::l,l',h=>by
  simp only [unW] at h
  split at h
  ·rename_i a b ha hb
   cases h
   exact RL.cons (unS_ok ha) (unW_ok hb)
  ·cases h
def nmS:AVal→List Nat
 | .ptr n _=>[n]
 | .slice n _ _ _=>[n]
 | .mth _ n _=>[n]
 | _=>[]
def nmV:AVal→List Nat
 | .fn _ cap=>cap.flatMap nmS
 | v=>nmS v
def addN:List Nat→List Nat→List Nat
 | seen,[]=>seen
 | seen,n::l=>addN (cond (seen.any (Nat.beq n)) seen (seen++[n])) l
def lead (η:Nat→Option AObj) (n:Nat):List Nat:=match η n with
 | some (.cells _ c)=>c.flatMap nmV
 | some (.mp c)=>c.flatMap nmV
 | none=>[]
def reach (η:Nat→Option AObj) (args:List AVal):List Nat:=
 let a:=addN [] (args.flatMap nmV)
 let b:=addN a (a.flatMap (lead η))
 addN b (b.flatMap (lead η))
def blD (G:Nat) (η:Nat→Option AObj) (ns:List Nat):List Nat→Nat→Option HL
 | [],_=>some []
 | n::l,i=>match η n,blD G η ns l (i+1) with
  | some (.cells false c),some H=>match cnW G ns c with
   | some c'=>some ((G+i,.cells false c')::H)
   | none=>none
  | _,_=>none
theorem blD_ok {G:Nat}{η:Nat→Option AObj}{ns:List Nat}:∀ {l:List Nat}{i:Nat}{H:HL},blD G η ns l i=some H →
  (∀ k o,aget H k=some o→∃ (j n:Nat) (c c':List AVal),k=G+(i+j)∧l[j]? = some n∧η n=some (.cells false c)∧o=.cells false c'∧RL (ρ0 G ns) c' c)∧∀ (j n:Nat),l[j]? = some n→∃ c,η n=some (.cells false c)
 | [],i,H,h=>by
  cases h
  exact ⟨(fun k o hk=>by cases hk),(fun j n hj=>by simp at hj)⟩
 | n::l,i,H,h=>by
  simp only [blD] at h
  split at h
  ·rename_i c H1 hn h1
   split at h
   ·rename_i c' hc
    cases h
    obtain ⟨a,b⟩:=blD_ok h1
    refine ⟨fun k o hk => ?_,fun j m hj => ?_⟩
    ·simp only [aget] at hk
     rcases beq_cases (G+i) k with ⟨e,hb⟩ | ⟨e,hb⟩ <;> rw [hb] at hk
     ·simp only [cond_true,Option.some.injEq] at hk
      subst hk
      exact ⟨0,n,c,c',by omega,rfl,hn,rfl,cnW_ok hc⟩
     ·simp only [cond_false] at hk
      obtain ⟨j,m,d,d',e1,e2,e3,e4,e5⟩:=a k o hk
      exact ⟨j+1,m,d,d',by omega,by simpa using e2,e3,e4,e5⟩
    ·cases j with
     | zero=>simp at hj; subst hj; exact ⟨c,hn⟩
     | succ j=>exact b j m (by simpa using hj)
   ·cases h
  ·cases h
def bkD (G:Nat) (H':HL) (ns:List Nat):List Nat→Nat→Option (List (Nat × Option AObj))
 | [],_=>some []
 | n::l,i=>match bkD G H' ns l (i+1),aget H' (G+i) with
  | some us,some (.cells false c)=>match unW G ns c with
   | some c'=>some ((n,some (.cells false c'))::us)
   | none=>none
  | _,_=>none
theorem bkD_ok {G base:Nat}{H':HL}{ns:List Nat}:∀ {l:List Nat}{i:Nat}{us:List (Nat × Option AObj)},bkD G H' ns l i=some us →
  us.map (·.1)=l∧∀ m x,(m,x) ∈ us→∃ (j:Nat) (c c':List AVal),l[j]? = some m∧x=some (.cells false c')∧aget H' (G+(i+j))=some (.cells false c)∧RL (ρ1 G ns [] base) c c'
 | [],i,us,h=>by
  cases h
  exact ⟨rfl,(fun m x hm=>by cases hm)⟩
 | n::l,i,us,h=>by
  simp only [bkD] at h
  split at h
  ·rename_i us1 c h1 hc
   split at h
   ·rename_i c' hu
    cases h
    obtain ⟨a,b⟩:=bkD_ok h1
    refine ⟨by rw [List.map_cons,a],fun m x hm => ?_⟩
    rcases List.mem_cons.1 hm with e | hm
    ·cases e
     exact ⟨0,c,c',rfl,rfl,hc,unW_ok hu⟩
    ·obtain ⟨j,d,d',e1,e2,e3,e4⟩:=b m x hm
     exact ⟨j+1,d,d',by simpa using e1,e2,by rw [show i+(j+1)=i+1+j by omega]; exact e3,e4⟩
   ·cases h
  ·cases h
def inlK (P:Program) (cs:CS) (nn F:Nat) (f:FuncId) (args:List AVal) (η:Nat→Option AObj) (ns:List Nat):Option (AVal × List (Nat × Option AObj)):=
 match cond (nodupB ns) (cnW P.globals.size ns args) none with
 | none=>none
 | some cargs=>match blD P.globals.size η ns ns 0 with
  | none=>none
  | some Hc=>match run1 P cs nn F f cargs Hc (P.globals.size+ns.length) with
   | none=>none
   | some (v0,H',_)=>match unS P.globals.size ns v0,bkD P.globals.size H' ns ns 0 with
    | some v,some us=>some (v,us)
    | _,_=>none
def inlE (P:Program) (cs:CS) (nn F:Nat) (f:FuncId) (args:List AVal):EffA:=.eff fun _ η=>inlK P cs nn F f args η (reach η args)
theorem inlN_ok {P:Program}{cs:CS}(hcs:CSOk P cs) (hm:P.follows .mixedOrders=true){nn F:Nat}{f:FuncId}{args:List AVal}{g:(Nat→Option AObj)→List Nat}:CallOk P f args (.eff fun _ η=>inlK P cs nn F f args η (g η)):=by
 refine callOk_deep hcs hm fun base η v us hK => ?_
 generalize g η=ns at hK
 unfold inlK at hK
 split at hK
 ·cases hK
 ·rename_i cargs hc
  cases hnd:nodupB ns with
  | false=>rw [hnd] at hc; cases hc
  | true =>
   rw [hnd,cond_true] at hc
   split at hK
   ·cases hK
   ·rename_i Hc hH
    split at hK
    ·cases hK
    ·rename_i v0 H' fr' hr
     split at hK
     ·rename_i v1 us1 hv hu
      cases hK
      obtain ⟨b1,b2⟩:=blD_ok hH
      obtain ⟨u1,u2⟩:=bkD_ok (base:=base) hu
      have hn:=nodupB_ok hnd
      refine ⟨{ nn:=nn,F:=F,ns:=ns,ks:=[],cargs:=cargs,Hc:=Hc,fr:=P.globals.size+ns.length,v0:=v0,H':=H',fr':=fr',hns:=hn,hη:=fun n hn => ?_,hargs:=cnW_ok hc,hblk:=fun k o hk => ?_,hfr:=Nat.le_refl _,hrun:=hr,hks:=List.nodup_nil,hks8:=Nat.zero_le _,hkfr:=fun k hk=>(nomatch hk),hv:=unS_ok hv,hnd:=?_,hus:=fun m x hm => ?_,hall:=fun i n o hi ho hro => ?_ }⟩
      ·obtain ⟨j,hj⟩:=List.getElem?_of_mem hn
       obtain ⟨c,hc⟩:=b2 j n hj
       exact .inl ⟨_,hc⟩
      ·obtain ⟨j,n,c,c',e1,e2,e3,e4,e5⟩:=b1 k o hk
       exact ⟨n,_,.inr ⟨j,by omega,e2⟩,e3,.inl ⟨false,c',c,e4,rfl,e5⟩,fun hk=>by omega⟩
      ·rw [u1]; exact hn
      ·obtain ⟨j,c,c',e1,e2,e3,e4⟩:=u2 m x hm
       exact .inl ⟨j,e1,.inr ⟨_,_,e2,by rw [Nat.zero_add] at e3; exact e3,rfl,.inl ⟨false,c,c',rfl,rfl,e4⟩⟩⟩
      ·have:n ∈ us.map (·.1):=by rw [u1]; exact List.mem_of_getElem? hi
       obtain ⟨p,hp,e⟩:=List.mem_map.1 this
       exact ⟨p.2,by rw [← e]; exact hp⟩
     ·cases hK
theorem inlE_ok {P:Program}{cs:CS}(hcs:CSOk P cs) (hm:P.follows .mixedOrders=true){nn F:Nat}{f:FuncId}{args:List AVal}:CallOk P f args (inlE P cs nn F f args):=inlN_ok hcs hm
def inlD (P:Program) (nn:FuncId→Nat) (F:Nat) (cs:CS):Nat→CS
 | 0=>cs
 | k+1=>fun f args=>match cs f args with
  | some e=>some e
  | none=>cond (allV args) (match run1 P (inlD P nn F cs k) (nn f) F f args [] P.globals.size with
   | some (v,_,_)=>cond (ltV 0 v) (some (.pure v)) (some (inlE P (inlD P nn F cs k) (nn f) F f args))
   | none=>some (inlE P (inlD P nn F cs k) (nn f) F f args)) (some (inlE P (inlD P nn F cs k) (nn f) F f args))
theorem inlD_ok {P:Program}{nn:FuncId→Nat}{F:Nat}{cs:CS}(hm:P.follows .mixedOrders=true) (hcs:CSOk P cs):∀ k,CSOk P (inlD P nn F cs k)
 | 0=>hcs
 | k+1=>fun f args e he=>by
  have ih:=inlD_ok hm hcs (nn:=nn) (F:=F) k
  simp only [inlD] at he
  split at he
  ·rename_i e1 h1
   cases he
   exact hcs f args _ h1
  ·cases ha:allV args with
   | false =>
    rw [ha,cond_false] at he
    cases he
    exact inlE_ok ih hm
   | true =>
    rw [ha,cond_true] at he
    split at he
    ·rename_i v H' fr' hr
     cases hv:ltV 0 v with
     | false =>
      rw [hv,cond_false] at he
      cases he
      exact inlE_ok ih hm
     | true =>
      rw [hv,cond_true] at he
      cases he
      exact callOk_run ih hm hr ha hv
    ·cases he
     exact inlE_ok ih hm
end Go.Eng
namespace Go.Eng
open Go
theorem inlE_app {P:Program}{cs:CS}{nn F:Nat}{f:FuncId}{args cargs:List AVal}{base G:Nat}{H Hc H1:HL}{ns:List Nat}{fr':Nat}{v v0:AVal}{us:List (Nat × Option AObj)}
  (hG:P.globals.size=G) (hns:reach (aget H) args=ns) (hnd:nodupB ns=true) (hc:cnW G ns args=some cargs) (hb:blD G (aget H) ns ns 0=some Hc)
  (hr:run1 P cs nn F f cargs Hc (G+ns.length)=some (v0,H1,fr')) (hv:unS G ns v0=some v) (hk:bkD G H1 ns ns 0=some us):(inlE P cs nn F f args).app base H=some (v,appU H us):=by
 subst hG
 unfold inlE
 simp only [EffA.app]
 rw [hns]
 unfold inlK
 rw [hnd,cond_true,hc]
 simp only
 rw [hb]
 simp only
 rw [hr]
 simp only
 rw [hv,hk]
end Go.Eng
namespace Go.Eng
def ansM (ns:List Nat) (x:Option ((AVal × HL × Nat) × List Bool)):Option (AVal × List (Option AObj) × List Bool):=
 match x with
 | some ((v,H,_),ob)=>some (v,ns.map (aget H),ob)
 | none=>none
end Go.Eng
namespace Go.Eng
open Go
def bkL (G:Nat) (ns:List Nat):List Nat→List (Option AObj)→Option (List (Nat × Option AObj))
 | n::l,some (.cells false c)::L=>match bkL G ns l L,unW G ns c with
  | some us,some c'=>some ((n,some (.cells false c'))::us)
  | _,_=>none
 | [],[]=>some []
 | _,_=>none
theorem bkL_ok {G:Nat}{H1:HL}{ns:List Nat}:∀ {l:List Nat}{i:Nat}{L:List (Option AObj)}{us:List (Nat × Option AObj)},(List.range' (G+i) l.length).map (aget H1)=L→bkL G ns l L=some us→bkD G H1 ns l i=some us
 | [],i,L,us,h1,h2=>by
  subst h1
  simp only [List.length_nil,List.range'_zero,List.map_nil,bkL,Option.some.injEq] at h2
  simp only [bkD,h2]
 | n::l,i,L,us,h1,h2=>by
  subst h1
  rw [List.length_cons,List.range'_succ,List.map_cons] at h2
  generalize ho:aget H1 (G+i)=o at h2
  unfold bkL at h2
  split at h2
  ·rename_i n' l' c L' e1 e2
   cases e1
   cases e2
   split at h2
   ·rename_i us1 c' hx hc
    cases h2
    have:=bkL_ok (i:=i+1) (by rfl) hx
    simp only [bkD,this,ho,hc]
   ·cases h2
  ·rename_i e1 e2
   cases e1
  ·cases h2
theorem inlE_run {P:Program}{cs:CS}{ps:PS}(hps:PSOk ps cs){nn F:Nat}{f:FuncId}{args cargs:List AVal}{base G:Nat}{H Hc:HL}{ns:List Nat}{v v0:AVal}{us:List (Nat × Option AObj)}
  {sy:List Nat} {os:List Bool} {vs:List AVal} {L:List (Option AObj)} {ob:List Bool}
  (hr:ansM (List.range' G ns.length) (run1O P ps cs sy os vs nn F f cargs Hc (G+ns.length))=some (v0,L,ob)) (ha:allT ob=true)
  (hG:P.globals.size=G) (hns:reach (aget H) args=ns) (hnd:nodupB ns=true) (hc:cnW G ns args=some cargs) (hb:blD G (aget H) ns ns 0=some Hc)
  (hv:unS G ns v0=some v) (hk:bkL G ns ns L=some us):(inlE P cs nn F f args).app base H=some (v,appU H us):=by
 unfold ansM at hr
 split at hr
 ·rename_i v' H' fr' ob' hx
  simp only [Option.some.injEq,Prod.mk.injEq] at hr
  obtain ⟨rfl,hL,rfl⟩:=hr
  exact inlE_app hG hns hnd hc hb (run1O_ok hps hx ha) hv (bkL_ok (i:=0) hL hk)
 ·cases hr
end Go.Eng
namespace Go.Proofs.YtlchjbidkdokmaaGreatDoor.Bk
open Go Go.Eng Go.Num
def cellsW (n:Nat) (f:Nat→UInt32):List AVal:=(List.range n).map fun j=>.u32 (f j)
noncomputable def nU (k:Nat):CS:=inlD Tryz.prog mask 200 noCS k
theorem nU_ok (k:Nat):CSOk Tryz.prog (nU k):=inlD_ok hmix (noCS_ok _) k
end Go.Proofs.YtlchjbidkdokmaaGreatDoor.Bk
namespace Go.Bla
open Go Go.Eng
def rotC (x:UInt32) (k:Nat):UInt32:=shl_u32 x k ||| shr_u32 x (32 - k)
structure Q4 where
 a:UInt32
 b:UInt32
 c:UInt32
 d:UInt32
def hfA (q:Q4) (x:UInt32):UInt32:=q.a+(q.b+x)
def hfD (q:Q4) (x:UInt32) (k:Nat):UInt32:=rotC (q.d ^^^ hfA q x) k
def hfC (q:Q4) (x:UInt32) (k:Nat):UInt32:=q.c+hfD q x k
def hf (q:Q4) (x:UInt32) (k l:Nat):Q4:=⟨hfA q x,rotC (q.b ^^^ hfC q x k) l,hfC q x k,hfD q x k⟩
def mix4 (q:Q4) (x y:UInt32):Q4:=hf (hf q x 16 20) y 24 25
def put4 (v:Nat→UInt32) (a b c d:Nat) (q:Q4):Nat→UInt32:=updF (updF (updF (updF v a q.a) b q.b) c q.c) d q.d
def mixF (v:Nat→UInt32) (a b c d:Nat) (x y:UInt32):Nat→UInt32:=put4 v a b c d (mix4 ⟨v a,v b,v c,v d⟩ x y)
def pl (i k:Nat):Nat:=cond (Nat.ble 4 k) (4 * i+(k - 4+i) % 4) (4 * i+k)
def mixK (k:Nat) (v:Nat→UInt32) (x y:UInt32):Nat→UInt32:=mixF v (pl 0 k) (pl 1 k) (pl 2 k) (pl 3 k) x y
def ordL:List (List Nat):=[
 [0,1,2,3,4,5,6,7,8,9,10,11,12,13,14,15],
 [14,10,4,8,9,15,13,6,1,12,0,2,11,7,5,3],
 [11,8,12,0,5,2,15,13,10,14,3,6,7,1,9,4],
 [7,9,3,1,13,12,11,14,2,6,5,10,4,0,15,8],
 [9,0,5,7,2,4,10,15,14,1,11,12,6,8,3,13],
 [2,12,6,10,0,11,8,3,4,13,7,5,15,14,1,9],
 [12,5,1,15,14,13,4,10,0,7,6,3,9,2,8,11],
 [13,11,7,14,12,1,3,9,5,0,15,4,8,6,2,10],
 [6,15,14,9,11,3,0,8,12,2,13,7,1,4,10,5],
 [10,2,8,4,7,6,1,5,15,11,9,14,3,12,13,0]]
def ord (r i:Nat):Nat:=(ordL.getD r []).getD i 0
def stepR (m:Nat→UInt32) (r k:Nat) (v:Nat→UInt32):Nat→UInt32:=mixK k v (m (ord r (2 * k))) (m (ord r (2 * k+1)))
def roundR (m:Nat→UInt32) (r:Nat) (v:Nat→UInt32):Nat→UInt32:=stepR m r 7 (stepR m r 6 (stepR m r 5 (stepR m r 4 (stepR m r 3 (stepR m r 2 (stepR m r 1 (stepR m r 0 v)))))))
def rounds (m:Nat→UInt32):Nat→(Nat→UInt32)→Nat→UInt32
 | 0,v=>v
 | r+1,v=>roundR m r (rounds m r v)
def firstL:List UInt32:=[0x6a09e667,0xbb67ae85,0x3c6ef372,0xa54ff53a,0x510e527f,0x9b05688c,0x1f83d9ab,0x5be0cd19]
def iv (i:Nat):UInt32:=firstL.getD i 0
end Go.Bla
namespace Go.Proofs.YtlchjbidkdokmaaGreatDoor.Bk
open Go Go.Eng Go.Num Go.Bla
noncomputable def mxE (n:Nat) (k:Nat) (w v:Nat):EffA:=inlE Tryz.prog (nU (n+1)) (mask 194) 200 194 [.int .i64 (pl 0 k:Nat),.int .i64 (pl 1 k:Nat),.int .i64 (pl 2 k:Nat),.int .i64 (pl 3 k:Nat),.slice w 0 2 1,.ptr v 0]
theorem mxR (n:Nat) (v:Nat→UInt32) (x y:UInt32):(k:Nat)→k < 8→ansM [5,6] (run1O Tryz.prog noPS (nU (n+1)) [] [] [] (mask 194) 200 194 [.int .i64 (pl 0 k:Nat),.int .i64 (pl 1 k:Nat),.int .i64 (pl 2 k:Nat),.int .i64 (pl 3 k:Nat),.slice 5 0 2 1,.ptr 6 0] [(5,.cells false [.u32 x,.u32 y]),(6,.cells false (cellsW 16 v))] 7)=some (.tup [],[some (.cells false [.u32 x,.u32 y]),some (.cells false (cellsW 16 (mixK k v x y)))],[])
 | 0,_=>by kernel_rfl
 | 1,_=>by kernel_rfl
 | 2,_=>by kernel_rfl
 | 3,_=>by kernel_rfl
 | 4,_=>by kernel_rfl
 | 5,_=>by kernel_rfl
 | 6,_=>by kernel_rfl
 | 7,_=>by kernel_rfl
end Go.Proofs.YtlchjbidkdokmaaGreatDoor.Bk
namespace Go.Eng
theorem callOk_same2 {P:Program}{f:FuncId}{args:List AVal}{e e':EffA}(h:CallOk P f args e) (hx:∀ base H v H',e'.app base H=some (v,H')→∃ H2,e.app base H=some (v,H2)∧aget H2=aget H'):CallOk P f args e':=by
 intro σ args' H w base v H' hl hg hH happ hfree
 obtain ⟨H2,h1,h2⟩:=hx base H v H' happ
 have r:=h σ args' H w base v H2 hl hg hH h1 hfree
 rw [h2] at r
 exact r
end Go.Eng
namespace Go.Eng
def finM (P:Program) (fn:Func) (ns:List Nat):Option (XA × SA)→Option (AVal × List (Option AObj))
 | none=>none
 | some (.exit _,_)=>none
 | some (_,s)=>match resA P s.T s.H fn.results.toList with
  | none=>none
  | some [v]=>some (v,ns.map (aget s.H))
  | some vs=>some (.tup vs,ns.map (aget s.H))
def ansR (ns:List Nat) (x:Option (AVal × HL × Nat)):Option (AVal × List (Option AObj)):=
 match x with
 | some (v,H,_)=>some (v,ns.map (aget H))
 | none=>none
theorem run1_M {P:Program}{cs:CS}{nn F:Nat}{f:FuncId}{fn:Func}{c:Code}{args:List AVal}{H:HL}{fr:Nat}(ns:List Nat) (hf:P.funcs[f]? = some fn) (hb:fn.body=some c) (hn:Nat.ble args.length fn.ntmps=true) :
  ansR ns (run1 P cs nn F f args H fr)=finM P fn ns (evS P cs fn.ntmps nn F fr (pieces c) ⟨startT args 0,H,fr⟩):=by
 unfold run1
 simp only [hf,hb]
 unfold runF
 rw [hn,evC_pieces]
 cases evS P cs fn.ntmps nn F fr (pieces c) ⟨startT args 0,H,fr⟩ with
 | none=>rfl
 | some p =>
  obtain ⟨x,s⟩:=p
  cases x with
  | exit id=>rfl
  | normal =>
   simp only [cond_true,finM]
   cases resA P s.T s.H fn.results.toList with
   | none=>rfl
   | some vs=>match vs with
    | []=>rfl
    | [_]=>rfl
    | _::_::_=>rfl
  | ret =>
   simp only [cond_true,finM]
   cases resA P s.T s.H fn.results.toList with
   | none=>rfl
   | some vs=>match vs with
    | []=>rfl
    | [_]=>rfl
    | _::_::_=>rfl
def ansG (P:Program) (fn:Func) (ns:List Nat) (x:Option (XA × SA × OS)):Option (AVal × List (Option AObj) × List Bool):=
 match x with
 | some (x,s,q)=>match finM P fn ns (some (x,s)) with
  | some (v,h)=>some (v,h,q.ob)
  | none=>none
 | none=>none
theorem ansG_some {P:Program}{fn:Func}{ns:List Nat}{x:XA}{s:SA}{q:OS}{v:AVal}{h:List (Option AObj)}{ob:List Bool}(e:ansG P fn ns (some (x,s,q))=some (v,h,ob)):finM P fn ns (some (x,s))=some (v,h)∧q.ob=ob:=by
 unfold ansG at e
 simp only at e
 cases hv:finM P fn ns (some (x,s)) with
 | none=>simp only [hv] at e; cases e
 | some u =>
  obtain ⟨u1,u2⟩:=u
  simp only [hv,Option.some.injEq,Prod.mk.injEq] at e
  obtain ⟨rfl,rfl,rfl⟩:=e
  exact ⟨rfl,rfl⟩
theorem ansG_ok {P:Program}{ps:PS}{cs:CS}(hps:PSOk ps cs){sy:List Nat}{fn:Func}{ns:List Nat}{nt nn F bs:Nat}{l:List Code}{s:SA}{q:OS}{v:AVal}{h:List (Option AObj)}{ob:List Bool}(e:ansG P fn ns (evSO P ps cs sy nt nn F bs l s q)=some (v,h,ob)) (ha:allT ob=true):finM P fn ns (evS P cs nt nn F bs l s)=some (v,h)∧allT q.ob=true:=by
 cases hx:evSO P ps cs sy nt nn F bs l s q with
 | none=>rw [hx] at e; cases e
 | some r =>
  obtain ⟨x,s',q'⟩:=r
  rw [hx] at e
  obtain ⟨h1,h2⟩:=ansG_some e
  have h3:=evSO_ok hps l s q x s' q' hx (by rw [h2]; exact ha)
  exact ⟨by rw [h3.1]; exact h1,h3.2⟩
noncomputable def endM (P:Program) (ps:PS) (cs:CS) (sy:List Nat) (fn:Func) (ns:List Nat) (nn F bs id:Nat) (b:Code) (l:List Code) (s:SA) (q:OS):Option (AVal × List (Option AObj) × List Bool):=
 match evT P ps cs sy fn.ntmps nn F bs b s q with
 | some (.exit id',s1,q1)=>cond (Nat.beq id' id) (ansG P fn ns (evSO P ps cs sy fn.ntmps nn F bs l s1 q1)) none
 | some (.ret,s1,q1)=>ansG P fn ns (some (.ret,s1,q1))
 | _=>none
theorem endM_ok {P:Program}{ps:PS}{cs:CS}(hps:PSOk ps cs){sy:List Nat}{fn:Func}{ns:List Nat}{nn F bs id:Nat}{b:Code}{l:List Code}{s:SA}{os:List Bool}{vs:List AVal}{v:AVal}{hc:List (Option AObj)}{ob:List Bool}(h:endM P ps cs sy fn ns nn F bs id b l s ⟨os,vs,[]⟩=some (v,hc,ob)) (ha:allT ob=true) :
  (∃ s1,evC P cs fn.ntmps nn F bs b s=some (.exit id,s1)∧finM P fn ns (evS P cs fn.ntmps nn F bs l s1)=some (v,hc)) ∨ ∃ s1,evC P cs fn.ntmps nn F bs b s=some (.ret,s1)∧finM P fn ns (some (.ret,s1))=some (v,hc):=by
 unfold endM at h
 split at h
 ·rename_i id' s1 q1 he
  cases hb:Nat.beq id' id with
  | false=>rw [hb] at h; cases h
  | true =>
   rw [hb,cond_true] at h
   have:=Nat.eq_of_beq_eq_true hb
   subst this
   obtain ⟨h1,h2⟩:=ansG_ok hps h ha
   exact .inl ⟨s1,(evT_ok hps b _ _ _ _ _ he h2).1,h1⟩
 ·rename_i s1 q1 he
  obtain ⟨h1,h2⟩:=ansG_some h
  exact .inr ⟨s1,(evT_ok hps b _ _ _ _ _ he (by rw [h2]; exact ha)).1,h1⟩
 ·cases h
theorem loopM {P:Program}{ps:PS}{cs:CS}(hps:PSOk ps cs){nn F bs:Nat}{fn:Func}{c:Code}{ns:List Nat}
  (k:Nat) {id:Nat} {b:Code} (hk:(pieces c)[k]? = some (.block id (.loop b))) (I:Nat→SA) (N:Nat) {sy1:List Nat} {os1:List Bool} {vs1:List AVal} {ob1:List Bool}
  (hstep:∀ j,j < N→roundA (evC P cs fn.ntmps nn F bs b) (headA P bs (I 0)) (I j)=some (I (j+1)))
  {v:AVal} {hc:List (Option AObj)} (hend:endM P ps cs sy1 fn ns nn F bs id b ((pieces c).drop (k+1)) (I N) ⟨os1,vs1,[]⟩=some (v,hc,ob1)) (ha1:allT ob1=true) (hF:N < F) :
  finM P fn ns (evS P cs fn.ntmps nn F bs ((pieces c).drop k) (I 0))=some (v,hc):=by
 rcases endM_ok hps hend ha1 with ⟨s1,h1,h2⟩ | ⟨s1,h1,h2⟩
 ·rw [evS_loop hk I N hstep h1 hF]; exact h2
 ·rw [evS_loopR hk I N hstep h1 hF]; exact h2
theorem preM {P:Program}{ps:PS}{cs:CS}(hps:PSOk ps cs){nn F:Nat}{f:FuncId}{fn:Func}{c:Code}{args:List AVal}{H:HL}{fr:Nat}{ns:List Nat}(hf:P.funcs[f]? = some fn) (hb:fn.body=some c) (hn:Nat.ble args.length fn.ntmps=true)
  (k:Nat) {s:SA} {sy0:List Nat} {os0:List Bool} {vs0:List AVal} {ob0:List Bool}
  (hpre:segO (evSO P ps cs sy0 fn.ntmps nn F fr ((pieces c).take k) ⟨startT args 0,H,fr⟩ ⟨os0,vs0,[]⟩)=some (s,ob0)) (ha0:allT ob0=true)
  {v:AVal} {hc:List (Option AObj)} (h:finM P fn ns (evS P cs fn.ntmps nn F fr ((pieces c).drop k) s)=some (v,hc)):ansR ns (run1 P cs nn F f args H fr)=some (v,hc):=by
 rw [run1_M ns hf hb hn]
 have e:pieces c=(pieces c).take k++(pieces c).drop k:=(List.take_append_drop k (pieces c)).symm
 rw [e,evS_append (segO_pre hps hpre ha0)]
 exact h
theorem run_loopM {P:Program}{ps:PS}{cs:CS}(hps:PSOk ps cs){nn F:Nat}{f:FuncId}{fn:Func}{c:Code}{args:List AVal}{H:HL}{fr:Nat}{ns:List Nat}(hf:P.funcs[f]? = some fn) (hb:fn.body=some c) (hn:Nat.ble args.length fn.ntmps=true)
  (k:Nat) {id:Nat} {b:Code} (hk:(pieces c)[k]? = some (.block id (.loop b))) (I:Nat→SA) (N:Nat) {sy0 sy1:List Nat} {os0 os1:List Bool} {vs0 vs1:List AVal} {ob0 ob1:List Bool}
  (hpre:segO (evSO P ps cs sy0 fn.ntmps nn F fr ((pieces c).take k) ⟨startT args 0,H,fr⟩ ⟨os0,vs0,[]⟩)=some (I 0,ob0)) (ha0:allT ob0=true)
  (hstep:∀ j,j < N→roundA (evC P cs fn.ntmps nn F fr b) (headA P fr (I 0)) (I j)=some (I (j+1)))
  {v:AVal} {hc:List (Option AObj)} (hend:endM P ps cs sy1 fn ns nn F fr id b ((pieces c).drop (k+1)) (I N) ⟨os1,vs1,[]⟩=some (v,hc,ob1)) (ha1:allT ob1=true) (hF:N < F):ansR ns (run1 P cs nn F f args H fr)=some (v,hc):=
 preM hps hf hb hn k hpre ha0 (loopM hps k hk I N hstep hend ha1 hF)
end Go.Eng
namespace Go.Eng
open Go
def hasB (η:Nat→Option AObj) (n:Nat):Bool:=match η n with
 | some _=>true
 | none=>false
theorem hasB_ok {η:Nat→Option AObj}{n:Nat}(h:hasB η n=true):∃ o,η n=some o:=by
 unfold hasB at h
 cases hn:η n with
 | some o=>exact ⟨o,rfl⟩
 | none=>rw [hn] at h; cases h
def goneU (l:List Nat):List (Nat × Option AObj):=l.map fun n=>(n,none)
def inlKS (P:Program) (cs:CS) (g nn F:Nat) (f:FuncId) (m k:Nat) (args:List AVal) (η:Nat→Option AObj) (ns:List Nat):Option (AVal × List (Nat × Option AObj)):=
 match η g with
 | some (.cells true ct)=>cond (ltL 0 ct && (ns.drop m).all (hasB η)) (match cond (nodupB ns) (cnW P.globals.size ns args) none with
  | none=>none
  | some cargs=>match blD P.globals.size η ns (ns.take m) 0 with
   | none=>none
   | some Hc=>match run1 P cs nn F f cargs ((g,.cells true ct)::Hc) (P.globals.size+ns.length) with
    | none=>none
    | some (v0,H',_)=>match unS P.globals.size ns v0,bkD P.globals.size H' ns (ns.take k) 0 with
     | some v,some us=>some (v,us++goneU (ns.drop k))
     | _,_=>none) none
 | _=>none
def inlS (P:Program) (cs:CS) (g nn F:Nat) (f:FuncId) (m k:Nat) (args:List AVal):EffA:=.eff fun _ η=>inlKS P cs g nn F f m k args η (reach η args)
theorem inlS_ok {P:Program}{cs:CS}(hcs:CSOk P cs) (hm:P.follows .mixedOrders=true){g nn F:Nat}(hgl:Nat.blt g P.globals.size=true){f:FuncId}{m k:Nat}{args:List AVal}:CallOk P f args (inlS P cs g nn F f m k args):=by
 have hgl:g < P.globals.size:=by simpa using hgl
 unfold inlS
 refine callOk_deep hcs hm fun base η v us hK => ?_
 generalize reach η args=ns at hK
 unfold inlKS at hK
 split at hK
 rotate_left
 ·cases hK
 rename_i ct hct
 cases hlt:(ltL 0 ct && (ns.drop m).all (hasB η)) with
 | false=>rw [hlt] at hK; cases hK
 | true =>
 rw [hlt,cond_true] at hK
 rw [Bool.and_eq_true] at hlt
 obtain ⟨hlt,hrest⟩:=hlt
 split at hK
 ·cases hK
 ·rename_i cargs hc
  cases hnd:nodupB ns with
  | false=>rw [hnd] at hc; cases hc
  | true =>
   rw [hnd,cond_true] at hc
   split at hK
   ·cases hK
   ·rename_i Hc hH
    split at hK
    ·cases hK
    ·rename_i v0 H' fr' hr
     split at hK
     ·rename_i v1 us1 hv hu
      cases hK
      obtain ⟨b1,b2⟩:=blD_ok hH
      obtain ⟨u1,u2⟩:=bkD_ok (base:=base) hu
      have hn:=nodupB_ok hnd
      have htk:∀ (q j n:Nat),(ns.take q)[j]? = some n→ns[j]? = some n:=fun q j n h=>by
       rw [List.getElem?_take] at h
       split at h
       ·exact h
       ·cases h
      have hg1:(goneU (ns.drop k)).map (·.1)=ns.drop k:=by
       unfold goneU
       rw [List.map_map]
       exact List.map_id _
      refine ⟨{ nn:=nn,F:=F,ns:=ns,ks:=[],cargs:=cargs,Hc:=(g,.cells true ct)::Hc,fr:=P.globals.size+ns.length,v0:=v0,H':=H',fr':=fr',hns:=hn,hη:=fun n hn => ?_,hargs:=cnW_ok hc,hblk:=fun k o hk => ?_,hfr:=Nat.le_refl _,hrun:=hr,hks:=List.nodup_nil,hks8:=Nat.zero_le _,hkfr:=fun k hk=>(nomatch hk),hv:=unS_ok hv,hnd:=?_,hus:=fun m x hm => ?_,hall:=fun i n o hi ho hro => ?_ }⟩
      ·rw [← List.take_append_drop m ns] at hn
       rcases List.mem_append.1 hn with h | h
       ·obtain ⟨j,hj⟩:=List.getElem?_of_mem h
        obtain ⟨c,hc⟩:=b2 j n hj
        exact .inl ⟨_,hc⟩
       ·exact .inl (hasB_ok (List.all_eq_true.1 hrest n h))
      ·simp only [aget] at hk
       rcases beq_cases g k with ⟨e,hb⟩ | ⟨e,hb⟩ <;> rw [hb] at hk
       ·simp only [cond_true,Option.some.injEq] at hk
        subst hk
        subst e
        exact ⟨g,_,.inl ⟨hgl,rfl⟩,hct,.inl ⟨true,ct,ct,rfl,rfl,RL.same hlt⟩,fun _=>rfl⟩
       ·simp only [cond_false] at hk
        obtain ⟨j,n,c,c',e1,e2,e3,e4,e5⟩:=b1 k o hk
        exact ⟨n,_,.inr ⟨j,by omega,htk _ _ _ e2⟩,e3,.inl ⟨false,c',c,e4,rfl,e5⟩,fun hk=>by omega⟩
      ·rw [List.map_append,u1,hg1,List.take_append_drop]; exact hn
      ·rcases List.mem_append.1 hm with hm | hm
       ·obtain ⟨j,c,c',e1,e2,e3,e4⟩:=u2 m x hm
        exact .inl ⟨j,htk _ _ _ e1,.inr ⟨_,_,e2,by rw [Nat.zero_add] at e3; exact e3,rfl,.inl ⟨false,c,c',rfl,rfl,e4⟩⟩⟩
       ·unfold goneU at hm
        rw [List.mem_map] at hm
        obtain ⟨n,hn2,he⟩:=hm
        cases he
        obtain ⟨j,hj⟩:=List.getElem?_of_mem (List.mem_of_mem_drop hn2)
        exact .inl ⟨j,hj,.inl rfl⟩
      ·have:n ∈ (us1++goneU (ns.drop k)).map (·.1):=by rw [List.map_append,u1,hg1,List.take_append_drop]; exact List.mem_of_getElem? hi
       obtain ⟨p,hp,e⟩:=List.mem_map.1 this
       exact ⟨p.2,by rw [← e]; exact hp⟩
     ·cases hK
theorem inlS_run {P:Program}{cs:CS}{g nn F:Nat}{f:FuncId}{m k:Nat}{args cargs:List AVal}{base G:Nat}{H Hc:HL}{ns:List Nat}{v v0:AVal}{us:List (Nat × Option AObj)}{ct:List AVal}{L:List (Option AObj)}
  (hr:ansR (List.range' G (ns.take k).length) (run1 P cs nn F f cargs ((g,.cells true ct)::Hc) (G+ns.length))=some (v0,L))
  (hct:aget H g=some (.cells true ct)) (hlt:ltL 0 ct=true) (hrest:(ns.drop m).all (hasB (aget H))=true)
  (hG:P.globals.size=G) (hns:reach (aget H) args=ns) (hnd:nodupB ns=true) (hc:cnW G ns args=some cargs) (hb:blD G (aget H) ns (ns.take m) 0=some Hc)
  (hv:unS G ns v0=some v) (hk:bkL G ns (ns.take k) L=some us):(inlS P cs g nn F f m k args).app base H=some (v,appU H (us++goneU (ns.drop k))):=by
 subst hG
 unfold ansR at hr
 split at hr
 ·rename_i v' H' fr' h1
  simp only [Option.some.injEq,Prod.mk.injEq] at hr
  obtain ⟨rfl,hL⟩:=hr
  have h2:bkD P.globals.size H' ns (ns.take k) 0=some us:=bkL_ok (i:=0) hL hk
  unfold inlS
  simp only [EffA.app]
  rw [hns]
  unfold inlKS
  rw [hct]
  simp only
  rw [hlt,hrest,Bool.and_self,cond_true,hnd,cond_true,hc]
  simp only
  rw [hb]
  simp only
  rw [h1]
  simp only
  rw [hv,h2]
 ·cases hr
end Go.Eng
namespace Go.Proofs.YtlchjbidkdokmaaGreatDoor.Bk
open Go Go.Eng Go.Num Go.Bla
def ordC:List AVal:=(ordL.flatten).map fun n=>.u8 (UInt8.ofNat n)
def hC (h:Nat→UInt32) (rest:AVal) (n:UInt64):List AVal:=cellsW 8 h++[.int .i64 32,rest,.u64 n]
def mW (p:Nat→UInt8) (i:Nat):UInt32:=(((0 ||| shl_u32 (p (4 * i)).toUInt32 0) ||| shl_u32 (p (4 * i+1)).toUInt32 8) ||| shl_u32 (p (4 * i+2)).toUInt32 16) ||| shl_u32 (p (4 * i+3)).toUInt32 24
def vW (h:Nat→UInt32) (n:UInt64) (last:Bool) (i:Nat):UInt32:=cond (Nat.blt i 8) (h i) (cond (Nat.beq i 12) (iv 4 ^^^ n.toUInt32) (cond (Nat.beq i 13) (iv 5 ^^^ (shr_u64 n 32).toUInt32) (cond (Nat.beq i 14) (cond last (~~~ (iv 6)) (iv 6)) (iv (i - 8)))))
def raD (d k:Nat):AVal:=cond (Nat.beq d 0) (.slice 6 0 64 1) (.slice 7 0 k 1)
def fr6 (d:Nat):Nat:=cond (Nat.beq d 0) 359 400
def HS6 (d k:Nat) (h:Nat→UInt32) (n:UInt64) (p:Nat→UInt8) (v:Nat→UInt32):HL:=[(0,.cells true ordC),(5,.cells false (hC h (raD d k) n)),(6,.cells false (cellsB 64 p)),(7+d,.cells false (cellsW 16 (mW p))),(15+d,.cells false (cellsW 16 v)),(63+d,.cells false (cellsW 8 iv))]
def SA6 (d k:Nat) (l:Bool) (h:Nat→UInt32) (n:UInt64) (p:Nat→UInt8) (v:Nat→UInt32) (r:Nat):SA:=⟨[(0,.ptr 5 0),(1,.slice 6 0 64 1),(2,.bool l),(6,.ptr (7+d) 0),(7,.ptr (15+d) 0),(17,.slice 6 0 64 1),(18,.int .i64 64),(19,.int .i64 64),(20,.bool false),(10,.ptr (63+d) 0),(67,.bool l),(11,.fn 194 [.ptr (15+d) 0]),(73,.agg ordC),(74,.int .i64 (r:Int))],HS6 d k h n p v,fr6 d⟩
noncomputable def p106:List Code:=pieces (bodyOf Tryz.f177)
noncomputable def b106:Code:=loopOf (p106.getD 12 .skip)
def Hc6 (d k:Nat) (h:Nat→UInt32) (n:UInt64) (p:Nat→UInt8):HL:=[(0,.cells true ordC),(5,.cells false (hC h (raD d k) n)),(6,.cells false (cellsB 64 p))]
theorem preA (h:Nat→UInt32) (n:UInt64) (p:Nat→UInt8):segO (evSO Tryz.prog noPS (nU 3) [] Tryz.f177.ntmps (mask 177) 200 7 (p106.take 12) ⟨startT [.ptr 5 0,.slice 6 0 64 1,.bool false] 0,Hc6 0 64 h n p,7⟩ ⟨[],[],[]⟩)=some (SA6 0 64 false h n p (vW h n false) 0,[]):=by kernel_rfl
theorem preB (k:Nat) (h:Nat→UInt32) (n:UInt64) (p:Nat→UInt8):segO (evSO Tryz.prog noPS (nU 3) [] Tryz.f177.ntmps (mask 177) 200 8 (p106.take 12) ⟨startT [.ptr 5 0,.slice 6 0 64 1,.bool true] 0,Hc6 1 k h n p,8⟩ ⟨[],[],[]⟩)=some (SA6 1 k true h n p (vW h n true) 0,[]):=by kernel_rfl
end Go.Proofs.YtlchjbidkdokmaaGreatDoor.Bk
namespace Go.Proofs.YtlchjbidkdokmaaGreatDoor.Bk
open Go Go.Eng Go.Num Go.Bla
noncomputable def oB (e:EffA) (base:Nat) (H:HL) (v:AVal) (H':HL):Bool:=decP (e.app base H=some (v,H'))
theorem oB_of {e:EffA}{base:Nat}{H H':HL}{v:AVal}(h:e.app base H=some (v,H')):oB e base H v H'=true:=decP_of h
def oC (r:Nat):List AVal:=(ordL.getD r []).map fun n=>.u8 (UInt8.ofNat n)
def wN (d k:Nat):Nat:=fr6 d+cond (Nat.ble 4 k) 304 232
def HRd (d c:Nat) (h:Nat→UInt32) (n:UInt64) (p:Nat→UInt8) (r k:Nat) (v:Nat→UInt32):HL:=HS6 d c h n p v++[(fr6 d+16,.cells false (oC r)),(wN d k,.cells false [.u32 (mW p (ord r (2 * k))),.u32 (mW p (ord r (2 * k+1)))])]
noncomputable def obM (d c:Nat) (h:Nat→UInt32) (n:UInt64) (p:Nat→UInt8) (r k:Nat) (v v':Nat→UInt32):Bool:=oB (mxE 1 k (wN d k) (15+d)) (wN d k+8) (HRd d c h n p r k v) (.tup []) (HRd d c h n p r k v')
def stV (d:Nat) (v:Nat→UInt32):AVal:=.tup [.ptr (15+d) 0,.agg (cellsW 16 v)]
theorem rdA (c:Nat) (h:Nat→UInt32) (n:UInt64) (p:Nat→UInt8) (u v0 v1 v2 v3 v4 v5 v6 v7 v8:Nat→UInt32):(r:Nat)→r < 10→roundO2 Tryz.prog noPS (nU 3) [300102,300136] [] [.tup [],stV 0 v1,.tup [],stV 0 v2,.tup [],stV 0 v3,.tup [],stV 0 v4,.tup [],stV 0 v5,.tup [],stV 0 v6,.tup [],stV 0 v7,.tup [],stV 0 v8] Tryz.f177.ntmps (mask 177) 200 7 b106 (SA6 0 c false h n p u 0) (SA6 0 c false h n p v0 r)=some (SA6 0 c false h n p v8 (r+1),[obM 0 c h n p r 7 v7 v8,obM 0 c h n p r 6 v6 v7,obM 0 c h n p r 5 v5 v6,obM 0 c h n p r 4 v4 v5,obM 0 c h n p r 3 v3 v4,obM 0 c h n p r 2 v2 v3,obM 0 c h n p r 1 v1 v2,obM 0 c h n p r 0 v0 v1])
 | 0,_=>by kernel_rfl
 | 1,_=>by kernel_rfl
 | 2,_=>by kernel_rfl
 | 3,_=>by kernel_rfl
 | 4,_=>by kernel_rfl
 | 5,_=>by kernel_rfl
 | 6,_=>by kernel_rfl
 | 7,_=>by kernel_rfl
 | 8,_=>by kernel_rfl
 | 9,_=>by kernel_rfl
theorem rdB (c:Nat) (h:Nat→UInt32) (n:UInt64) (p:Nat→UInt8) (u v0 v1 v2 v3 v4 v5 v6 v7 v8:Nat→UInt32):(r:Nat)→r < 10→roundO2 Tryz.prog noPS (nU 3) [300102,300136] [] [.tup [],stV 1 v1,.tup [],stV 1 v2,.tup [],stV 1 v3,.tup [],stV 1 v4,.tup [],stV 1 v5,.tup [],stV 1 v6,.tup [],stV 1 v7,.tup [],stV 1 v8] Tryz.f177.ntmps (mask 177) 200 8 b106 (SA6 1 c true h n p u 0) (SA6 1 c true h n p v0 r)=some (SA6 1 c true h n p v8 (r+1),[obM 1 c h n p r 7 v7 v8,obM 1 c h n p r 6 v6 v7,obM 1 c h n p r 5 v5 v6,obM 1 c h n p r 4 v4 v5,obM 1 c h n p r 3 v3 v4,obM 1 c h n p r 2 v2 v3,obM 1 c h n p r 1 v1 v2,obM 1 c h n p r 0 v0 v1])
 | 0,_=>by kernel_rfl
 | 1,_=>by kernel_rfl
 | 2,_=>by kernel_rfl
 | 3,_=>by kernel_rfl
 | 4,_=>by kernel_rfl
 | 5,_=>by kernel_rfl
 | 6,_=>by kernel_rfl
 | 7,_=>by kernel_rfl
 | 8,_=>by kernel_rfl
 | 9,_=>by kernel_rfl
end Go.Proofs.YtlchjbidkdokmaaGreatDoor.Bk
namespace Go.Proofs.YtlchjbidkdokmaaGreatDoor.Bk
open Go Go.Eng Go.Num Go.Bla
theorem gl1:Tryz.prog.globals.size=5:=by kernel_rfl
def mxArgs (k w a:Nat):List AVal:=[.int .i64 (pl 0 k:Nat),.int .i64 (pl 1 k:Nat),.int .i64 (pl 2 k:Nat),.int .i64 (pl 3 k:Nat),.slice w 0 2 1,.ptr a 0]
theorem mxApp (n k:Nat) (hk:k < 8) (w a:Nat) (v:Nat→UInt32) (x y:UInt32){H H':HL}{base:Nat}
  (hre:reach (aget H) (mxArgs k w a)=[w,a])
  (hn:nodupB [w,a]=true) (hc:cnW 5 [w,a] (mxArgs k w a)=some (mxArgs k 5 6))
  (hb:blD 5 (aget H) [w,a] [w,a] 0=some [(5,.cells false [.u32 x,.u32 y]),(6,.cells false (cellsW 16 v))])
  (hk2:bkL 5 [w,a] [w,a] [some (.cells false [.u32 x,.u32 y]),some (.cells false (cellsW 16 (mixK k v x y)))]=some [(w,some (.cells false [.u32 x,.u32 y])),(a,some (.cells false (cellsW 16 (mixK k v x y))))])
  (hH:aset (aset H w (.cells false [.u32 x,.u32 y])) a (.cells false (cellsW 16 (mixK k v x y)))=H') :
  (mxE n k w a).app base H=some (.tup [],H'):=by
 rw [← hH]
 exact inlE_run (noPS_ok _) (ns:=[w,a]) (mxR n v x y k hk) rfl gl1 hre hn hc hb rfl hk2
theorem obA (c:Nat) (h:Nat→UInt32) (n:UInt64) (p:Nat→UInt8) (r:Nat) (v v':Nat→UInt32):(k:Nat)→k < 8→v'=mixK k v (mW p (ord r (2 * k))) (mW p (ord r (2 * k+1)))→obM 0 c h n p r k v v'=true
 | 0,hk,e=>by subst e; exact oB_of (mxApp 1 0 hk (wN 0 0) (15+0) v (mW p (ord r (2 * 0))) (mW p (ord r (2 * 0+1))) (by kernel_rfl) rfl rfl (by kernel_rfl) (by kernel_rfl) (by kernel_rfl))
 | 1,hk,e=>by subst e; exact oB_of (mxApp 1 1 hk (wN 0 1) (15+0) v (mW p (ord r (2 * 1))) (mW p (ord r (2 * 1+1))) (by kernel_rfl) rfl rfl (by kernel_rfl) (by kernel_rfl) (by kernel_rfl))
 | 2,hk,e=>by subst e; exact oB_of (mxApp 1 2 hk (wN 0 2) (15+0) v (mW p (ord r (2 * 2))) (mW p (ord r (2 * 2+1))) (by kernel_rfl) rfl rfl (by kernel_rfl) (by kernel_rfl) (by kernel_rfl))
 | 3,hk,e=>by subst e; exact oB_of (mxApp 1 3 hk (wN 0 3) (15+0) v (mW p (ord r (2 * 3))) (mW p (ord r (2 * 3+1))) (by kernel_rfl) rfl rfl (by kernel_rfl) (by kernel_rfl) (by kernel_rfl))
 | 4,hk,e=>by subst e; exact oB_of (mxApp 1 4 hk (wN 0 4) (15+0) v (mW p (ord r (2 * 4))) (mW p (ord r (2 * 4+1))) (by kernel_rfl) rfl rfl (by kernel_rfl) (by kernel_rfl) (by kernel_rfl))
 | 5,hk,e=>by subst e; exact oB_of (mxApp 1 5 hk (wN 0 5) (15+0) v (mW p (ord r (2 * 5))) (mW p (ord r (2 * 5+1))) (by kernel_rfl) rfl rfl (by kernel_rfl) (by kernel_rfl) (by kernel_rfl))
 | 6,hk,e=>by subst e; exact oB_of (mxApp 1 6 hk (wN 0 6) (15+0) v (mW p (ord r (2 * 6))) (mW p (ord r (2 * 6+1))) (by kernel_rfl) rfl rfl (by kernel_rfl) (by kernel_rfl) (by kernel_rfl))
 | 7,hk,e=>by subst e; exact oB_of (mxApp 1 7 hk (wN 0 7) (15+0) v (mW p (ord r (2 * 7))) (mW p (ord r (2 * 7+1))) (by kernel_rfl) rfl rfl (by kernel_rfl) (by kernel_rfl) (by kernel_rfl))
theorem obB (c:Nat) (h:Nat→UInt32) (n:UInt64) (p:Nat→UInt8) (r:Nat) (v v':Nat→UInt32):(k:Nat)→k < 8→v'=mixK k v (mW p (ord r (2 * k))) (mW p (ord r (2 * k+1)))→obM 1 c h n p r k v v'=true
 | 0,hk,e=>by subst e; exact oB_of (mxApp 1 0 hk (wN 1 0) (15+1) v (mW p (ord r (2 * 0))) (mW p (ord r (2 * 0+1))) (by kernel_rfl) rfl rfl (by kernel_rfl) (by kernel_rfl) (by kernel_rfl))
 | 1,hk,e=>by subst e; exact oB_of (mxApp 1 1 hk (wN 1 1) (15+1) v (mW p (ord r (2 * 1))) (mW p (ord r (2 * 1+1))) (by kernel_rfl) rfl rfl (by kernel_rfl) (by kernel_rfl) (by kernel_rfl))
 | 2,hk,e=>by subst e; exact oB_of (mxApp 1 2 hk (wN 1 2) (15+1) v (mW p (ord r (2 * 2))) (mW p (ord r (2 * 2+1))) (by kernel_rfl) rfl rfl (by kernel_rfl) (by kernel_rfl) (by kernel_rfl))
 | 3,hk,e=>by subst e; exact oB_of (mxApp 1 3 hk (wN 1 3) (15+1) v (mW p (ord r (2 * 3))) (mW p (ord r (2 * 3+1))) (by kernel_rfl) rfl rfl (by kernel_rfl) (by kernel_rfl) (by kernel_rfl))
 | 4,hk,e=>by subst e; exact oB_of (mxApp 1 4 hk (wN 1 4) (15+1) v (mW p (ord r (2 * 4))) (mW p (ord r (2 * 4+1))) (by kernel_rfl) rfl rfl (by kernel_rfl) (by kernel_rfl) (by kernel_rfl))
 | 5,hk,e=>by subst e; exact oB_of (mxApp 1 5 hk (wN 1 5) (15+1) v (mW p (ord r (2 * 5))) (mW p (ord r (2 * 5+1))) (by kernel_rfl) rfl rfl (by kernel_rfl) (by kernel_rfl) (by kernel_rfl))
 | 6,hk,e=>by subst e; exact oB_of (mxApp 1 6 hk (wN 1 6) (15+1) v (mW p (ord r (2 * 6))) (mW p (ord r (2 * 6+1))) (by kernel_rfl) rfl rfl (by kernel_rfl) (by kernel_rfl) (by kernel_rfl))
 | 7,hk,e=>by subst e; exact oB_of (mxApp 1 7 hk (wN 1 7) (15+1) v (mW p (ord r (2 * 7))) (mW p (ord r (2 * 7+1))) (by kernel_rfl) rfl rfl (by kernel_rfl) (by kernel_rfl) (by kernel_rfl))
end Go.Proofs.YtlchjbidkdokmaaGreatDoor.Bk
namespace Go.Proofs.YtlchjbidkdokmaaGreatDoor.Bk
open Go Go.Eng Go.Num Go.Bla
def finF (h v:Nat→UInt32) (i:Nat):UInt32:=h i ^^^ (v i ^^^ v (8+i))
def takeF (h:Nat→UInt32) (n:UInt64) (p:Nat→UInt8) (l:Bool):Nat→UInt32:=finF h (rounds (mW p) 10 (vW h n l))
theorem endA (c:Nat) (h:Nat→UInt32) (n:UInt64) (p:Nat→UInt8) (v:Nat→UInt32):endM Tryz.prog noPS (nU 3) [] Tryz.f177 [5,6] (mask 177) 200 7 2 b106 (p106.drop 13) (SA6 0 c false h n p v 10) ⟨[],[],[]⟩=some (.tup [],[some (.cells false (hC (finF h v) (raD 0 c) n)),some (.cells false (cellsB 64 p))],[]):=by kernel_rfl
theorem endB (c:Nat) (h:Nat→UInt32) (n:UInt64) (p:Nat→UInt8) (v:Nat→UInt32):endM Tryz.prog noPS (nU 3) [] Tryz.f177 [5,6] (mask 177) 200 8 2 b106 (p106.drop 13) (SA6 1 c true h n p v 10) ⟨[],[],[]⟩=some (.tup [],[some (.cells false (hC (finF h v) (raD 1 c) n)),some (.cells false (cellsB 64 p))],[]):=by kernel_rfl
theorem okA (c:Nat) (h:Nat→UInt32) (n:UInt64) (p:Nat→UInt8) (v:Nat→UInt32) (r:Nat):okS Tryz.prog (SA6 0 c false h n p v r)=true:=by kernel_rfl
theorem okB (c:Nat) (h:Nat→UInt32) (n:UInt64) (p:Nat→UInt8) (v:Nat→UInt32) (r:Nat):okS Tryz.prog (SA6 1 c true h n p v r)=true:=by kernel_rfl
theorem at106:Tryz.prog.funcs[177]? = some Tryz.f177:=by kernel_rfl
theorem bo106:Tryz.f177.body=some (bodyOf Tryz.f177):=by kernel_rfl
theorem lp106:(pieces (bodyOf Tryz.f177))[12]? = some (.block 2 (.loop b106)):=by kernel_rfl
def stp (m:Nat→UInt32) (r:Nat) (v:Nat→UInt32):Nat→Nat→UInt32
 | 0=>v
 | j+1=>stepR m r j (stp m r v j)
theorem allM {b:Bool}{l:List Bool}(h:b=true) (t:allT l=true):allT (b::l)=true:=by subst h; exact t
theorem takeA (c:Nat) (h:Nat→UInt32) (n:UInt64) (p:Nat→UInt8):ansR [5,6] (run1 Tryz.prog (nU 3) (mask 177) 200 177 [.ptr 5 0,.slice 6 0 64 1,.bool false] (Hc6 0 c h n p) 7)=some (.tup [],[some (.cells false (hC (takeF h n p false) (raD 0 c) n)),some (.cells false (cellsB 64 p))]):=by
 refine run_loopM (noPS_ok _) (ns:=[5,6]) at106 bo106 rfl 12 lp106 (fun r=>SA6 0 c false h n p (rounds (mW p) r (vW h n false)) r) 10 (sy0:=[]) (os0:=[]) (vs0:=[]) (ob0:=[]) (preA h n p) rfl ?_ (sy1:=[]) (os1:=[]) (vs1:=[]) (ob1:=[]) (endA c h n p _) rfl (by decide)
 intro r hr
 have hx:=rdA c h n p (rounds (mW p) 0 (vW h n false)) (rounds (mW p) r (vW h n false)) (stp (mW p) r (rounds (mW p) r (vW h n false)) 1) (stp (mW p) r (rounds (mW p) r (vW h n false)) 2) (stp (mW p) r (rounds (mW p) r (vW h n false)) 3) (stp (mW p) r (rounds (mW p) r (vW h n false)) 4) (stp (mW p) r (rounds (mW p) r (vW h n false)) 5) (stp (mW p) r (rounds (mW p) r (vW h n false)) 6) (stp (mW p) r (rounds (mW p) r (vW h n false)) 7) (stp (mW p) r (rounds (mW p) r (vW h n false)) 8) r hr
 refine roundO2_ok (noPS_ok _) hx ?_ (okA c h n p _ _)
 exact allM (obA c h n p r _ _ 7 (by decide) rfl) (allM (obA c h n p r _ _ 6 (by decide) rfl) (allM (obA c h n p r _ _ 5 (by decide) rfl) (allM (obA c h n p r _ _ 4 (by decide) rfl) (allM (obA c h n p r _ _ 3 (by decide) rfl) (allM (obA c h n p r _ _ 2 (by decide) rfl) (allM (obA c h n p r _ _ 1 (by decide) rfl) (allM (obA c h n p r _ _ 0 (by decide) rfl) rfl)))))))
theorem takeB (c:Nat) (h:Nat→UInt32) (n:UInt64) (p:Nat→UInt8):ansR [5,6] (run1 Tryz.prog (nU 3) (mask 177) 200 177 [.ptr 5 0,.slice 6 0 64 1,.bool true] (Hc6 1 c h n p) 8)=some (.tup [],[some (.cells false (hC (takeF h n p true) (raD 1 c) n)),some (.cells false (cellsB 64 p))]):=by
 refine run_loopM (noPS_ok _) (ns:=[5,6]) at106 bo106 rfl 12 lp106 (fun r=>SA6 1 c true h n p (rounds (mW p) r (vW h n true)) r) 10 (sy0:=[]) (os0:=[]) (vs0:=[]) (ob0:=[]) (preB c h n p) rfl ?_ (sy1:=[]) (os1:=[]) (vs1:=[]) (ob1:=[]) (endB c h n p _) rfl (by decide)
 intro r hr
 have hx:=rdB c h n p (rounds (mW p) 0 (vW h n true)) (rounds (mW p) r (vW h n true)) (stp (mW p) r (rounds (mW p) r (vW h n true)) 1) (stp (mW p) r (rounds (mW p) r (vW h n true)) 2) (stp (mW p) r (rounds (mW p) r (vW h n true)) 3) (stp (mW p) r (rounds (mW p) r (vW h n true)) 4) (stp (mW p) r (rounds (mW p) r (vW h n true)) 5) (stp (mW p) r (rounds (mW p) r (vW h n true)) 6) (stp (mW p) r (rounds (mW p) r (vW h n true)) 7) (stp (mW p) r (rounds (mW p) r (vW h n true)) 8) r hr
 refine roundO2_ok (noPS_ok _) hx ?_ (okB c h n p _ _)
 exact allM (obB c h n p r _ _ 7 (by decide) rfl) (allM (obB c h n p r _ _ 6 (by decide) rfl) (allM (obB c h n p r _ _ 5 (by decide) rfl) (allM (obB c h n p r _ _ 4 (by decide) rfl) (allM (obB c h n p r _ _ 3 (by decide) rfl) (allM (obB c h n p r _ _ 2 (by decide) rfl) (allM (obB c h n p r _ _ 1 (by decide) rfl) (allM (obB c h n p r _ _ 0 (by decide) rfl) rfl)))))))
noncomputable def tkE (args:List AVal):EffA:=inlS Tryz.prog (nU 3) 0 (mask 177) 200 177 2 2 args
noncomputable def g106:List AVal→Option EffA
 | [.ptr h 0,.slice p 0 64 1,.bool l]=>some (tkE [.ptr h 0,.slice p 0 64 1,.bool l])
 | _=>none
theorem g106_ok:CSOk Tryz.prog (csOne 177 g106):=csOne_ok fun args e he=>by
 unfold g106 at he
 split at he
 ·cases he
  exact inlS_ok (nU_ok _) hmix rfl
 ·cases he
end Go.Proofs.YtlchjbidkdokmaaGreatDoor.Bk
namespace Go.Eng
open Go
noncomputable def headY (dl:List Nat) (P:Program) (bs:Nat) (s0 s:SA) (ob:List Bool):Option (SA × List Bool):=
 match renAllx dl P bs (pairsT s0.fr 0 s0.T s.T) s ob with
 | some (r,ob1)=>cond (okHead P s0 r) none (match renAllx dl P bs (pairsH s0.fr 0 s0.H r.H) r ob1 with
  | some (r2,ob2)=>some (⟨reshape s0.T r2.T,reshapeH s0.H r2.H++extraH s0.H s0.fr r2.H,s0.fr⟩,ob2)
  | none=>none)
 | none=>none
theorem headY_ok {dl:List Nat}{P:Program}{bs:Nat}{s0 s s1:SA}{ob ob':List Bool}(h:headY dl P bs s0 s ob=some (s1,ob')) (ha:allT ob'=true) (ho:okS P s1=true):headA P bs s0 s=s1∧allT ob=true:=by
 unfold headY at h
 split at h
 ·rename_i r ob1 hr
  cases hc:okHead P s0 r with
  | true=>rw [hc] at h; cases h
  | false =>
   rw [hc,cond_false] at h
   split at h
   ·rename_i r2 ob2 hr2
    cases h
    obtain ⟨e2,a2⟩:=renAllx_ok hr2 ha
    obtain ⟨e1,a1⟩:=renAllx_ok hr a2
    refine ⟨?_,a1⟩
    unfold headA headC
    rw [e1,hc,cond_false,e2]
    have ho2:okHead P s0 r2=true:=ho
    rw [ho2,cond_true]
    unfold headB
    unfold okHead at ho2
    rw [ho2,cond_true]
   ·cases h
 ·cases h
noncomputable def roundO4 (dl:List Nat) (P:Program) (ps:PS) (cs:CS) (sy:List Nat) (os:List Bool) (vs:List AVal) (nt nn F bs:Nat) (b:Code) (s0 s:SA):Option (SA × List Bool):=
 match evT P ps cs sy nt nn F bs b s ⟨os,vs,[]⟩ with
 | some (.normal,s',q)=>headY dl P bs s0 s' q.ob
 | _=>none
theorem roundO4_ok {dl:List Nat}{P:Program}{ps:PS}{cs:CS}(hps:PSOk ps cs){sy:List Nat}{os:List Bool}{vs:List AVal}{nt nn F bs:Nat}{b:Code}{s0 s s1:SA}{ob:List Bool}(h:roundO4 dl P ps cs sy os vs nt nn F bs b s0 s=some (s1,ob)) (ha:allT ob=true) (ho:okS P s1=true) :
  roundA (evC P cs nt nn F bs b) (headA P bs s0) s=some s1:=by
 unfold roundO4 at h
 split at h
 ·rename_i s' q hev
  obtain ⟨e1,e2⟩:=headY_ok h ha ho
  simp only [roundA,(evT_ok hps b _ _ _ _ _ hev e2).1,e1]
 ·cases h
noncomputable def newB (g h:Nat) (ct pre:List AVal) (post:Nat→List AVal) (newc:List AVal) (v:AVal):EffA:=.eff fun base η =>
 cond (decP (η g=some (.cells true ct)∧η h=some (.cells false pre)∧h ≠ base)) (some (v,[(h,some (.cells false (post base))),(base,some (.cells false newc))])) none
theorem newB_app {g h base:Nat}{ct pre:List AVal}{post:Nat→List AVal}{newc:List AVal}{v:AVal}{H:HL}(h1:aget H g=some (.cells true ct)) (h2:aget H h=some (.cells false pre)) (h3:h ≠ base) :
  (newB g h ct pre post newc v).app base H=some (v,appU H [(h,some (.cells false (post base))),(base,some (.cells false newc))]):=by
 unfold newB
 simp only [EffA.app]
 rw [decP_of ⟨h1,h2,h3⟩]
 rfl
theorem callOk_new1 {P:Program}{cs:CS}(hcs:CSOk P cs) (hm:P.follows .mixedOrders=true){f:FuncId}{g h nn F fr kk:Nat}{xs ct pre newc:List AVal}{post:Nat→List AVal}{v:AVal}{G:Nat}(hG:P.globals.size=G)
  (hgl:g < G) (hpre:ltL 0 pre=true) (hct:ltL 0 ct=true) (hxs:ltL 0 xs=true) (hnew:ltL 0 newc=true) (hv:ltV 0 v=true) (hpost:∀ (ρ:Nat→Nat→Prop) a b,ρ a b→RL ρ (post a) (post b))
  (hrun:ansR [G,kk] (run1 P cs nn F f (.ptr G 0::xs) [(g,.cells true ct),(G,.cells false pre)] fr)=some (v,[some (.cells false (post kk)),some (.cells false newc)])) (hfr:G+1≤fr) (hkk:fr≤kk) :
  CallOk P f (.ptr h 0::xs) (newB g h ct pre post newc v):=by
 subst hG
 unfold newB
 refine callOk_deep hcs hm fun base η v' us hK => ?_
 cases hd:decP (η g=some (.cells true ct)∧η h=some (.cells false pre)∧h ≠ base) with
 | false=>rw [hd] at hK; cases hK
 | true =>
 rw [hd] at hK
 simp only [cond_true,Option.some.injEq,Prod.mk.injEq] at hK
 obtain ⟨rfl,rfl⟩:=hK
 obtain ⟨h1,h2,h3⟩:=of_decP hd
 unfold ansR at hrun
 split at hrun
 rotate_left
 ·cases hrun
 rename_i v' H' fr' hr
 simp only [Option.some.injEq,Prod.mk.injEq,List.map_cons,List.map_nil,List.cons.injEq,and_true] at hrun
 obtain ⟨rfl,e1,e2⟩:=hrun
 refine ⟨{ nn:=nn,F:=F,ns:=[h],ks:=[kk],cargs:=.ptr P.globals.size 0::xs,Hc:=[(g,.cells true ct),(P.globals.size,.cells false pre)],fr:=fr,v0:=v',H':=H',fr':=fr',hns:=by simp,hη:=fun n hn => ?_,hargs:=RL.cons (.ptr (.inr ⟨0,rfl,rfl⟩)) (RL.same hxs),hblk:=fun k o hk => ?_,hfr:=hfr,hrun:=hr,hks:=by simp,hks8:=by simp,hkfr:=fun k hk => ?_,hv:=.same hv,hnd:=?_,hus:=fun m x hm => ?_,hall:=fun i n o hi ho hro => ?_ }⟩
 ·simp only [List.mem_singleton] at hn
  subst hn
  exact .inl ⟨_,h2⟩
 ·simp only [aget] at hk
  rcases beq_cases g k with ⟨e,hb⟩ | ⟨e,hb⟩ <;> rw [hb] at hk
  ·simp only [cond_true,Option.some.injEq] at hk
   subst hk
   subst e
   exact ⟨g,_,.inl ⟨hgl,rfl⟩,h1,.inl ⟨true,ct,ct,rfl,rfl,RL.same hct⟩,fun _=>rfl⟩
  ·simp only [cond_false] at hk
   rcases beq_cases P.globals.size k with ⟨e',hb'⟩ | ⟨e',hb'⟩ <;> rw [hb'] at hk
   ·simp only [cond_true,Option.some.injEq] at hk
    subst hk
    exact ⟨h,_,.inr ⟨0,by omega,rfl⟩,h2,.inl ⟨false,pre,pre,rfl,rfl,RL.same hpre⟩,fun hk=>by omega⟩
   ·cases hk
 ·simp only [List.mem_singleton] at hk
  subst hk
  exact hkk
 ·simpa using h3
 ·simp only [List.mem_cons,Prod.mk.injEq,List.not_mem_nil,or_false] at hm
  have hp:ρ1 P.globals.size [h] [kk] base kk base:=.inr ⟨0,rfl,rfl⟩
  rcases hm with ⟨rfl,rfl⟩ | ⟨rfl,rfl⟩
  ·exact .inl ⟨0,rfl,.inr ⟨_,_,rfl,e1,rfl,.inl ⟨false,_,_,rfl,rfl,hpost _ _ _ hp⟩⟩⟩
  ·exact .inr ⟨0,kk,_,_,rfl,rfl,rfl,e2,rfl,.inl ⟨false,_,_,rfl,rfl,RL.same hnew⟩⟩
 ·cases i with
  | zero=>simp only [List.getElem?_cons_zero,Option.some.injEq] at hi; subst hi; exact ⟨_,List.mem_cons_self ..⟩
  | succ i=>simp at hi
def mkE (c:List AVal) (mk:Nat→AVal):EffA:=.eff fun base _=>some (mk base,[(base,some (.cells false c))])
def newQ (k:Nat) (x:Option (AVal × HL × Nat)):Option (AVal × List AVal):=match x with
 | some (v,H',_)=>match aget H' k with
  | some (.cells false c)=>some (v,c)
  | _=>none
 | none=>none
theorem callOk_mk {P:Program}{cs:CS}(hcs:CSOk P cs) (hm:P.follows .mixedOrders=true){f:FuncId}{nn F G kk:Nat}{args c:List AVal}{mk:Nat→AVal}(hG:P.globals.size=G) (hargs:ltL 0 args=true) (hc:ltL 0 c=true)
  (hmk:∀ (ρ:Nat→Nat→Prop) a b,ρ a b→RN ρ (mk a) (mk b)) (hrun:newQ kk (run1 P cs nn F f args [] G)=some (mk kk,c)) (hkk:G≤kk):CallOk P f args (mkE c mk):=by
 subst hG
 unfold mkE
 refine callOk_deep hcs hm fun base η v' us hK => ?_
 simp only [Option.some.injEq,Prod.mk.injEq] at hK
 obtain ⟨rfl,rfl⟩:=hK
 unfold newQ at hrun
 split at hrun
 rotate_left
 ·cases hrun
 rename_i v0 H' fr' hr
 split at hrun
 rotate_left
 ·cases hrun
 rename_i c' hk
 simp only [Option.some.injEq,Prod.mk.injEq] at hrun
 obtain ⟨rfl,rfl⟩:=hrun
 have hp:ρ1 P.globals.size [] [kk] base kk base:=.inr ⟨0,rfl,rfl⟩
 refine ⟨{ nn:=nn,F:=F,ns:=[],ks:=[kk],cargs:=args,Hc:=[],fr:=P.globals.size,v0:=mk kk,H':=H',fr':=fr',hns:=List.nodup_nil,hη:=fun n hn=>by (cases hn),hargs:=RL.same hargs,hblk:=fun k o hk=>by (cases hk),hfr:=Nat.le_refl _,hrun:=hr,hks:=by simp,hks8:=by simp,hkfr:=fun k hk=>by (simp only [List.mem_singleton] at hk; subst hk; exact hkk),hv:=hmk _ _ _ hp,hnd:=by simp,hus:=fun m x hm => ?_,hall:=fun i n o hi ho hro=>by (simp at hi) }⟩
 simp only [List.mem_cons,Prod.mk.injEq,List.not_mem_nil,or_false] at hm
 obtain ⟨rfl,rfl⟩:=hm
 exact .inr ⟨0,kk,_,_,rfl,rfl,rfl,hk,rfl,.inl ⟨false,_,_,rfl,rfl,RL.same hc⟩⟩
end Go.Eng
namespace Go.Proofs.YtlchjbidkdokmaaGreatDoor.Bk
open Go Go.Eng Go.Num Go.Bla
def ST (s:List UInt8) (x:Int):TL:=[(0,.ptr 5 0),(1,.str s),(4,.int .i64 0),(14,.bool false),(16,.int .i64 (s.length:Int)),(17,.int .i64 x)]
def I0 (h:Nat→UInt32) (s:List UInt8):SA:=⟨ST s 0,[(0,.cells true ordC),(5,.cells false (hC h .nilSlice 0))],110⟩
def HA (h:Nat→UInt32) (n:UInt64) (k:Nat) (c:List AVal):HL:=[(0,.cells true ordC),(5,.cells false (hC h (.slice 109 0 k 1) n)),(109,.cells false c)]
def IA (h:Nat→UInt32) (n:UInt64) (k:Nat) (c:List AVal) (s:List UInt8) (x:Int):SA:=⟨ST s x,HA h n k c,110⟩
noncomputable def b83:Code:=loopOf ((pieces (bodyOf Tryz.f163)).getD 4 .skip)
def inB (s:List UInt8) (j:Nat):Bool:=decide ((0:Int)≤(j:Int)) && decide ((j:Int) < (s.length:Int))
def ltB (s:List UInt8) (j:Nat):Bool:=decide ((j:Int) < (s.length:Int))
noncomputable def tkO (h h2:Nat→UInt32) (n n2:UInt64) (p:Nat→UInt8):Bool:=oB (tkE [.ptr 5 0,.slice 109 0 64 1,.bool false]) 286 (HA h n 64 (cellsB 64 p)) (.tup []) (HA h2 n2 64 (cellsB 64 p))
def grC (k:Nat) (p:Nat→UInt8) (x:UInt8):List AVal:=((cellsB k p).drop 0).take (k * 1)++[.u8 x]
def grO (k:Nat) (p:Nat→UInt8):Bool:=Nat.ble (0+1 * 1) 1 && (((Nat.ble ((k+1) * 1) 140737488355328 && Nat.ble (k+1) 140737488355328) && true) && Nat.ble (0+k * 1) (cellsB k p).length)
section
variable (F:Nat) (h0 h h2:Nat→UInt32) (n n2:UInt64) (s:List UInt8) (j k:Nat) (p:Nat→UInt8)
theorem pre83:segO (evSO Tryz.prog noPS (csOne 177 g106) [] Tryz.f163.ntmps (mask 163) F 6 ((pieces (bodyOf Tryz.f163)).take 4) ⟨startT [.ptr 5 0,.str s] 0,[(0,.cells true ordC),(5,.cells false (hC h0 .nilSlice 0))],6⟩ ⟨[],[],[]⟩)=some (I0 h0 s,[]):=by kernel_rfl
theorem rn83:roundO4 [] Tryz.prog noPS (csOne 177 g106) [18,54] [true] [] Tryz.f163.ntmps (mask 163) F 6 b83 (I0 h0 s) (I0 h0 s)=some (IA h0 0 1 [.u8 (s.getD 0 0)] s 1,[inB s 0,ltB s 0]):=by kernel_rfl
theorem rm83:roundO4 [254] Tryz.prog noPS (csOne 177 g106) [18,25,54,56] [true,false] [] Tryz.f163.ntmps (mask 163) F 6 b83 (I0 h0 s) (IA h n k (cellsB k p) s (j:Nat))=some (IA h n (k+1) (grC k p (s.getD j 0)) s (IntKind.wrap .i64 ((j:Int)+1)),[ltL 0 (grC k p (s.getD j 0)),grO k p,inB s j,!((k:Int) == 64),ltB s j]):=by kernel_rfl
theorem rf83:roundO4 [] Tryz.prog noPS (csOne 177 g106) [18,54,300038] [true] [.tup [],.tup [.ptr 5 0,.agg (hC h2 (.slice 109 0 64 1) n2),.ptr 109 0,.agg (cellsB 64 p)]] Tryz.f163.ntmps (mask 163) F 6 b83 (I0 h0 s) (IA h n 64 (cellsB 64 p) s (j:Nat))=some (IA h2 n2 1 [.u8 (s.getD j 0)] s (IntKind.wrap .i64 ((j:Int)+1)),[inB s j,tkO h h2 (n+64) n2 p,ltB s j]):=by kernel_rfl
theorem en83 (c:List AVal):endM Tryz.prog noPS (csOne 177 g106) [18] Tryz.f163 [5,109] (mask 163) F 6 0 b83 ((pieces (bodyOf Tryz.f163)).drop 5) (IA h n k c s (j:Nat)) ⟨[false],[],[]⟩=some (.int .i64 0,[some (.cells false (hC h (.slice 109 0 k 1) n)),some (.cells false c)],[!(ltB s j)]):=by kernel_rfl
end
end Go.Proofs.YtlchjbidkdokmaaGreatDoor.Bk
