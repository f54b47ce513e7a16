/- Texts Eng16, Eng17, Eng18, Eng19, Eng22: what they show that this claim uses. -/
import Derived.Test.YthlemfnkmpikjaaDoorM3
import GoSem.ClaimChange
namespace Go.Num
end Go.Num
set_option maxRecDepth 100000
set_option maxHeartbeats 1000000
set_option linter.unusedVariables false
set_option linter.unusedSimpArgs false
namespace Go.Eng
open Go
def startT:List AVal→Nat→TL
 | [],_=>[]
 | v::l,i=>(i,v)::startT l (i+1)
theorem startT_get:∀ {l:List AVal}{i s:Nat}{v:AVal},aget (startT l i) s=some v→i≤s∧l[s - i]? = some v
 | [],i,s,v,h=>by simp [startT,aget] at h
 | x::l,i,s,v,h=>by
  simp only [startT,aget] at h
  rcases beq_cases i s with ⟨he,hb⟩ | ⟨he,hb⟩ <;> rw [hb] at h <;> simp only [cond_true,cond_false] at h
  ·subst he; simpa using h
  ·obtain ⟨h1,h2⟩:=startT_get h
   refine ⟨by omega,?_⟩
   rw [show s - i=(s - (i+1))+1 by omega]
   simpa using h2
def resA (P:Program) (T:TL) (H:HL):List ResultVar→Option (List AVal)
 | []=>some []
 | .tmp t::l=>match aget T t,resA P T H l with
  | some v,some vs=>some (v::vs)
  | _,_=>none
 | .cell a t::l=>match aget T a with
  | none=>none
  | some x=>match loadA P t x with
   | none=>none
   | some e=>match e.app 0 H,resA P T H l with
    | some (v,_),some vs=>some (v::vs)
    | _,_=>none
theorem resA_ok {P:Program}{σ:Sig}{nt:Nat}{T:TL}{H:HL}{a:Act}{w:World}(hr:RRel P σ nt T H a w):∀ {l:List ResultVar}{vs:List AVal},resA P T H l=some vs →
  ∃ vs':List Value,(l.mapM (m:=Sem) fun
   | .tmp t=>pure (a.tmps.getD t undef)
   | .cell b t=>do loadVar t (← asAddr (a.tmps.getD b undef))).run P w=.ok vs' w∧LR σ vs vs'.toArray
 | [],vs,h=>by simp only [resA,Option.some.injEq] at h; subst h; exact ⟨[],rfl,LR.nil σ⟩
 | .tmp t::l,vs,h=>by
  simp only [resA] at h
  split at h
  ·rename_i v vs1 h1 h2
   cases h
   obtain ⟨vs',g1,g2⟩:=resA_ok hr h2
   obtain ⟨v',q1,q2⟩:=hr.tmps t v h1
   refine ⟨v'::vs',?_,LR.cons q2 g2⟩
   have e:a.tmps.getD t undef=v':=by simp [Array.getD_eq_getD_getElem?,q1]
   simp only [List.mapM_cons,Sem.run_bind,Sem.run_pure,e,Result.andThen_ok,g1]
  ·cases h
 | .cell b t::l,vs,h=>by
  simp only [resA] at h
  split at h
  ·cases h
  ·rename_i x hx
   split at h
   ·cases h
   ·rename_i e he
    split at h
    ·rename_i v H1 vs1 h1 h2
     cases h
     obtain ⟨vs',g1,g2⟩:=resA_ok hr h2
     obtain ⟨x',q1,q2⟩:=hr.tmps b x hx
     obtain ⟨_,v',k1,k2⟩:=loadA_ok (P:=P) (w:=w) he q2 h1 hr.heap
     refine ⟨v'::vs',?_,LR.cons k2 g2⟩
     have e:a.tmps.getD b undef=x':=by simp [Array.getD_eq_getD_getElem?,q1]
     have hk:((do loadVar t (← asAddr x')):Sem Value).run P w=.ok v' w:=by
      cases x <;> simp only [loadA] at he <;> try (cases he; done)
      cases q2
      simpa only [Instr.loadAt,Instr.sureAddr,asAddr,Sem.run_bind,Sem.run_pure,Result.andThen_ok] using k1
     simp only [List.mapM_cons,Sem.run_bind,Sem.run_pure,e] at hk ⊢
     rw [hk]
     simp only [Result.andThen_ok,g1]
    ·cases h
def runF (P:Program) (cs:CS) (nn F:Nat) (fn:Func) (c:Code) (args:List AVal) (H:HL) (fr:Nat):Option (AVal × HL × Nat):=
 cond (Nat.ble args.length fn.ntmps) (match evC P cs fn.ntmps nn F fr c ⟨startT args 0,H,fr⟩ with
  | none=>none
  | some (.exit _,_)=>none
  | some (_,s)=>match resA P s.T s.H fn.results.toList with
   | none=>none
   | some [v]=>some (v,s.H,s.fr)
   | some vs=>some (.tup vs,s.H,s.fr)) none
theorem runF_ok {P:Program}{cs:CS}(hcs:CSOk P cs) (hm:P.follows .mixedOrders=true){f:FuncId}{fn:Func}{c:Code}(hf:P.funcs[f]? = some fn) (hb:fn.body=some c){nn F:Nat}{args:List AVal}{H:HL}{fr:Nat}{v:AVal}{H':HL}{fr':Nat}
  (h:runF P cs nn F fn c args H fr=some (v,H',fr')) {σ:Sig} {args':Array Value} {w:World} (ha:LR σ args args') (hH:HRel σ (aget H) w) (hg:GRel P σ) (hfr:Fresh σ fr) :
  Calls P f args' w fun r w' => ∃ σ' v',r=.returned v'∧VR σ' v v'∧HRel σ' (aget H') w'∧Frm σ (aget H) w σ' (aget H') w'∧Fresh σ' fr':=by
 unfold runF at h
 cases hn:Nat.ble args.length fn.ntmps <;> rw [hn] at h <;> simp only [cond_true,cond_false] at h
 ·cases h
 have hn:=Nat.le_of_ble_eq_true hn
 refine calls_of_wp hf hb ?_
 have hr0:RRel P σ fn.ntmps (startT args 0) H { tmps:=args' ++ Array.replicate (fn.ntmps - args'.size) undef,defers:=[] } w:=by
  refine ⟨fun s v hv => ?_,by simp [← ha.1]; omega,rfl,hH,hg⟩
  obtain ⟨_,h1⟩:=startT_get hv
  obtain ⟨v',g1,g2⟩:=ha.get (by simpa using h1)
  refine ⟨v',?_,g2⟩
  simp only
  rw [Array.getElem?_append_left (Array.getElem?_eq_some_iff.1 g1).1]
  exact g1
 have full:∀ {σ':Sig} {Hx:Heap} {w':World},FrmB fr σ (aget H) w σ' Hx w'→Frm σ (aget H) w σ' Hx w':=fun {σ' Hx w'} g=>⟨fun n p hp=>g.ext n p (Nat.lt_of_not_le fun hle=>by rw [hfr n hle] at hp; cases hp) hp,g.size,g.os,g.output,g.tape,g.old⟩
 have fin:∀ (s:SA),(match resA P s.T s.H fn.results.toList with
   | none=>none
   | some [v]=>some (v,s.H,s.fr)
   | some vs=>some (.tup vs,s.H,s.fr))=some (v,H',fr')→∀ σ' a' w',RRel P σ' fn.ntmps s.T s.H a' w'→FrmB fr σ (aget H) w σ' (aget s.H) w'→Fresh σ' s.fr →
   a'.defers=[]∧∃ u,(results fn a'.tmps).run P w'=.ok u w'∧∃ σ'' v',Ending.returned u=.returned v'∧VR σ'' v v'∧HRel σ'' (aget H') w'∧Frm σ (aget H) w σ'' (aget H') w'∧Fresh σ'' fr':=fun s hs σ' a' w' g1 g2 g3=>by
  refine ⟨g1.defers,?_⟩
  cases hres:resA P s.T s.H fn.results.toList with
  | none=>rw [hres] at hs; cases hs
  | some vs =>
   rw [hres] at hs
   obtain ⟨vs',k1,k2⟩:=resA_ok g1 hres
   have hrun:(fn.results.mapM (m:=Sem) fun
     | .tmp t=>pure (a'.tmps.getD t undef)
     | .cell b t=>do loadVar t (← asAddr (a'.tmps.getD b undef))).run P w'=.ok vs'.toArray w':=by
    rw [Array.mapM_eq_mapM_toList]
    simp only [Sem.run_map,k1,Result.andThen_ok]
   have hres2:(results fn a'.tmps).run P w'=.ok (if h:vs'.toArray.size=1 then vs'.toArray[0] else .tuple vs'.toArray) w':=by
    unfold results
    simp only [Sem.run_bind]
    exact congrArg (fun r=>Result.andThen r fun (vs:Array Value) w''=>(pure (if h:vs.size=1 then vs[0] else .tuple vs):Sem Value).run P w'') hrun
   refine ⟨_,hres2,?_⟩
   match vs,k2,hs with
   | [u],k2,hs =>
    simp only [Option.some.injEq,Prod.mk.injEq] at hs
    obtain ⟨rfl,rfl,rfl⟩:=hs
    obtain ⟨x',e1,e2⟩:=k2.inv1
    have:vs'=[x']:=by simpa using e1
    subst this
    exact ⟨σ',x',rfl,e2,g1.heap,full g2,g3⟩
   | [],k2,hs =>
    simp only [Option.some.injEq,Prod.mk.injEq] at hs
    obtain ⟨rfl,rfl,rfl⟩:=hs
    have hl:vs'.toArray.size ≠ 1:=by have:=k2.1; simp at this ⊢; omega
    rw [dif_neg hl]
    exact ⟨σ',_,rfl,.tup k2.1 k2.2,g1.heap,full g2,g3⟩
   | x::y::l,k2,hs =>
    simp only [Option.some.injEq,Prod.mk.injEq] at hs
    obtain ⟨rfl,rfl,rfl⟩:=hs
    have hl:vs'.toArray.size ≠ 1:=by have:=k2.1; simp at this ⊢; omega
    rw [dif_neg hl]
    exact ⟨σ',_,rfl,.tup k2.1 k2.2,g1.heap,full g2,g3⟩
 cases he:evC P cs fn.ntmps nn F fr c ⟨startT args 0,H,fr⟩ with
 | none=>rw [he] at h; cases h
 | some p =>
  obtain ⟨x,s⟩:=p
  rw [he] at h
  refine evC_ok hcs hm c _ x s he σ _ w _ hr0 hfr fun σ' a' w' g1 g2 g3 => ?_
  cases x with
  | exit id=>cases h
  | normal=>exact fin s h σ' a' w' g1 g2 g3
  | ret=>exact fin s h σ' a' w' g1 g2 g3
theorem LR.cut0 {σ:Sig}{l:List AVal}{l':Array Value}(h:∀ v ∈ l,ltV 0 v=true) (hl:LR σ l l') (σ':Sig):LR σ' l l':=
 ⟨hl.1,fun i v v' h1 h2=>(ltV_ok (h v (List.mem_of_getElem? h1)) (hl.2 i v v' h1 h2)).mono fun n p hp=>by simp [cut] at hp⟩
theorem VR.cut0 {σ:Sig}{v:AVal}{v':Value}(h:ltV 0 v=true) (hv:VR σ v v') (σ':Sig):VR σ' v v':=
 (ltV_ok h hv).mono fun n p hp=>by simp [cut] at hp
def allV:List AVal→Bool
 | []=>true
 | v::l=>cond (ltV 0 v) (allV l) false
theorem allV_mem:∀ {l:List AVal},allV l=true→∀ v ∈ l,ltV 0 v=true
 | [],_,v,hv=>by cases hv
 | x::l,h,v,hv=>by
  simp only [allV] at h
  cases hx:ltV 0 x <;> rw [hx] at h <;> simp only [cond_true,cond_false] at h
  ·cases h
  ·rcases List.mem_cons.1 hv with rfl | hv
   ·exact hx
   ·exact allV_mem h v hv
theorem callOk_pure {P:Program}{cs:CS}(hcs:CSOk P cs) (hm:P.follows .mixedOrders=true){f:FuncId}{fn:Func}{c:Code}(hf:P.funcs[f]? = some fn) (hb:fn.body=some c){nn F:Nat}{args:List AVal}{v:AVal}{H':HL}{fr':Nat}
  (h:runF P cs nn F fn c args [] P.globals.size=some (v,H',fr')) (ha:allV args=true) (hv:ltV 0 v=true):CallOk P f args (.pure v):=by
 intro σ args' H w base v0 H0 hl hg hH happ hfree
 simp only [EffA.app,Option.some.injEq,Prod.mk.injEq] at happ
 obtain ⟨rfl,rfl⟩:=happ
 have hl0:LR (cut P.globals.size σ) args args':=hl.cut0 (allV_mem ha) _
 have hg0:GRel P (cut P.globals.size σ):=fun g hgl=>by
  obtain ⟨sz,hs⟩:=hg g hgl
  exact ⟨sz,cut_of hs hgl⟩
 refine (runF_ok hcs hm hf hb h hl0 ⟨fun n o hn=>by simp [aget] at hn,fun n m o o' p q hn=>by simp [aget] at hn⟩ hg0 (cut_fresh _ _)).mono fun r w' hrw => ?_
 obtain ⟨σ',v',rfl,g1,g2,g3,g4⟩:=hrw
 have hold:∀ b,b < w.heap.size→w'.heap[b]? = w.heap[b]?:=fun b hb=>(g3.old b hb fun ⟨n,o,p,a1,_⟩=>by simp [aget] at a1).1
 refine ⟨σ,v',rfl,g1.cut0 hv σ,⟨fun n o hn => ?_,hH.inj⟩,⟨Sig.le_refl σ,g3.size,g3.os,g3.output,g3.tape,fun b hb hn=>⟨hold b hb,hn⟩⟩,Only.refl σ base⟩
 obtain ⟨p,hp,ho⟩:=hH.obj n o hn
 exact ⟨p,hp,ho.mono (Sig.le_refl σ) (hold _ ho.lt)⟩
end Go.Eng
namespace Go.Eng
open Go
def run1 (P:Program) (cs:CS) (nn F:Nat) (f:FuncId) (args:List AVal) (H:HL) (fr:Nat):Option (AVal × HL × Nat):=
 match P.funcs[f]? with
 | none=>none
 | some fn=>match fn.body with
  | none=>none
  | some c=>runF P cs nn F fn c args H fr
theorem run1_some {P:Program}{cs:CS}{nn F:Nat}{f:FuncId}{args:List AVal}{H:HL}{fr:Nat}{r:AVal × HL × Nat}(h:run1 P cs nn F f args H fr=some r):∃ fn c,P.funcs[f]? = some fn∧fn.body=some c∧runF P cs nn F fn c args H fr=some r:=by
 unfold run1 at h
 split at h
 ·cases h
 ·rename_i fn hf
  split at h
  ·cases h
  ·rename_i c hb
   exact ⟨fn,c,hf,hb,h⟩
def blkE (P:Program) (cs:CS) (nn F:Nat) (f:FuncId) (n off:Nat) (rest:List AVal):EffA:=
 .eff fun _ η=>match η n with
  | some (.cells false c)=>cond (ltL 0 c) (match run1 P cs nn F f (.ptr P.globals.size off::rest) [(P.globals.size,.cells false c)] (P.globals.size+1) with
   | some (v,H',_)=>match aget H' P.globals.size with
    | some (.cells false c')=>cond (ltV 0 v && ltL 0 c') (some (v,[(n,some (.cells false c'))])) none
    | _=>none
   | none=>none) none
  | _=>none
def inl (P:Program) (nn:FuncId→Nat) (F:Nat) (cs:CS):Nat→CS
 | 0=>cs
 | n+1=>fun f args=>match cs f args with
  | some e=>some e
  | none=>match args with
   | .ptr m off::rest=>cond (allV rest) (some (blkE P (inl P nn F cs n) (nn f) F f m off rest)) none
   | args=>cond (allV args) (match run1 P (inl P nn F cs n) (nn f) F f args [] P.globals.size with
    | some (v,_,_)=>cond (ltV 0 v) (some (.pure v)) none
    | none=>none) none
def noCS:CS:=fun _ _=>none
theorem noCS_ok (P:Program):CSOk P noCS:=fun _ _ _ h=>by cases h
end Go.Eng
namespace Go.Eng
open Go
theorem CallOk.less {P:Program}{f:FuncId}{args:List AVal}{e e':EffA}(h:CallOk P f args e) (he:∀ base H r,e'.app base H=some r→e.app base H=some r):CallOk P f args e':=
 fun σ args' H w base v H' hl hg hH happ hf=>h σ args' H w base v H' hl hg hH (he base H (v,H') happ) hf
theorem callOk_run {P:Program}{cs:CS}(hcs:CSOk P cs) (hm:P.follows .mixedOrders=true){nn F:Nat}{f:FuncId}{args:List AVal}{r:AVal × HL × Nat}(h:run1 P cs nn F f args [] P.globals.size=some r) (ha:allV args=true) (hv:ltV 0 r.1=true):CallOk P f args (.pure r.1):=by
 obtain ⟨fn,c,hf,hb,hr⟩:=run1_some h
 obtain ⟨v,H',fr'⟩:=r
 exact callOk_pure hcs hm hf hb hr ha hv
def pieces:Code→List Code
 | .seq a b=>pieces a++pieces b
 | c=>[c]
def evS (P:Program) (cs:CS) (nt nn F bs:Nat):List Code→SA→Option (XA × SA)
 | [],s=>some (.normal,s)
 | c::l,s=>match evC P cs nt nn F bs c s with
  | some (.normal,s')=>evS P cs nt nn F bs l s'
  | r=>r
theorem evS_one {P:Program}{cs:CS}{nt nn F bs:Nat}{c:Code}{s:SA}:evS P cs nt nn F bs [c] s=evC P cs nt nn F bs c s:=by
 simp only [evS]
 split
 ·rename_i h; rw [h]
 ·rfl
theorem evS_app {P:Program}{cs:CS}{nt nn F bs:Nat}:∀ {l m:List Code}{s:SA},evS P cs nt nn F bs (l++m) s=match evS P cs nt nn F bs l s with
  | some (.normal,s')=>evS P cs nt nn F bs m s'
  | r=>r
 | [],m,s=>rfl
 | c::l,m,s=>by
  simp only [evS,List.cons_append]
  cases hc:evC P cs nt nn F bs c s with
  | none=>rfl
  | some p =>
   obtain ⟨x,s1⟩:=p
   cases x with
   | normal=>exact evS_app
   | exit id=>rfl
   | ret=>rfl
theorem evC_pieces {P:Program}{cs:CS}{nt nn F bs:Nat}:∀ (c:Code) (s:SA),evC P cs nt nn F bs c s=evS P cs nt nn F bs (pieces c) s
 | .seq a b,s=>by
  rw [pieces,evS_app,← evC_pieces a s]
  simp only [evC]
  cases evC P cs nt nn F bs a s with
  | none=>rfl
  | some p =>
   obtain ⟨x,s1⟩:=p
   cases x with
   | normal=>exact evC_pieces b s1
   | exit id=>rfl
   | ret=>rfl
 | .skip,s=>evS_one.symm
 | .label _,s=>evS_one.symm
 | .region _ _ _,s=>evS_one.symm
 | .cond _ _ _,s=>evS_one.symm
 | .block _ _,s=>evS_one.symm
 | .loop _,s=>evS_one.symm
 | .exit _,s=>evS_one.symm
 | .ret,s=>evS_one.symm
 | .rangeFunc _ _ _ _,s=>evS_one.symm
 | .scope _,s=>evS_one.symm
 | .goto _,s=>evS_one.symm
 | .refuse _,s=>evS_one.symm
theorem evS_append {P:Program}{cs:CS}{nt nn F bs:Nat}{l m:List Code}{s s':SA}(h:evS P cs nt nn F bs l s=some (.normal,s')):evS P cs nt nn F bs (l++m) s=evS P cs nt nn F bs m s':=by
 rw [evS_app,h]
def loopOf:Code→Code
 | .block _ (.loop b)=>b
 | c=>c
theorem iterA_inv {f:SA→Option (XA × SA)}{hd:SA→SA}(I:Nat→SA){x:XA}{s1:SA}(hx:x ≠ .normal):∀ (N:Nat),(∀ k,k < N→∃ s',f (I k)=some (.normal,s')∧hd s'=I (k+1))→f (I N)=some (x,s1)→∀ F,N < F→∀ j,j≤N→iterA f hd (F - j) (I j)=some (x,s1):=by
 intro N hstep hend F hF j hj
 obtain ⟨m,hm⟩:∃ m,N - j=m:=⟨_,rfl⟩
 induction m generalizing j with
 | zero =>
  have:j=N:=by omega
  subst this
  obtain ⟨n,hn⟩:∃ n,F - j=n+1:=⟨F - j - 1,by omega⟩
  rw [hn]
  simp only [iterA,hend]
  cases x with
  | normal=>exact absurd rfl hx
  | exit id=>rfl
  | ret=>rfl
 | succ m ih =>
  obtain ⟨s',h1,h2⟩:=hstep j (by omega)
  obtain ⟨n,hn⟩:∃ n,F - j=n+1:=⟨F - j - 1,by omega⟩
  rw [hn]
  simp only [iterA,h1,h2]
  have:=ih (j+1) (by omega) (by omega)
  rw [show F - (j+1)=n by omega] at this
  exact this
theorem evC_loop {P:Program}{cs:CS}{nt nn F bs:Nat}{id:Nat}{b:Code}(I:Nat→SA) (N:Nat){s1:SA}(hstep:∀ k,k < N→∃ s',evC P cs nt nn F bs b (I k)=some (.normal,s')∧headA P bs (I 0) s'=I (k+1)) (hend:evC P cs nt nn F bs b (I N)=some (.exit id,s1)) (hF:N < F) :
  evC P cs nt nn F bs (.block id (.loop b)) (I 0)=some (.normal,s1):=by
 have:=iterA_inv (f:=evC P cs nt nn F bs b) (hd:=headA P bs (I 0)) I (x:=.exit id) (s1:=s1) (by simp) N hstep hend F hF 0 (by omega)
 simp only [evC]
 rw [Nat.sub_zero] at this
 rw [this]
 simp
def roundA (f:SA→Option (XA × SA)) (hd:SA→SA) (s:SA):Option SA:=
 match f s with
 | some (.normal,s')=>some (hd s')
 | _=>none
theorem roundA_some {f:SA→Option (XA × SA)}{hd:SA→SA}{s s1:SA}(h:roundA f hd s=some s1):∃ s',f s=some (.normal,s')∧hd s'=s1:=by
 unfold roundA at h
 split at h
 ·rename_i s' hs
  cases h
  exact ⟨s',hs,rfl⟩
 ·cases h
theorem evS_loop {P:Program}{cs:CS}{nt nn F bs:Nat}{l:List Code}{k id:Nat}{b:Code}(hk:l[k]? = some (.block id (.loop b))) (I:Nat→SA) (N:Nat){s1:SA}(hstep:∀ k,k < N→roundA (evC P cs nt nn F bs b) (headA P bs (I 0)) (I k)=some (I (k+1)))
  (hend:evC P cs nt nn F bs b (I N)=some (.exit id,s1)) (hF:N < F):evS P cs nt nn F bs (l.drop k) (I 0)=evS P cs nt nn F bs (l.drop (k+1)) s1:=by
 have hlt:=(List.getElem?_eq_some_iff.1 hk).1
 have e:l.drop k=.block id (.loop b)::l.drop (k+1):=by
  rw [List.drop_eq_getElem_cons hlt]
  rw [List.getElem?_eq_getElem hlt] at hk
  rw [Option.some.inj hk]
 rw [e]
 simp only [evS,evC_loop I N (fun k h=>roundA_some (hstep k h)) hend hF]
def finV (P:Program) (fn:Func):Option (XA × SA)→Option AVal
 | none=>none
 | some (.exit _,_)=>none
 | some (_,s)=>match resA P s.T s.H fn.results.toList with
  | none=>none
  | some [v]=>some v
  | some vs=>some (.tup vs)
theorem run1_val {P:Program}{cs:CS}{nn F:Nat}{f:FuncId}{fn:Func}{c:Code}{args:List AVal}{H:HL}{fr:Nat}(hf:P.funcs[f]? = some fn) (hb:fn.body=some c) (hn:Nat.ble args.length fn.ntmps=true) :
  (run1 P cs nn F f args H fr).map (·.1)=finV P fn (evS P cs fn.ntmps nn F fr (pieces c) ⟨startT args 0,H,fr⟩):=by
 unfold run1
 simp only [hf,hb]
 unfold runF
 rw [hn,evC_pieces]
 cases evS P cs fn.ntmps nn F fr (pieces c) ⟨startT args 0,H,fr⟩ with
 | none=>rfl
 | some p =>
  obtain ⟨x,s⟩:=p
  cases x with
  | exit id=>rfl
  | normal =>
   simp only [cond_true,finV]
   cases resA P s.T s.H fn.results.toList with
   | none=>rfl
   | some vs=>match vs with
    | []=>rfl
    | [_]=>rfl
    | _::_::_=>rfl
  | ret =>
   simp only [cond_true,finV]
   cases resA P s.T s.H fn.results.toList with
   | none=>rfl
   | some vs=>match vs with
    | []=>rfl
    | [_]=>rfl
    | _::_::_=>rfl
end Go.Eng
namespace Go.Eng
open Go
theorem optMap {α β:Type}{x:Option α}{g:α→β}{y:β}(h:x.map g=some y):∃ r,x=some r∧g r=y:=by
 cases x with
 | none=>cases h
 | some r=>exact ⟨r,rfl,Option.some.inj h⟩
def csOne (f:FuncId) (g:List AVal→Option EffA):CS:=fun f' args=>match Nat.beq f' f with
 | true=>g args
 | false=>none
theorem csOne_ok {P:Program}{f:FuncId}{g:List AVal→Option EffA}(h:∀ args e,g args=some e→CallOk P f args e):CSOk P (csOne f g):=by
 intro f' args e he
 unfold csOne at he
 split at he
 ·rename_i hb
  rw [Nat.eq_of_beq_eq_true hb]
  exact h args e he
 ·cases he
def csAlt (a b:CS):CS:=fun f args=>match a f args with
 | some e=>some e
 | none=>b f args
theorem csAlt_ok {P:Program}{a b:CS}(ha:CSOk P a) (hb:CSOk P b):CSOk P (csAlt a b):=by
 intro f args e he
 unfold csAlt at he
 split at he
 ·rename_i e' h'
  cases he
  exact ha f args _ h'
 ·exact hb f args e he
theorem callOk_val {P:Program}{cs:CS}(hcs:CSOk P cs) (hm:P.follows .mixedOrders=true){nn F:Nat}{f:FuncId}{args:List AVal}{v:AVal}(h:(run1 P cs nn F f args [] P.globals.size).map (·.1)=some v) (ha:allV args=true) (hv:ltV 0 v=true):CallOk P f args (.pure v):=by
 obtain ⟨r,hr,hrv⟩:=optMap h
 have:=callOk_run hcs hm hr ha (by rw [hrv]; exact hv)
 rwa [hrv] at this
def Grew (W w':World):Prop:=W.keptBut w' (fun _=>False)∧(∀ a:Addr,a.block < W.heap.size→w'.frozen? a=W.frozen? a)∧W.heap.size≤w'.heap.size
theorem grew_of {w w':World}(h1:w'.os=w.os) (h2:w'.output=w.output) (h3:w.heap.size≤w'.heap.size) (h4:∀ b,b < w.heap.size→w'.heap[b]? = w.heap[b]?):Grew w w':=by
 refine ⟨⟨h1,h2,fun i hi => ?_⟩,fun a ha => ?_,h3⟩
 ·rw [h4 i hi]
  cases w.heap[i]? with
  | none=>exact rfl
  | some o=>cases o with
   | cells c t fz=>exact ⟨rfl,rfl,rfl,fun _ _=>rfl⟩
   | map es cl=>exact .inr ⟨rfl,rfl⟩
   | _=>exact rfl
 ·unfold World.frozen?
  rw [h4 a.block ha]
end Go.Eng
namespace Go.Eng
open Go
theorem idx_of {x:Int}{n:Nat}(h1:0≤x) (h2:x < n):idx x n=some x.toNat:=by
 unfold idx
 rw [decide_eq_true h1,decide_eq_true h2]; rfl
end Go.Eng
