/- Texts Eng29, Eng57, Eng58, Tg8, Tg9, Th1, Th2, Ti1, Ti2, Ti3, Ti4: what they show that this claim uses. -/
import Derived.Test.YtjdhndicgifnbaaP13
import Derived.Deep.Slices
import Derived.WideKeyArgs
set_option maxRecDepth 100000
set_option maxHeartbeats 1000000
set_option linter.unusedVariables false
set_option linter.unusedSimpArgs false
namespace Go.Eng
open Go Go.WideShapes Go.ChangeShapes
inductive Kd where
 | bool
 | int (k:IntKind)
 | str
def HasK:Kd→Value→Prop
 | .bool,v => ∃ b,v=.bool b
 | .int k,v => ∃ n,v=.int k n∧(Lit.int k n).wf=true
 | .str,v => ∃ s:ByteArray,v=.string s∧s.size≤maxLen
def KindsP:List Kd→List Value→Prop
 | [],[]=>True
 | k::ks,v::vs=>HasK k v∧KindsP ks vs
 | _,_=>False
theorem KindsP.append:∀ {ks ks':List Kd}{vs vs':List Value},KindsP ks vs→KindsP ks' vs'→KindsP (ks++ks') (vs++vs')
 | [],_,[],_,_,h=>h
 | k::ks,_,v::vs,_,h,h'=>⟨h.1,h.2.append h'⟩
def kindsFs (rec:TypeId→Option (List Kd)) (P:Program):List Field→Nat→Option (List Kd)
 | [],_=>some []
 | f::l,a=>match rec f.type with
  | some ks=>cond (Nat.beq f.offset a && Nat.beq ks.length (P.cellsOf f.type)) (match kindsFs rec P l (a+ks.length) with
   | some r=>some (ks++r)
   | none=>none) none
  | none=>none
def kindsOf (P:Program):Nat→TypeId→Option (List Kd)
 | 0,_=>none
 | n+1,t=>match P.underlying t with
  | some .bool=>some [.bool]
  | some (.int k)=>some [.int k]
  | some .string=>some [.str]
  | some (.struct fs)=>match kindsFs (kindsOf P n) P fs.toList 0 with
   | some ks=>cond (Nat.beq ks.length (P.cellsOf t)) (some ks) none
   | none=>none
  | _=>none
section
variable {H:Type}{enc:TypeId × Value→H}{P:Program}{w:World}{base:Nat}{spare:Nat→Bool}{held:Bool}
theorem kindsFs_ok {rec:TypeId→Option (List Kd)}{m:Nat}{cs:List Value}(hr:∀ t ks cs' x,rec t=some ks→DataW.trod enc P w base spare held m t cs'=some x→KindsP ks cs') :
  ∀ (l:List Field) (a:Nat) (ks:List Kd),kindsFs rec P l a=some ks→a+ks.length≤cs.length→(∀ f ∈ l,∃ x,DataW.trod enc P w base spare held m f.type ((cs.drop f.offset).take (P.cellsOf f.type))=some x)→KindsP ks ((cs.drop a).take ks.length)
 | [],a,ks,h,_,_=>by
  cases h
  rw [List.length_nil,List.take_zero]; trivial
 | f::l,a,ks,h,hle,hx=>by
  unfold kindsFs at h
  split at h
  ·rename_i k1 hk1
   cases hc:(Nat.beq f.offset a && Nat.beq k1.length (P.cellsOf f.type)) with
   | false=>rw [hc] at h; cases h
   | true =>
    rw [hc,cond_true] at h
    simp only [Bool.and_eq_true] at hc
    have e1:=Nat.eq_of_beq_eq_true hc.1
    have e2:=Nat.eq_of_beq_eq_true hc.2
    split at h
    ·rename_i r hr2
     cases h
     obtain ⟨x,hx1⟩:=hx f (List.mem_cons_self ..)
     have h1:=hr _ _ _ _ hk1 hx1
     rw [e1,← e2] at h1
     rw [List.length_append] at hle
     have h2:=kindsFs_ok hr l (a+k1.length) r hr2 (by omega) (fun g hg=>hx g (List.mem_cons_of_mem _ hg))
     have:=h1.append h2
     rw [List.length_append,List.take_add]
     rw [List.drop_drop]
     exact this
    ·cases h
  ·cases h
theorem kindsOf_ok:∀ (n:Nat) (t:TypeId) (ks:List Kd),kindsOf P n t=some ks→∀ (m:Nat) (cs:List Value) (x:DataW H × List MemPlace),DataW.trod enc P w base spare held m t cs=some x→KindsP ks cs
 | 0,_,_,h,_,_,_,_=>by cases h
 | n+1,t,ks,h,m,cs,x,hx=>by
  unfold kindsOf at h
  split at h
  ·rename_i ht
   cases h
   obtain ⟨b,rfl,_⟩:=DataW.trod_bool ht hx
   exact ⟨⟨b,rfl⟩,trivial⟩
  ·rename_i k ht
   cases h
   obtain ⟨z,rfl,_,hz⟩:=DataW.trod_int ht hx
   exact ⟨⟨z,rfl,hz⟩,trivial⟩
  ·rename_i ht
   cases h
   obtain ⟨s,rfl,_,hs⟩:=DataW.trod_string ht hx
   exact ⟨⟨s,rfl,hs⟩,trivial⟩
  ·rename_i fs ht
   split at h
   ·rename_i ks' hk
    cases hc:Nat.beq ks'.length (P.cellsOf t) with
    | false=>rw [hc] at h; cases h
    | true =>
     rw [hc] at h
     cases h
     have e:=Nat.eq_of_beq_eq_true hc
     obtain ⟨xs,m',rfl,_,hl,hxl,hf⟩:=DataW.trod_struct ht hx
     have:=kindsFs_ok (cs:=cs) (m:=m') (fun t ks cs' x h1 h2=>kindsOf_ok n t ks h1 m' cs' x h2) fs.toList 0 _ hk (by omega) (fun f hmem=>by
      obtain ⟨i,hi⟩:=List.getElem?_of_mem hmem
      have hi2:fs[i]? = some f:=by simpa using hi
      have:=hf i f hi2
      have hlt:i < xs.length:=by rw [hxl]; exact (Array.getElem?_eq_some_iff.1 hi2).1
      exact ⟨xs[i],by rw [this]; simp [hlt]⟩)
     rw [List.drop_zero,e,← hl,List.take_length] at this
     exact this
   ·cases h
  ·cases h
end
structure RowAt (W:World) (ks:List Kd) (b o len cap:Nat) (c:Array Value) (t:TypeId) (fz:Nat × Nat):Prop where
 blk:W.heap[b]? = some (.cells c t fz)
 fits:o+cap * ks.length≤c.size
 el:∀ i,i < len→∃ cs',cs'.length=ks.length∧(∀ j,j < ks.length→c[o+i * ks.length+j]? = cs'[j]?)∧KindsP ks cs'
theorem cellAt29 {W:World}{a:Addr}{v:Value}(h:W.cell? a=some v):a.spot=none∧∃ c t fz,W.heap[a.block]? = some (.cells c t fz)∧c[a.off]? = some v:=by
 unfold World.cell? at h
 split at h
 ·rename_i c t fz hb
  cases hs:a.spot with
  | none=>rw [hs] at h; exact ⟨rfl,c,t,fz,hb,by simpa using h⟩
  | some s=>rw [hs] at h; simp at h
 ·cases h
theorem open_flat {H:Type}{enc:TypeId × Value→H}{P:Program}{W:World}{t e:TypeId}(ht:P.underlying t=some (.slice e)){n:Nat}{ks:List Kd}(hk:kindsOf P n e=some ks) (hc:P.cellsOf e=ks.length) (hpos:0 < ks.length){v:Value}{d:DataW H}{p:List MemPlace}{b0:Nat}
  (hval:Value.okWide P W .any b0 t v) (h:DataW.Trod enc P W 0 (fun _=>true) true t v d p) :
  v=.slice none 0 0 ∨ ∃ b o len cap,v=.slice (some ⟨b,o,none⟩) len cap∧len≤cap∧cap≤maxLen∧(0 < len→∃ c t' fz,RowAt W ks b o len cap c t' fz):=by
 obtain ⟨fuel,hf⟩:=h
 have hv:v.cells.toList=[v] ∨ ∃ cs,v=.agg cs:=by
  cases v <;> first | exact .inl rfl | exact .inr ⟨_,rfl⟩
 unfold Value.okWide at hval
 rw [ht] at hval
 unfold Cell.okWide at hval
 rw [ht] at hval
 rcases hv with hv | ⟨cs,rfl⟩
 ·rw [hv] at hf
  rcases Go.Deep.open_slice ht hf with ⟨h1,_⟩ | ⟨a,len,cap,m,n',D,Pl,h1,hb,hl,hm,hmm,_,hel⟩
  ·left; simpa using h1
  ·right
   simp only [List.cons.injEq,and_true] at h1
   subst h1
   unfold Cell.ok at hval
   rw [ht] at hval
   have hsp:a.spot=none:=hval.2.2.2.1
   obtain ⟨b,o,sp⟩:=a
   cases hsp
   refine ⟨b,o,len,cap,rfl,hl,hm,fun hlen => ?_⟩
   simp only [if_true] at hmm
   subst hmm
   have cellAt:∀ i,i < m→∃ cs',cs'.length=ks.length∧(∀ j,j < ks.length→W.cell? ⟨b,o+i * ks.length+j,none⟩=cs'[j]?)∧KindsP ks cs':=fun i hi=>by
    obtain ⟨cs',g1,g2⟩:=hel i hi
    obtain ⟨_,g3,g4⟩:=World.cells?_some g1
    rw [hc] at g3 g4
    refine ⟨cs',g3,fun j hj => ?_,kindsOf_ok n e ks hk _ _ _ g2⟩
    rw [← g4 j hj]
    congr 1
    unfold Addr.add
    by_cases h1:i * ks.length=0 <;> by_cases h2:j=0 <;> simp [h1,h2]
   have first:∃ c t' fz,W.heap[b]? = some (.cells c t' fz):=by
    obtain ⟨cs',g1,g2,_⟩:=cellAt 0 (by omega)
    have:(cs'[0]?).isSome=true:=by simp [g1,hpos]
    rw [← g2 0 hpos] at this
    obtain ⟨v,hv⟩:=Option.isSome_iff_exists.1 this
    obtain ⟨_,c,t',fz,h3,_⟩:=cellAt29 hv
    exact ⟨c,t',fz,h3⟩
   obtain ⟨c,t',fz,hblk⟩:=first
   have cellIn:∀ k v,W.cell? ⟨b,k,none⟩=some v→c[k]? = some v:=fun k v hv=>by
    obtain ⟨_,c2,t2,fz2,h3,h4⟩:=cellAt29 hv
    rw [hblk] at h3
    cases h3
    exact h4
   refine ⟨c,t',fz,hblk,?_,fun i hi => ?_⟩
   ·obtain ⟨cs',g1,g2,_⟩:=cellAt (m - 1) (by omega)
    have:(cs'[ks.length - 1]?).isSome=true:=by simp [g1]; omega
    rw [← g2 (ks.length - 1) (by omega)] at this
    obtain ⟨v,hv⟩:=Option.isSome_iff_exists.1 this
    have:=(Array.getElem?_eq_some_iff.1 (cellIn _ _ hv)).1
    have e1:m * ks.length=(m - 1) * ks.length+ks.length:=by
     rw [← Nat.succ_mul]; congr 1; omega
    omega
   ·obtain ⟨cs',g1,g2,g3⟩:=cellAt i (by omega)
    refine ⟨cs',g1,fun j hj => ?_,g3⟩
    have hj2:j < cs'.length:=by omega
    have:=g2 j hj
    rw [List.getElem?_eq_getElem hj2] at this ⊢
    exact cellIn _ _ this
 ·simp [Cell.ok,ht] at hval
theorem row_obj {W:World}{ks:List Kd}{b o len cap:Nat}{c:Array Value}{t:TypeId}{fz:Nat × Nat}(h:RowAt W ks b o len cap c t fz){E:Type} [Inhabited E] {cellsE:E→List AVal}(hE:∀ x,(cellsE x).length=ks.length)
  (hK:∀ cs',KindsP ks cs'→∃ x:E,∀ (j:Nat) u v,(cellsE x)[j]? = some u→cs'[j]? = some v→∀ σ,VR σ u v) :
  ∃ l:List E,l.length=len∧∀ σ,ORel σ W ⟨b,o,c.size,none⟩ (.cells true (l.flatMap cellsE)):=by
 have h1:∀ i,i < len→∃ x:E,∀ j,j < ks.length→∃ v,c[o+i * ks.length+j]? = some v∧∀ u,(cellsE x)[j]? = some u→∀ σ,VR σ u v:=fun i hi=>by
  obtain ⟨cs',g1,g2,g3⟩:=h.el i hi
  obtain ⟨x,hx⟩:=hK cs' g3
  refine ⟨x,fun j hj => ?_⟩
  have hj2:j < cs'.length:=by omega
  exact ⟨cs'[j],by rw [g2 j hj]; exact List.getElem?_eq_getElem hj2,fun u hu=>hx j u _ hu (List.getElem?_eq_getElem hj2)⟩
 obtain ⟨f,hf⟩:=Go.Deep.choose_lt h1
 refine ⟨(List.range len).map f,by simp,fun σ=>⟨c,t,fz,h.blk,rfl,?_,(fun h=>by cases h),fun T h=>by cases h⟩⟩
 have key:∀ (n:Nat),n≤len→∀ (i:Nat) v,(((List.range n).map f).flatMap cellsE)[i]? = some v→∃ v',c[o+i]? = some v'∧VR σ v v':=by
  intro n
  induction n with
  | zero=>intro _ i v hi; simp at hi
  | succ n ih =>
   intro hn i v hi
   have hlen:(((List.range n).map f).flatMap cellsE).length=n * ks.length:=by
    have:∀ (l:List E),(l.flatMap cellsE).length=l.length * ks.length:=fun l=>by
     induction l with
     | nil=>simp
     | cons x l ih=>rw [List.flatMap_cons,List.length_append,ih,hE,List.length_cons,Nat.succ_mul]; omega
    rw [this]; simp
   rw [List.range_succ,List.map_append,List.flatMap_append,List.getElem?_append,hlen] at hi
   split at hi
   ·exact ih (by omega) i v hi
   ·rename_i hge
    simp only [List.map_cons,List.map_nil,List.flatMap_cons,List.flatMap_nil,List.append_nil] at hi
    have hj:i - n * ks.length < ks.length:=by
     have:=(List.getElem?_eq_some_iff.1 hi).1
     rwa [hE (f n)] at this
    obtain ⟨v',g1,g2⟩:=hf n (by omega) _ hj
    refine ⟨v',?_,g2 v hi σ⟩
    rw [show o+i=o+n * ks.length+(i - n * ks.length) by omega]
    exact g1
 exact key len (Nat.le_refl _)
theorem KindsP.cons {k:Kd}{ks:List Kd}{cs:List Value}(h:KindsP (k::ks) cs):∃ v vs,cs=v::vs∧HasK k v∧KindsP ks vs:=by
 cases cs with
 | nil=>exact h.elim
 | cons v vs=>exact ⟨v,vs,rfl,h.1,h.2⟩
theorem KindsP.none {cs:List Value}(h:KindsP [] cs):cs=[]:=by
 cases cs with
 | nil=>rfl
 | cons v vs=>exact h.elim
inductive VRs:List AVal→List Value→Prop where
 | nil:VRs [] []
 | cons {u v us vs} (h:∀ σ,VR σ u v) (t:VRs us vs):VRs (u::us) (v::vs)
theorem VRs.get {us:List AVal}{vs:List Value}(h:VRs us vs):∀ (j:Nat) u v,us[j]? = some u→vs[j]? = some v→∀ σ,VR σ u v:=by
 induction h with
 | nil=>intro j u v hj; simp at hj
 | cons h t ih =>
  intro j u v h1 h2 σ
  cases j with
  | zero=>simp at h1 h2; subst h1 h2; exact h σ
  | succ j=>exact ih j u v (by simpa using h1) (by simpa using h2) σ
def Still (W w':World):Prop:=∀ b,b < W.heap.size→w'.heap[b]? = W.heap[b]?
theorem hrel_ro {σ:Sig}{H:Heap}{w:World}(h:∀ n o,H n=some o→o.ro=true∧∃ p,σ n=some p∧ORel σ w p o):HRel σ H w:=
 ⟨fun n o hn=>(h n o hn).2,fun n m o o' p q hn hm _ _ _=>.inr ⟨(h n o hn).1,(h m o' hm).1⟩⟩
theorem law_calls_H {P:Program}{cs:CS}(hcs:CSOk P cs) (hm:P.follows .mixedOrders=true){nn F:Nat}{f:FuncId}{args:List AVal}{H:HL}{fr:Nat}(h:(run1 P cs nn F f args H fr).map (·.1)=some (.bool true))
  {σ:Sig} {args':Array Value} {w:World} (hro:∀ n o,aget H n=some o→o.ro=true∧∃ p,σ n=some p∧ORel σ w p o) (hg:GRel P σ) (hfr:Fresh σ fr) (hl:LR σ args args') :
  Calls P f args' w fun r w'=>r=.returned (.bool true)∧Grew w w'∧Still w w':=by
 obtain ⟨r,hr,hrv⟩:=optMap h
 obtain ⟨v,H',fr'⟩:=r
 obtain ⟨fn,c,hf,hb,hrun⟩:=run1_some hr
 refine (runF_ok hcs hm hf hb hrun hl (hrel_ro hro) hg hfr).mono fun r w' ⟨σ',v',h1,h2,_,h4,_⟩ => ?_
 have hv:v=.bool true:=hrv
 subst hv
 cases h2
 have hs:Still w w':=fun b hb=>(h4.old b hb (by
  rintro ⟨n,o,p,g1,g2,_⟩
  rw [(hro n o g1).1] at g2
  cases g2)).1
 exact ⟨h1,grew_of h4.os h4.output h4.size hs,hs⟩
theorem args_stay {H:Type}{enc:TypeId × Value→H}{P:Program}(hl:laidOutB P=true){W W':World}(hs:Still W W') :
  ∀ {ts:List TypeId} {vs:List Value} {ds:List (DataW H)} {ps:List MemPlace},(ts.all fun t=>P.readableRec t && decide (t < P.types.size))=true→DataW.TrodAll enc P W 0 (fun _=>true) true ts vs ds ps→(∀ p ∈ ps,p.block < W.heap.size) →
  ∀ sp:Nat→Bool,(∀ p ∈ ps,sp p.block=true)→DataW.TrodAll enc P W' 0 sp true ts vs ds ps
 | [],[],[],_,_,h,_,_,_=>h
 | t::ts,v::vs,d::ds,ps,ht,⟨p,q,h1,h2,e⟩,hlt,sp,hsp=>by
  simp only [List.all_cons,Bool.and_eq_true,decide_eq_true_eq] at ht
  subst e
  have same:∀ x:MemPlace,x.block < W.heap.size→W.sameAt W' x:=fun x hx=>by
   cases x with
   | cell b off =>
    show W'.cell? _=W.cell? _
    unfold World.cell?
    rw [show W'.heap[(⟨b,off,none⟩:Addr).block]? = W.heap[b]? from hs b hx]
   | map b=>exact hs b hx
  exact ⟨p,q,Go.WideElems.Trod_stays hl ht.1.1 ht.1.2 h1 (fun x hx=>same x (hlt x (List.mem_append_left _ hx))) (fun x hx=>hsp x (List.mem_append_left _ hx)),
   args_stay hl hs (by simpa using ht.2) h2 (fun x hx=>hlt x (List.mem_append_right _ hx)) sp (fun x hx=>hsp x (List.mem_append_right _ hx)),rfl⟩
theorem sig0_fresh (P:Program):Fresh (sig0 P) P.globals.size:=fun n hn=>by
 unfold sig0
 rw [if_neg (by omega)]
theorem fresh_set {σ:Sig}{n:Nat}(h:Fresh σ n) (p:Place):Fresh (σ.set n p) (n+1):=fun m hm=>by
 rw [Sig.set_other σ p (by omega)]
 exact h m (by omega)
theorem grel_set {P:Program}{σ:Sig}(h:GRel P σ){n:Nat}(hn:P.globals.size≤n) (p:Place):GRel P (σ.set n p):=fun g hg=>by
 rw [Sig.set_other σ p (by omega)]
 exact h g hg
end Go.Eng
namespace Go.Eng
def rdG (g:List AVal→Option AVal):AObj→Option AVal
 | .cells _ c=>cond (ltL 0 c) (match g c with | some v=>cond (ltV 0 v) (some v) none | none=>none) none
theorem callOk_slice1 {P:Program}{cs:CS}(hcs:CSOk P cs) (hm:P.follows .mixedOrders=true){f:FuncId}{n off len esz:Nat}{xs:List AVal}(hx:allV xs=true){g:List AVal→Option AVal}
  (hrun:∀ ro c v,g c=some v→ltV 0 v=true→ltL 0 c=true→∃ nn F r,run1 P cs nn F f (.slice P.globals.size off len esz::xs) [(P.globals.size,.cells ro c)] (P.globals.size+1)=some r∧r.1=v∧aget r.2.1 P.globals.size=some (.cells ro c)) :
  CallOk P f (.slice n off len esz::xs) (.read n (rdG g)):=by
 have h0:CallOk P f (.slice n off len esz::xs) (.eff fun base η=>match η n with
   | some (.cells ro c)=>match rdG g (.cells ro c) with
    | some v=>some (v,cond ro [] [(n,some (.cells false c))])
    | none=>none
   | none=>none):=by
  refine callOk_deep hcs hm fun base η v us hK => ?_
  cases hn:η n with
  | none=>rw [hn] at hK; cases hK
  | some ob =>
   obtain ⟨ro,c⟩:=ob
   rw [hn] at hK
   simp only at hK
   cases hr:rdG g (.cells ro c) with
   | none=>rw [hr] at hK; cases hK
   | some u =>
    rw [hr] at hK
    simp only [Option.some.injEq,Prod.mk.injEq] at hK
    obtain ⟨rfl,rfl⟩:=hK
    unfold rdG at hr
    simp only at hr
    cases hl:ltL 0 c with
    | false=>rw [hl] at hr; cases hr
    | true =>
     rw [hl] at hr
     simp only [cond_true] at hr
     cases hg:g c with
     | none=>rw [hg] at hr; cases hr
     | some v' =>
      rw [hg] at hr
      simp only at hr
      cases hv:ltV 0 v' with
      | false=>rw [hv] at hr; cases hr
      | true =>
       rw [hv] at hr
       simp only [cond_true,Option.some.injEq] at hr
       subst hr
       obtain ⟨nn,F,⟨v2,H',fr'⟩,h1,h2,h3⟩:=hrun ro c v' hg hv hl
       simp only at h2 h3
       subst h2
       have hρ:ρ0 P.globals.size [n] P.globals.size n:=.inr ⟨0,by omega,rfl⟩
       refine ⟨⟨nn,F,[n],[],.slice P.globals.size off len esz::xs,[(P.globals.size,.cells ro c)],P.globals.size+1,v2,H',fr',by simp,fun m hm => ?_,.cons (.slice hρ) (RL.all hx),fun k o hk => ?_,by simp,h1,List.nodup_nil,by simp,fun k hk=>by simp at hk,.same hv,?_,fun m x hmx => ?_,fun i m o hi ho hro => ?_⟩⟩
       ·simp at hm; subst hm; exact .inl ⟨_,hn⟩
       ·rcases beq_cases P.globals.size k with ⟨e,hb⟩ | ⟨e,hb⟩
        ·simp only [aget,hb,cond_true,Option.some.injEq] at hk
         subst hk
         exact ⟨0,n,_,by omega,rfl,hn,ro,c,c,rfl,rfl,.same hl⟩
        ·simp only [aget,hb,cond_false] at hk; cases hk
       ·cases ro <;> simp
       ·cases ro with
        | true=>simp at hmx
        | false =>
         simp at hmx
         obtain ⟨rfl,rfl⟩:=hmx
         exact .inl ⟨0,rfl,.inr ⟨_,_,rfl,h3,rfl,false,c,c,rfl,rfl,.same hl⟩⟩
       ·have hi0:i=0:=by
         cases i with
         | zero=>rfl
         | succ i=>simp at hi
        subst hi0
        simp at hi
        subst hi
        have e:Nat.beq P.globals.size (P.globals.size+0)=true:=Nat.beq_refl _
        simp only [aget,e,cond_true,Option.some.injEq] at ho
        subst ho
        have hro:ro=false:=hro
        subst hro
        exact ⟨some (.cells false c),by simp⟩
 refine callOk_same2 h0 fun base H v H' happ => ?_
 simp only [EffA.app] at happ
 cases hn:aget H n with
 | none=>rw [hn] at happ; cases happ
 | some ob =>
  obtain ⟨ro,c⟩:=ob
  rw [hn] at happ
  simp only at happ
  cases hr:rdG g (.cells ro c) with
  | none=>rw [hr] at happ; cases happ
  | some u =>
   rw [hr] at happ
   simp only [Option.some.injEq,Prod.mk.injEq] at happ
   obtain ⟨rfl,rfl⟩:=happ
   simp only [EffA.app,hn,hr]
   refine ⟨_,rfl,?_⟩
   cases ro with
   | true=>rfl
   | false =>
    funext m
    show aget (aset H n (.cells false c)) m=aget H m
    rw [aget_aset]
    split
    ·rename_i e; subst e; exact hn.symm
    ·rfl
theorem callOk_empty {P:Program}{cs:CS}(hcs:CSOk P cs) (hm:P.follows .mixedOrders=true){f:FuncId}{n off esz:Nat}{xs:List AVal}(hx:allV xs=true){v:AVal}(hv:ltV 0 v=true)
  (hrun:∃ nn F,(run1 P cs nn F f (.slice P.globals.size off 0 esz::xs) [] (P.globals.size+1)).map (·.1)=some v):CallOk P f (.slice n off 0 esz::xs) (.pure v):=by
 have h0:CallOk P f (.slice n off 0 esz::xs) (.eff fun base η=>some (v,[])):=by
  refine callOk_deep hcs hm fun base η u us hK => ?_
  simp only [Option.some.injEq,Prod.mk.injEq] at hK
  obtain ⟨rfl,rfl⟩:=hK
  obtain ⟨nn,F,hr⟩:=hrun
  obtain ⟨⟨v2,H',fr'⟩,h1,h2⟩:=optMap hr
  simp only at h2
  subst h2
  exact ⟨⟨nn,F,[n],[],.slice P.globals.size off 0 esz::xs,[],P.globals.size+1,v2,H',fr',by simp,fun m hm=>by
   simp at hm; subst hm; exact .inr (.inr (.inr ⟨0,off,0,esz,rfl⟩)),.cons (.slice (.inr ⟨0,by omega,rfl⟩)) (RL.all hx),fun k o hk=>by simp [aget] at hk,by simp,h1,List.nodup_nil,by simp,fun k hk=>by simp at hk,.same hv,by simp,fun m x hmx=>by simp at hmx,fun i m o hi ho hro=>by simp [aget] at ho⟩⟩
 exact callOk_same2 h0 fun base H u H' happ=>by
  simp only [EffA.app,Option.some.injEq,Prod.mk.injEq] at happ
  obtain ⟨rfl,rfl⟩:=happ
  exact ⟨H,rfl,rfl⟩
theorem rows_calls2 {P:Program}{cs:CS}(hcs:CSOk P cs) (hm:P.follows .mixedOrders=true){f:FuncId}{ks:List Kd}{E:Type} [Inhabited E] {cellsE:E→List AVal}(hE:∀ x,(cellsE x).length=ks.length)
  (hK:∀ cs',KindsP ks cs'→∃ x:E,∀ (j:Nat) u v,(cellsE x)[j]? = some u→cs'[j]? = some v→∀ σ,VR σ u v)
  {args:AVal→List AVal} {args':Value→Array Value} (harg:∀ σ u u',VR σ u u'→LR σ (args u) (args' u')) {G:Nat} (hG:P.globals.size=G)
  (hn:∃ nn F,(run1 P cs nn F f (args .nilSlice) [] G).map (·.1)=some (.bool true))
  (he:∃ nn F,(run1 P cs nn F f (args (.slice G 0 0 ks.length)) [] (G+1)).map (·.1)=some (.bool true))
  (hl:∀ l:List E,l.length≤maxLen→l ≠ []→∃ nn F,(run1 P cs nn F f (args (.slice G 0 l.length ks.length)) [(G,.cells true (l.flatMap cellsE))] (G+1)).map (·.1)=some (.bool true))
  {W:World} {v:Value} (ho:v=.slice none 0 0 ∨ ∃ b o len cap,v=.slice (some ⟨b,o,none⟩) len cap∧len≤cap∧cap≤maxLen∧(0 < len→∃ c t' fz,RowAt W ks b o len cap c t' fz)) :
  Calls P f (args' v) W fun r w'=>r=.returned (.bool true)∧Grew W w'∧Still W w':=by
 subst hG
 rcases ho with rfl | ⟨b,o,len,cap,rfl,h1,h2,h3⟩
 ·obtain ⟨nn,F,hn⟩:=hn
  exact law_calls_H hcs hm hn (fun n o h=>by simp [aget] at h) (sig0_g P) (sig0_fresh P) (harg _ _ _ .nilSlice)
 ·by_cases h0:len=0
  ·subst h0
   obtain ⟨nn,F,he⟩:=he
   exact law_calls_H hcs hm he (σ:=(sig0 P).set P.globals.size ⟨b,o,o+cap * ks.length,none⟩) (fun n o h=>by simp [aget] at h) (grel_set (sig0_g P) (Nat.le_refl _) _) (fresh_set (sig0_fresh P) _)
    (harg _ _ _ (.slice (Sig.set_same _ _ _) (.inl rfl) h1 (Nat.le_refl _)))
  ·obtain ⟨c,t',fz,hr⟩:=h3 (by omega)
   obtain ⟨l,hll,hobj⟩:=row_obj hr hE hK
   subst hll
   obtain ⟨nn,F,hl⟩:=hl l (by omega) (by intro e; rw [e] at h0; exact h0 rfl)
   refine law_calls_H hcs hm hl (σ:=(sig0 P).set P.globals.size ⟨b,o,c.size,none⟩) (fun n ob h => ?_) (grel_set (sig0_g P) (Nat.le_refl _) _) (fresh_set (sig0_fresh P) _)
    (harg _ _ _ (.slice (Sig.set_same _ _ _) (.inr (by simp)) h1 hr.fits))
   rcases beq_cases P.globals.size n with ⟨e,hb⟩ | ⟨e,hb⟩
   ·simp only [aget,hb,cond_true,Option.some.injEq] at h
    subst h
    exact ⟨rfl,_,by rw [← e]; exact Sig.set_same _ _ _,hobj _⟩
   ·simp only [aget,hb,cond_false] at h
    cases h
end Go.Eng
namespace Go.Proofs.Ytjdhndicgifnbaa.Tun
open Go Go.Eng Go.Proofs.Ytjdhndicgifnbaa
def HeadK (p:Nat) (nl:List Nat) (fr:Nat) (H H':HL):Prop:=∀ z,z ∉ nl→z < fr→aget H' z=aget H z
theorem stepA {k:Bool}{p:Nat}{N N':Ns}{E E':En}{H:HL}{fr:Nat}(h:QInv k p N N' E E' H fr){q:Stp}{sh:Bool}{sx:Hv→Sx}(hs:Keeps sx){ok:Sx→Bool}{g:Bool}{t2:Tn}{c2:Dc}{L2:List UInt64}{sk2:SL}
  (hS:sx ⟨E.t,E.c,E.L,E.s,E'.s⟩=⟨E.t,E.c,E.L,E.s,E'.s,g,t2,c2,L2,sk2⟩) (hok:ok ⟨E.t,E.c,E.L,E.s,E'.s,g,t2,c2,L2,sk2⟩=true) (hg0:g=false→sk2=E.s) (hsh:g=true→sh=true) {base:Nat} (hb:fr≤base) :
  ∃ H',(effG (VA k q sh) (fA k p sx) ok).app base H=some (.bool true,H')∧QInv k p ⟨N.t,N.w,N.b,N.a,N.r,N.m,cond g base N.x⟩ N' ⟨t2,c2,E.L,sk2⟩ E' H' (base+1)∧HeadK p (p::(own N E++own N' E')) fr H H':=by
 obtain ⟨S,hSd⟩:∃ S:Sx,S=⟨E.t,E.c,E.L,E.s,E'.s,g,t2,c2,L2,sk2⟩:=⟨_,rfl⟩
 rw [← hSd] at hS hok
 have hf:fA k p sx (aget H)=some (nsA p N N' E E',S):=by
  unfold fA
  rw [h.find]
  simp only [hS]
  rfl
 have hlt:∀ n,n ∈ nsA p N N' E E'→n < fr:=fun n hn=>h.lt n (nsA_sub hn)
 have hnd:nodupB (frN base (VA k q sh).w++nsA p N N' E E')=true:=by
  refine nodupB_of ?_
  show (([]++[base+0])++nsA p N N' E E').Nodup
  rw [List.nil_append,Nat.add_zero,List.singleton_append,List.nodup_cons]
  exact ⟨fun hm=>by have:=hlt _ hm; omega,nsA_nodup h⟩
 have hR:(VA k q sh).Rel S:=relVA k q sh S (by rw [hSd]; exact hg0)
 have hkA:kA S=8+e1 E.s+e1 E.L+e1 E'.s:=by rw [hSd]; rfl
 have hlen:(nsA p N N' E E').length=(VA k q sh).k S:=by
  show _=kA S
  rw [hkA]
  unfold nsA
  rw [List.length_append,List.length_append,List.length_append,oneN_len,oneN_len,oneN_len]
  simp
  omega
 refine ⟨_,effG_app hf hnd hok,?_⟩
 obtain ⟨ν,hν⟩:∃ ν,ν=nmU2 (nsA p N N' E E') base:=⟨_,rfl⟩
 have hat:=fun {j:Nat} (hj:j ∈ (VA k q sh).ix2 S)=>upG_at hR hlen hnd H hj
 have hoff:=fun {n:Nat} (h1:∀ i,i ∈ (VA k q sh).ix S→nmU2 (nsA p N N' E E') base i ≠ n) (h2:∀ i,i ∈ (VA k q sh).ix2 S→nmU2 (nsA p N N' E E') base i ≠ n)=>upG_off hR hlen hnd H h1 h2
 rw [← hν] at hat hoff
 -- what the names are
 have l8:8≤(nsA p N N' E E').length:=by rw [hlen]; show 8≤kA S; omega
 have v:∀ i,i < 8→ν i=(nsA p N N' E E').getD i 0:=fun i hi=>by rw [hν]; exact nmU2_lt (by omega)
 have v0:ν 0=p:=v 0 (by decide)
 have v1:ν 1=N.t:=v 1 (by decide)
 have v2:ν 2=N.w:=v 2 (by decide)
 have v3:ν 3=N.b:=v 3 (by decide)
 have v4:ν 4=N.a:=v 4 (by decide)
 have v5:ν 5=N.r:=v 5 (by decide)
 have v6:ν 6=N'.t:=v 6 (by decide)
 have v7:ν 7=N'.r:=v 7 (by decide)
 have v8:E.s ≠ []→ν 8=N.x:=fun hs0=>by
  rw [hν,nmU2_lt (by rw [hlen]; show 8 < kA S; have:=e1_pos hs0; omega)]
  unfold nsA
  cases hE:E.s with
  | nil=>exact absurd hE hs0
  | cons a l=>rfl
 have vm:E.L ≠ []→ν (8+e1 E.s)=N.m:=fun hL0=>by
  rw [hν,nmU2_lt (by rw [hlen]; show 8+e1 E.s < kA S; have:=e1_pos hL0; omega)]
  unfold nsA
  cases hE:E.L with
  | nil=>exact absurd hE hL0
  | cons a l=>cases E.s <;> rfl
 have vo:E'.s ≠ []→ν (8+e1 E.s+e1 E.L)=N'.x:=fun hs0=>by
  rw [hν,nmU2_lt (by rw [hlen]; show 8+e1 E.s+e1 E.L < kA S; have:=e1_pos hs0; omega)]
  unfold nsA
  cases hE:E'.s with
  | nil=>exact absurd hE hs0
  | cons a l=>cases E.s <;> cases E.L <;> rfl
 have vK:ν (kA S)=base:=by
  rw [hν,nmU2_ge (by rw [hlen]; exact Nat.le_refl _),hlen]
  show base+(kA S - kA S)=base
  omega
 -- where something is put
 have mem5:∀ j,j ∈ [0,1,2,3,4,5]→j ∈ (VA k q sh).ix2 S:=fun j hj=>by
  show j ∈ cond S.g [0,1,2,3,4,5,kA S] ([0,1,2,3,4,5]++cond sh (oneN 8 S.sk) [])
  cases S.g with
  | true=>simp only [cond_true]; simp at hj ⊢; omega
  | false=>simp only [cond_false]; exact List.mem_append.2 (.inl hj)
 obtain ⟨A,hA⟩:∃ A,A=[p,N.t,N.w,N.b,N.a,N.r]++oneN N.x E.s:=⟨_,rfl⟩
 have inA:∀ i,i ∈ [0,1,2,3,4,5]++cond sh (oneN 8 S.sk) []→ν i ∈ A:=fun i hi=>by
  rw [hA]
  rcases List.mem_append.1 hi with hi | hi
  ·refine List.mem_append.2 (.inl ?_)
   simp at hi
   rcases hi with rfl | rfl | rfl | rfl | rfl | rfl
   ·rw [v0]; simp
   ·rw [v1]; simp
   ·rw [v2]; simp
   ·rw [v3]; simp
   ·rw [v4]; simp
   ·rw [v5]; simp
  ·have hi:i ∈ oneN 8 E.s:=by
    cases sh with
    | false=>simp at hi
    | true=>rw [hSd] at hi; exact hi
   obtain ⟨rfl,hs0⟩:=oneN_sub hi
   rw [v8 hs0]
   exact List.mem_append.2 (.inr (mem_oneN hs0))
 have inA2:∀ i,i ∈ (VA k q sh).ix2 S→ν i ∈ A ∨ ν i=base:=fun i hi=>by
  have hi:i ∈ cond S.g [0,1,2,3,4,5,kA S] ([0,1,2,3,4,5]++cond sh (oneN 8 S.sk) []):=hi
  cases hg:S.g with
  | false=>rw [hg] at hi; exact .inl (inA i hi)
  | true =>
   rw [hg] at hi
   simp only [cond_true] at hi
   have:i ∈ [0,1,2,3,4,5] ∨ i=kA S:=by simp at hi ⊢; omega
   rcases this with q | rfl
   ·exact .inl (inA i (List.mem_append.2 (.inl q)))
   ·exact .inr vK
 have hfull:p::(own N E++own N' E')=A++(oneN N.m E.L++own N' E'):=by
  rw [hA]; unfold own; simp
 have off:∀ n,n ∈ oneN N.m E.L++own N' E'→aget (appU H (upG (VA k q sh) S ν)) n=aget H n:=fun n hn=>by
  have hnA:n ∉ A:=fun hm=>by
   have:=h.nd
   rw [hfull,List.nodup_append] at this
   exact this.2.2 n hm n hn rfl
  have hnb:n ≠ base:=by
   have:=h.lt n (by rw [hfull]; exact List.mem_append.2 (.inr hn))
   omega
  refine hoff (fun i hi e=>hnA (by rw [← e]; exact inA i hi)) fun i hi e => ?_
  rcases inA2 i hi with q | q
  ·exact hnA (by rw [← e]; exact q)
  ·exact hnb (by rw [← e,q])
 -- the cells
 have c5:∀ j,j ∈ [0,1,2,3,4,5]→aget (appU H (upG (VA k q sh) S ν)) (ν j)=some (.cells false ((VA k q sh).c2 ν S j)):=fun j hj=>hat (mem5 j hj)
 have hc0:=c5 0 (by simp); have hc1:=c5 1 (by simp); have hc2:=c5 2 (by simp); have hc3:=c5 3 (by simp); have hc4:=c5 4 (by simp); have hc5:=c5 5 (by simp)
 rw [v0] at hc0; rw [v1] at hc1; rw [v2] at hc2; rw [v3] at hc3; rw [v4] at hc4; rw [v5] at hc5
 have d0:(VA k q sh).c2 ν S 0=pK k (.ptr N.t 0) (.ptr N'.t 0) (.ptr N.r 0) (.ptr N'.r 0) (slS (cond g base N.x) sk2) (slS N'.x E'.s):=by
  show pK k (.ptr (ν 1) 0) (.ptr (ν 6) 0) (.ptr (ν 5) 0) (.ptr (ν 7) 0) (slS (ν (cond S.g (kA S) 8)) S.sk2) (slS (ν (8+e1 S.sk+e1 S.L)) S.so)=_
  rw [v1,v6,v5,v7]
  have z1:S.g=g:=by rw [hSd]
  have z2:S.sk2=sk2:=by rw [hSd]
  have z3:S.so=E'.s:=by rw [hSd]
  have z4:S.sk=E.s:=by rw [hSd]
  have z5:S.L=E.L:=by rw [hSd]
  rw [z1,z2,z3,z4,z5,slS_eq vo]
  congr 1
  refine slS_eq fun hs2 => ?_
  cases g with
  | true=>exact vK
  | false=>exact v8 (by rw [← hg0 rfl]; exact hs2)
 have d1:(VA k q sh).c2 ν S 1=cT N.w N.a t2:=by
  show cT (ν 2) (ν 4) S.t2=_
  rw [v2,v4,hSd]
 have d2:(VA k q sh).c2 ν S 2=cW N.b t2.w:=by
  show cW (ν 3) S.t2.w=_
  rw [v3,hSd]
 have d3:(VA k q sh).c2 ν S 3=t2.w.L.map .u64:=by
  show S.t2.w.L.map AVal.u64=_
  rw [hSd]
 have d4:(VA k q sh).c2 ν S 4=[.u64 t2.made]:=by
  show [AVal.u64 S.t2.made]=_
  rw [hSd]
 have d5:(VA k q sh).c2 ν S 5=cD (slQ N.m (qL E.L)) c2:=by
  show cD (slQ (ν (8+e1 S.sk)) (qL S.L)) S.c2=_
  have z4:S.sk=E.s:=by rw [hSd]
  have z5:S.L=E.L:=by rw [hSd]
  have z6:S.c2=c2:=by rw [hSd]
  rw [z4,z5,z6,slQ_eq vm]
 rw [d0] at hc0; rw [d1] at hc1; rw [d2] at hc2; rw [d3] at hc3; rw [d4] at hc4; rw [d5] at hc5
 rw [← hν]
 have hhead:HeadK p (p::(own N E++own N' E')) fr H (appU H (upG (VA k q sh) S ν)):=by
  intro z hz hzf
  have hzA:z ∉ A:=fun hm=>hz (by rw [hfull]; exact List.mem_append.2 (.inl hm))
  refine hoff (fun i hi e=>hzA (by rw [← e]; exact inA i hi)) fun i hi e => ?_
  rcases inA2 i hi with q | q
  ·exact hzA (by rw [← e]; exact q)
  ·rw [q] at e; omega
 refine ⟨?_,hhead⟩
 refine ⟨hc0,⟨hc1,hc2,hc3,hc4,hc5,fun hL0 => ?_,fun hs0 => ?_⟩,h.o'.keep fun n hn=>off n (List.mem_append.2 (.inr hn)),?_,?_⟩
 ·show aget _ N.m=_
  rw [off _ (List.mem_append.2 (.inl (mem_oneN hL0)))]
  exact h.o.m hL0
 ·show aget _ (cond g base N.x)=some (AObj.cells false (snC sk2))
  have hs0:sk2 ≠ []:=hs0
  cases hg:g with
  | true =>
   have hm:kA S ∈ (VA k q sh).ix2 S:=by
    show kA S ∈ cond S.g [0,1,2,3,4,5,kA S] _
    rw [hSd]; rw [hg]; simp
   have:=hat hm
   rw [vK] at this
   rw [cond_true,this]
   have hk6:∃ i,kA S=i+6:=⟨kA S - 6,by omega⟩
   obtain ⟨i,hi⟩:=hk6
   show some (AObj.cells false (cV _ ν S.t2 S.c2 _ (fun _=>snC S.sk2) (kA S)))=_
   rw [hi]
   show some (AObj.cells false (snC S.sk2))=_
   rw [hSd]
  | false =>
   have e0:=hg0 hg
   rw [cond_false,e0]
   have hs1:E.s ≠ []:=by rw [← e0]; exact hs0
   cases hsh:sh with
   | true =>
    have hm:8 ∈ (VA k q sh).ix2 S:=by
     show 8 ∈ cond S.g _ ([0,1,2,3,4,5]++cond sh (oneN 8 S.sk) [])
     rw [hSd,hg,hsh]
     exact List.mem_append.2 (.inr (mem_oneN hs1))
    have:=hat hm
    rw [v8 hs1] at this
    rw [← hsh,this]
    show some (AObj.cells false (snC S.sk2))=_
    rw [hSd,e0]
   | false =>
    have hx:N.x ∉ [p,N.t,N.w,N.b,N.a,N.r]:=fun hm=>by
     have:=h.nd
     rw [hfull,hA,List.nodup_append,List.nodup_append] at this
     exact this.1.2.2 _ hm _ (mem_oneN hs1) rfl
    have hxb:N.x ≠ base:=by
     have:=h.lt N.x (by rw [hfull,hA]; exact List.mem_append.2 (.inl (List.mem_append.2 (.inr (mem_oneN hs1)))))
     omega
    have i5:∀ i,i ∈ [0,1,2,3,4,5]→ν i ∈ [p,N.t,N.w,N.b,N.a,N.r]:=fun i hi=>by
     simp at hi
     rcases hi with rfl | rfl | rfl | rfl | rfl | rfl
     ·rw [v0]; simp
     ·rw [v1]; simp
     ·rw [v2]; simp
     ·rw [v3]; simp
     ·rw [v4]; simp
     ·rw [v5]; simp
    have:=hoff (n:=N.x) (fun i hi e=>hx (by
     rw [← e]
     refine i5 i ?_
     have hi:i ∈ [0,1,2,3,4,5]++cond sh (oneN 8 S.sk) []:=hi
     rw [hsh] at hi
     simpa using hi)) (fun i hi e=>hx (by
     rw [← e]
     refine i5 i ?_
     have hi:i ∈ cond S.g [0,1,2,3,4,5,kA S] ([0,1,2,3,4,5]++cond sh (oneN 8 S.sk) []):=hi
     have z1:S.g=false:=by rw [hSd]; exact hg
     rw [z1,hsh] at hi
     simpa using hi))
    rw [hsh] at this
    rw [this]
    exact h.o.x hs1
 ·-- the names
  have nd:=h.nd
  rw [hfull] at nd
  show (p::([N.t,N.w,N.b,N.a,N.r]++(oneN (cond g base N.x) sk2++oneN N.m E.L)++own N' E')).Nodup
  cases hg:g with
  | false=>rw [hg0 hg]; rw [← hfull] at nd; exact nd
  | true =>
   rw [cond_true]
   have hbn:∀ n,n ∈ A++(oneN N.m E.L++own N' E')→n ≠ base:=fun n hn=>by
    have:=h.lt n (by rw [hfull]; exact hn)
    omega
   have e:p::([N.t,N.w,N.b,N.a,N.r]++(oneN base sk2++oneN N.m E.L)++own N' E')=[p,N.t,N.w,N.b,N.a,N.r]++(oneN base sk2++(oneN N.m E.L++own N' E')):=by simp
   rw [e]
   rw [hA,List.append_assoc,List.nodup_append] at nd
   obtain ⟨n1,n2,n3⟩:=nd
   rw [List.nodup_append] at n2
   refine List.nodup_append.2 ⟨n1,List.nodup_append.2 ⟨?_,n2.2.1,fun a ha d hd ee => ?_⟩,fun a ha d hd ee => ?_⟩
   ·cases sk2 <;> simp [oneN]
   ·have e0:=(oneN_sub ha).1
    exact hbn d (List.mem_append.2 (.inr hd)) (by rw [← ee,e0])
   ·rcases List.mem_append.1 hd with hd | hd
    ·have e0:=(oneN_sub hd).1
     exact hbn a (by rw [hA]; exact List.mem_append.2 (.inl (List.mem_append.2 (.inl ha)))) (by rw [ee,e0])
    ·exact n3 a ha d (List.mem_append.2 (.inr hd)) ee
 ·intro n hn
  have hn:n ∈ p::([N.t,N.w,N.b,N.a,N.r]++(oneN (cond g base N.x) sk2++oneN N.m E.L)++own N' E'):=hn
  have hcase:n=base ∨ n ∈ p::(own N E++own N' E'):=by
   obtain ⟨X,hX⟩:∃ X,X=own N' E':=⟨_,rfl⟩
   rw [← hX] at hn ⊢
   unfold own
   rw [List.mem_cons,List.mem_append,List.mem_append,List.mem_append] at hn
   rw [List.mem_cons,List.mem_append,List.mem_append,List.mem_append]
   rcases hn with hn | (hn | hn | hn) | hn
   ·exact .inr (.inl hn)
   ·exact .inr (.inr (.inl (.inl hn)))
   ·cases hg:g with
    | true=>rw [hg] at hn; exact .inl (oneN_sub hn).1
    | false=>rw [hg,hg0 hg] at hn; exact .inr (.inr (.inl (.inr (.inl hn))))
   ·exact .inr (.inr (.inl (.inr (.inr hn))))
   ·exact .inr (.inr (.inr hn))
  rcases hcase with rfl | hn
  ·omega
  ·have:=h.lt n hn; omega
end Go.Proofs.Ytjdhndicgifnbaa.Tun
namespace Go.Proofs.Ytjdhndicgifnbaa.Tun
open Go Go.Eng Go.Proofs.Ytjdhndicgifnbaa
section
variable {k:Bool}{p:Nat}{N N':Ns}{E E':En}{H:HL}{fr:Nat}
def nsO (p:Nat) (N N':Ns) (E E':En):List Nat:=[p,N.t,N.w,N.b,N.a,N.r,N'.t,N'.r]++(oneN N.m E.L++(oneN N'.x E'.s++oneN N.x E.s))
theorem nsO_nodup (h:QInv k p N N' E E' H fr):(nsO p N N' E E').Nodup:=by
 have nd:=h.nd
 obtain ⟨t,c,L,s⟩:=E
 obtain ⟨t',c',L',s'⟩:=E'
 cases s <;> cases L <;> cases s'
 ·exact sub_nodup nd (ix:=[0,1,2,3,4,5,6,10]) (by decide) rfl (by simp [own,oneN])
 ·exact sub_nodup nd (ix:=[0,1,2,3,4,5,6,10,11]) (by decide) rfl (by simp [own,oneN])
 ·exact sub_nodup nd (ix:=[0,1,2,3,4,5,7,11,6]) (by decide) rfl (by simp [own,oneN])
 ·exact sub_nodup nd (ix:=[0,1,2,3,4,5,7,11,6,12]) (by decide) rfl (by simp [own,oneN])
 ·exact sub_nodup nd (ix:=[0,1,2,3,4,5,7,11,6]) (by decide) rfl (by simp [own,oneN])
 ·exact sub_nodup nd (ix:=[0,1,2,3,4,5,7,11,12,6]) (by decide) rfl (by simp [own,oneN])
 ·exact sub_nodup nd (ix:=[0,1,2,3,4,5,8,12,7,6]) (by decide) rfl (by simp [own,oneN])
 ·exact sub_nodup nd (ix:=[0,1,2,3,4,5,8,12,7,13,6]) (by decide) rfl (by simp [own,oneN])
theorem nsO_sub {n:Nat}(hn:n ∈ nsO p N N' E E'):n ∈ p::(own N E++own N' E'):=by
 unfold nsO at hn
 unfold own
 simp only [List.mem_append,List.mem_cons,List.mem_nil_iff,or_false] at hn ⊢
 rcases hn with (h | h | h | h | h | h | h | h) | h | h | h <;> simp [h]
theorem stepO (h:QInv k p N N' E E' H fr){q:Stp}{sx:Hv→Sx}(hs:Keeps sx){ok:Sx→Bool}{g:Bool}{t2:Tn}{c2:Dc}{L2:List UInt64}{sk2:SL}
  (hS:sx ⟨E.t,E.c,E.L,E.s,E'.s⟩=⟨E.t,E.c,E.L,E.s,E'.s,g,t2,c2,L2,sk2⟩) (hok:ok ⟨E.t,E.c,E.L,E.s,E'.s,g,t2,c2,L2,sk2⟩=true) (hg0:g=false→L2=E.L) {base:Nat} (hb:fr≤base) :
  ∃ H',(effG (VO k q) (fO k p sx) ok).app base H=some (.bool true,H')∧QInv k p ⟨N.t,N.w,N.b,N.a,N.r,cond g base N.m,N.x⟩ N' ⟨t2,c2,L2,E.s⟩ E' H' (base+1)∧HeadK p (p::(own N E++own N' E')) fr H H':=by
 obtain ⟨S,hSd⟩:∃ S:Sx,S=⟨E.t,E.c,E.L,E.s,E'.s,g,t2,c2,L2,sk2⟩:=⟨_,rfl⟩
 rw [← hSd] at hS hok
 have zL:S.L=E.L:=by rw [hSd]
 have zs:S.sk=E.s:=by rw [hSd]
 have zo:S.so=E'.s:=by rw [hSd]
 have zg:S.g=g:=by rw [hSd]
 have zt:S.t2=t2:=by rw [hSd]
 have zc:S.c2=c2:=by rw [hSd]
 have z2:S.L2=L2:=by rw [hSd]
 have hf:fO k p sx (aget H)=some (nsO p N N' E E',S):=by
  unfold fO
  rw [h.find]
  simp only [hS]
  rfl
 have hlt:∀ n,n ∈ nsO p N N' E E'→n < fr:=fun n hn=>h.lt n (nsO_sub hn)
 have hnd:nodupB (frN base (VO k q).w++nsO p N N' E E')=true:=by
  refine nodupB_of ?_
  show (([]++[base+0])++nsO p N N' E E').Nodup
  rw [List.nil_append,Nat.add_zero,List.singleton_append,List.nodup_cons]
  exact ⟨fun hm=>by have:=hlt _ hm; omega,nsO_nodup h⟩
 have hR:(VO k q).Rel S:=relVO k q S (by rw [zg,z2,zL]; exact hg0)
 have hkO:kO S=8+e1 E.L+e1 E'.s+e1 E.s:=by rw [hSd]; rfl
 have hlen:(nsO p N N' E E').length=(VO k q).k S:=by
  show _=kO S
  rw [hkO]
  unfold nsO
  rw [List.length_append,List.length_append,List.length_append,oneN_len,oneN_len,oneN_len]
  simp
  omega
 refine ⟨_,effG_app hf hnd hok,?_⟩
 obtain ⟨ν,hν⟩:∃ ν,ν=nmU2 (nsO p N N' E E') base:=⟨_,rfl⟩
 have hat:=fun {j:Nat} (hj:j ∈ (VO k q).ix2 S)=>upG_at hR hlen hnd H hj
 have hoff:=fun {n:Nat} (h1:∀ i,i ∈ (VO k q).ix S→nmU2 (nsO p N N' E E') base i ≠ n) (h2:∀ i,i ∈ (VO k q).ix2 S→nmU2 (nsO p N N' E E') base i ≠ n)=>upG_off hR hlen hnd H h1 h2
 rw [← hν] at hat hoff
 have l8:8≤(nsO p N N' E E').length:=by rw [hlen]; show 8≤kO S; omega
 have v:∀ i,i < 8→ν i=(nsO p N N' E E').getD i 0:=fun i hi=>by rw [hν]; exact nmU2_lt (by omega)
 have v0:ν 0=p:=v 0 (by decide)
 have v1:ν 1=N.t:=v 1 (by decide)
 have v2:ν 2=N.w:=v 2 (by decide)
 have v3:ν 3=N.b:=v 3 (by decide)
 have v4:ν 4=N.a:=v 4 (by decide)
 have v5:ν 5=N.r:=v 5 (by decide)
 have v6:ν 6=N'.t:=v 6 (by decide)
 have v7:ν 7=N'.r:=v 7 (by decide)
 have v8:E.L ≠ []→ν 8=N.m:=fun hs0=>by
  rw [hν,nmU2_lt (by rw [hlen]; show 8 < kO S; have:=e1_pos hs0; omega)]
  unfold nsO
  cases hE:E.L with
  | nil=>exact absurd hE hs0
  | cons a l=>rfl
 have vo:E'.s ≠ []→ν (8+e1 E.L)=N'.x:=fun hs0=>by
  rw [hν,nmU2_lt (by rw [hlen]; show 8+e1 E.L < kO S; have:=e1_pos hs0; omega)]
  unfold nsO
  cases hE:E'.s with
  | nil=>exact absurd hE hs0
  | cons a l=>cases E.L <;> rfl
 have vs:E.s ≠ []→ν (8+e1 E.L+e1 E'.s)=N.x:=fun hs0=>by
  rw [hν,nmU2_lt (by rw [hlen]; show 8+e1 E.L+e1 E'.s < kO S; have:=e1_pos hs0; omega)]
  unfold nsO
  cases hE:E.s with
  | nil=>exact absurd hE hs0
  | cons a l=>cases E'.s <;> cases E.L <;> rfl
 have vK:ν (kO S)=base:=by
  rw [hν,nmU2_ge (by rw [hlen]; exact Nat.le_refl _),hlen]
  show base+(kO S - kO S)=base
  omega
 have mem5:∀ j,j ∈ [0,1,2,3,4,5]→j ∈ (VO k q).ix2 S:=fun j hj=>by
  show j ∈ cond S.g ([0,1,2,3,4,5]++(oneN (8+e1 S.L) S.so++[kO S])) ([0,1,2,3,4,5]++(oneN 8 S.L++oneN (8+e1 S.L) S.so))
  cases S.g with
  | true=>exact List.mem_append.2 (.inl hj)
  | false=>exact List.mem_append.2 (.inl hj)
 have memo:E'.s ≠ []→8+e1 E.L ∈ (VO k q).ix2 S:=fun hs0=>by
  show _ ∈ cond S.g ([0,1,2,3,4,5]++(oneN (8+e1 S.L) S.so++[kO S])) ([0,1,2,3,4,5]++(oneN 8 S.L++oneN (8+e1 S.L) S.so))
  rw [zL,zo]
  cases S.g with
  | true=>exact List.mem_append.2 (.inr (List.mem_append.2 (.inl (mem_oneN hs0))))
  | false=>exact List.mem_append.2 (.inr (List.mem_append.2 (.inr (mem_oneN hs0))))
 obtain ⟨A,hA⟩:∃ A,A=[p,N.t,N.w,N.b,N.a,N.r]++(oneN N.m E.L++oneN N'.x E'.s):=⟨_,rfl⟩
 have in5:∀ i,i ∈ [0,1,2,3,4,5]→ν i ∈ A:=fun i hi=>by
  rw [hA]
  refine List.mem_append.2 (.inl ?_)
  simp at hi
  rcases hi with rfl | rfl | rfl | rfl | rfl | rfl
  ·rw [v0]; simp
  ·rw [v1]; simp
  ·rw [v2]; simp
  ·rw [v3]; simp
  ·rw [v4]; simp
  ·rw [v5]; simp
 have ino:∀ i,i ∈ oneN (8+e1 S.L) S.so→ν i ∈ A:=fun i hi=>by
  rw [zL,zo] at hi
  obtain ⟨rfl,hs0⟩:=oneN_sub hi
  rw [vo hs0,hA]
  exact List.mem_append.2 (.inr (List.mem_append.2 (.inr (mem_oneN hs0))))
 have inA:∀ i,i ∈ [0,1,2,3,4,5]++(oneN 8 S.L++oneN (8+e1 S.L) S.so)→ν i ∈ A:=fun i hi=>by
  rcases List.mem_append.1 hi with hi | hi
  ·exact in5 i hi
  ·rcases List.mem_append.1 hi with hi | hi
   ·rw [zL] at hi
    obtain ⟨rfl,hs0⟩:=oneN_sub hi
    rw [v8 hs0,hA]
    exact List.mem_append.2 (.inr (List.mem_append.2 (.inl (mem_oneN hs0))))
   ·exact ino i hi
 have inA2:∀ i,i ∈ (VO k q).ix2 S→ν i ∈ A ∨ ν i=base:=fun i hi=>by
  have hi:i ∈ cond S.g ([0,1,2,3,4,5]++(oneN (8+e1 S.L) S.so++[kO S])) ([0,1,2,3,4,5]++(oneN 8 S.L++oneN (8+e1 S.L) S.so)):=hi
  cases hg:S.g with
  | false=>rw [hg] at hi; exact .inl (inA i hi)
  | true =>
   rw [hg] at hi
   simp only [cond_true] at hi
   rcases List.mem_append.1 hi with q | q
   ·exact .inl (in5 i q)
   ·rcases List.mem_append.1 q with q | q
    ·exact .inl (ino i q)
    ·simp at q
     rw [q]
     exact .inr vK
 -- the other names
 have notin:∀ n,n ∈ oneN N.x E.s++([N'.t,N'.w,N'.b,N'.a,N'.r]++oneN N'.m E'.L)→n ∉ A∧n < fr:=fun n hn=>by
  have hfr:n < fr:=h.lt n (by
   unfold own
   simp only [List.mem_append] at hn
   rcases hn with hn | hn | hn
   ·exact List.mem_cons_of_mem _ (List.mem_append.2 (.inl (List.mem_append.2 (.inr (List.mem_append.2 (.inl hn))))))
   ·exact List.mem_cons_of_mem _ (List.mem_append.2 (.inr (List.mem_append.2 (.inl hn))))
   ·exact List.mem_cons_of_mem _ (List.mem_append.2 (.inr (List.mem_append.2 (.inr (List.mem_append.2 (.inr hn)))))))
  refine ⟨fun hm => ?_,hfr⟩
  have nd:=h.nd
  unfold own at nd
  have e:p::([N.t,N.w,N.b,N.a,N.r]++(oneN N.x E.s++oneN N.m E.L)++([N'.t,N'.w,N'.b,N'.a,N'.r]++(oneN N'.x E'.s++oneN N'.m E'.L)))=[p,N.t,N.w,N.b,N.a,N.r]++(oneN N.x E.s++(oneN N.m E.L++([N'.t,N'.w,N'.b,N'.a,N'.r]++(oneN N'.x E'.s++oneN N'.m E'.L)))):=by simp
  rw [e,List.nodup_append] at nd
  obtain ⟨_,n2,n3⟩:=nd
  rw [List.nodup_append] at n2
  obtain ⟨_,n5,n6⟩:=n2
  rw [List.nodup_append] at n5
  obtain ⟨_,n8,n9⟩:=n5
  rw [List.nodup_append] at n8
  obtain ⟨_,n11,n12⟩:=n8
  rw [List.nodup_append] at n11
  obtain ⟨_,_,n13⟩:=n11
  rw [hA] at hm
  rcases List.mem_append.1 hm with hm | hm
  ·refine n3 n hm n ?_ rfl
   simp only [List.mem_append] at hn ⊢
   rcases hn with hn | hn | hn
   ·exact .inl hn
   ·exact .inr (.inr (.inl hn))
   ·exact .inr (.inr (.inr (.inr hn)))
  ·rcases List.mem_append.1 hm with hm | hm
   ·rcases List.mem_append.1 hn with hn | hn
    ·exact n6 n hn n (List.mem_append.2 (.inl hm)) rfl
    ·refine n9 n hm n ?_ rfl
     simp only [List.mem_append] at hn ⊢
     rcases hn with hn | hn
     ·exact .inl hn
     ·exact .inr (.inr hn)
   ·rcases List.mem_append.1 hn with hn | hn
    ·refine n6 n hn n ?_ rfl
     simp only [List.mem_append]
     exact .inr (.inr (.inl hm))
    ·rcases List.mem_append.1 hn with hn | hn
     ·exact n12 n hn n (List.mem_append.2 (.inl hm)) rfl
     ·exact n13 n hm n hn rfl
 have off:∀ n,n ∈ oneN N.x E.s++([N'.t,N'.w,N'.b,N'.a,N'.r]++oneN N'.m E'.L)→aget (appU H (upG (VO k q) S ν)) n=aget H n:=fun n hn=>by
  obtain ⟨hnA,hnf⟩:=notin n hn
  refine hoff (fun i hi e=>hnA (by rw [← e]; exact inA i hi)) fun i hi e => ?_
  rcases inA2 i hi with q | q
  ·exact hnA (by rw [← e]; exact q)
  ·rw [q] at e; omega
 have c5:∀ j,j ∈ [0,1,2,3,4,5]→aget (appU H (upG (VO k q) S ν)) (ν j)=some (.cells false ((VO k q).c2 ν S j)):=fun j hj=>hat (mem5 j hj)
 have hc0:=c5 0 (by simp); have hc1:=c5 1 (by simp); have hc2:=c5 2 (by simp); have hc3:=c5 3 (by simp); have hc4:=c5 4 (by simp); have hc5:=c5 5 (by simp)
 rw [v0] at hc0; rw [v1] at hc1; rw [v2] at hc2; rw [v3] at hc3; rw [v4] at hc4; rw [v5] at hc5
 have d0:(VO k q).c2 ν S 0=pK k (.ptr N.t 0) (.ptr N'.t 0) (.ptr N.r 0) (.ptr N'.r 0) (slS N.x E.s) (slS N'.x E'.s):=by
  show pK k (.ptr (ν 1) 0) (.ptr (ν 6) 0) (.ptr (ν 5) 0) (.ptr (ν 7) 0) (slS (ν (8+e1 S.L+e1 S.so)) S.sk) (slS (ν (8+e1 S.L)) S.so)=_
  rw [v1,v6,v5,v7,zL,zo,zs,slS_eq vo,slS_eq vs]
 have d1:(VO k q).c2 ν S 1=cT N.w N.a t2:=by
  show cT (ν 2) (ν 4) S.t2=_
  rw [v2,v4,zt]
 have d2:(VO k q).c2 ν S 2=cW N.b t2.w:=by
  show cW (ν 3) S.t2.w=_
  rw [v3,zt]
 have d3:(VO k q).c2 ν S 3=t2.w.L.map .u64:=by
  show S.t2.w.L.map AVal.u64=_
  rw [zt]
 have d4:(VO k q).c2 ν S 4=[.u64 t2.made]:=by
  show [AVal.u64 S.t2.made]=_
  rw [zt]
 have d5:(VO k q).c2 ν S 5=cD (slQ (cond g base N.m) (qL L2)) c2:=by
  show cD (slQ (ν (cond S.g (kO S) 8)) (qL S.L2)) S.c2=_
  rw [zg,z2,zc]
  congr 1
  refine slQ_eq fun hL2 => ?_
  cases g with
  | true=>exact vK
  | false=>exact v8 (by rw [← hg0 rfl]; exact hL2)
 rw [d0] at hc0; rw [d1] at hc1; rw [d2] at hc2; rw [d3] at hc3; rw [d4] at hc4; rw [d5] at hc5
 rw [← hν]
 have hhead:HeadK p (p::(own N E++own N' E')) fr H (appU H (upG (VO k q) S ν)):=by
  intro z hz hzf
  have hzA:z ∉ A:=fun hm=>by
   refine hz ?_
   rw [hA] at hm
   unfold own
   simp only [List.mem_append,List.mem_cons,List.mem_nil_iff,or_false] at hm ⊢
   rcases hm with (h | h | h | h | h | h) | h | h <;> simp [h]
  refine hoff (fun i hi e=>hzA (by rw [← e]; exact inA i hi)) fun i hi e => ?_
  rcases inA2 i hi with q | q
  ·exact hzA (by rw [← e]; exact q)
  ·rw [q] at e; omega
 refine ⟨?_,hhead⟩
 refine ⟨hc0,⟨hc1,hc2,hc3,hc4,hc5,fun hL0 => ?_,fun hs0 => ?_⟩,⟨?_,?_,?_,?_,?_,fun hL0 => ?_,fun hs0 => ?_⟩,?_,?_⟩
 ·show aget _ (cond g base N.m)=some (AObj.cells false (L2.map .u64))
  have hL0:L2 ≠ []:=hL0
  have hext:∀ i,(i=cond S.g (kO S) 8)→8≤i→(VO k q).c2 ν S i=L2.map .u64:=fun i hi h8=>by
   obtain ⟨j,hj⟩:∃ j,i=j+6:=⟨i - 6,by omega⟩
   show cV _ ν S.t2 S.c2 _ (extO (cond S.g (kO S) 8) S.L2 S.so) i=_
   rw [hj]
   show extO (cond S.g (kO S) 8) S.L2 S.so (j+6)=_
   rw [← hj,← hi,z2]
   unfold extO
   rw [Nat.beq_refl]
   cases hE:L2 with
   | nil=>exact absurd hE hL0
   | cons a l=>rfl
  cases hg:g with
  | true =>
   have hm:kO S ∈ (VO k q).ix2 S:=by
    show kO S ∈ cond S.g ([0,1,2,3,4,5]++(oneN (8+e1 S.L) S.so++[kO S])) _
    rw [zg,hg]
    exact List.mem_append.2 (.inr (List.mem_append.2 (.inr (by simp))))
   have:=hat hm
   rw [vK,hext (kO S) (by rw [zg,hg]; rfl) (by omega)] at this
   rw [cond_true]; exact this
  | false =>
   have e0:=hg0 hg
   have hL1:E.L ≠ []:=by rw [← e0]; exact hL0
   have hm:8 ∈ (VO k q).ix2 S:=by
    show 8 ∈ cond S.g _ ([0,1,2,3,4,5]++(oneN 8 S.L++oneN (8+e1 S.L) S.so))
    rw [zg,hg,zL]
    exact List.mem_append.2 (.inr (List.mem_append.2 (.inl (mem_oneN hL1))))
   have:=hat hm
   rw [v8 hL1,hext 8 (by rw [zg,hg]; rfl) (Nat.le_refl _)] at this
   rw [cond_false]; exact this
 ·show aget _ N.x=_
  rw [off _ (List.mem_append.2 (.inl (mem_oneN hs0)))]
  exact h.o.x hs0
 ·rw [off _ (List.mem_append.2 (.inr (List.mem_append.2 (.inl (by simp)))))]; exact h.o'.t
 ·rw [off _ (List.mem_append.2 (.inr (List.mem_append.2 (.inl (by simp)))))]; exact h.o'.w
 ·rw [off _ (List.mem_append.2 (.inr (List.mem_append.2 (.inl (by simp)))))]; exact h.o'.b
 ·rw [off _ (List.mem_append.2 (.inr (List.mem_append.2 (.inl (by simp)))))]; exact h.o'.a
 ·rw [off _ (List.mem_append.2 (.inr (List.mem_append.2 (.inl (by simp)))))]; exact h.o'.r
 ·rw [off _ (List.mem_append.2 (.inr (List.mem_append.2 (.inr (mem_oneN hL0)))))]; exact h.o'.m hL0
 ·have:=hat (memo hs0)
  rw [vo hs0] at this
  rw [this]
  obtain ⟨j,hj⟩:∃ j,8+e1 E.L=j+6:=⟨2+e1 E.L,by omega⟩
  show some (AObj.cells false (cV _ ν S.t2 S.c2 _ (extO (cond S.g (kO S) 8) S.L2 S.so) (8+e1 E.L)))=_
  rw [hj]
  show some (AObj.cells false (extO (cond S.g (kO S) 8) S.L2 S.so (j+6)))=_
  rw [← hj,zo]
  unfold extO
  have hne:(Nat.beq (8+e1 E.L) (cond S.g (kO S) 8) && !S.L2.isEmpty)=false:=by
   rw [zg,z2]
   cases hg:g with
   | true =>
    have:Nat.beq (8+e1 E.L) (kO S)=false:=by
     cases hbq:Nat.beq (8+e1 E.L) (kO S) with
     | false=>rfl
     | true=>have:=Nat.eq_of_beq_eq_true hbq; have:=e1_pos hs0; omega
    rw [cond_true,this]; rfl
   | false =>
    rw [hg0 hg,cond_false]
    cases hE:E.L with
    | nil=>simp
    | cons a l=>rfl
  rw [hne]; rfl
 ·have nd:=h.nd
  cases hg:g with
  | false=>rw [hg0 hg]; exact nd
  | true =>
   rw [cond_true]
   show (p::([N.t,N.w,N.b,N.a,N.r]++(oneN N.x E.s++oneN base L2)++own N' E')).Nodup
   have hbn:∀ n,n ∈ p::(own N E++own N' E')→n ≠ base:=fun n hn=>by
    have:=h.lt n hn
    omega
   obtain ⟨X,hX⟩:∃ X,X=own N' E':=⟨_,rfl⟩
   rw [← hX] at nd hbn ⊢
   unfold own at nd hbn
   have e2:p::([N.t,N.w,N.b,N.a,N.r]++(oneN N.x E.s++oneN N.m E.L)++X)=([p,N.t,N.w,N.b,N.a,N.r]++oneN N.x E.s)++(oneN N.m E.L++X):=by simp
   have e3:p::([N.t,N.w,N.b,N.a,N.r]++(oneN N.x E.s++oneN base L2)++X)=([p,N.t,N.w,N.b,N.a,N.r]++oneN N.x E.s)++(oneN base L2++X):=by simp
   rw [e2] at nd hbn
   rw [e3]
   rw [List.nodup_append] at nd
   obtain ⟨n1,n2,n3⟩:=nd
   rw [List.nodup_append] at n2
   refine List.nodup_append.2 ⟨n1,List.nodup_append.2 ⟨?_,n2.2.1,fun a ha d hd ee => ?_⟩,fun a ha d hd ee => ?_⟩
   ·cases L2 <;> simp [oneN]
   ·have e0:=(oneN_sub ha).1
    exact hbn d (List.mem_append.2 (.inr (List.mem_append.2 (.inr hd)))) (by rw [← ee,e0])
   ·rcases List.mem_append.1 hd with hd | hd
    ·have e0:=(oneN_sub hd).1
     exact hbn a (List.mem_append.2 (.inl ha)) (by rw [ee,e0])
    ·exact n3 a ha d (List.mem_append.2 (.inr hd)) ee
 ·intro n hn
  have hn:n ∈ p::([N.t,N.w,N.b,N.a,N.r]++(oneN N.x E.s++oneN (cond g base N.m) L2)++own N' E'):=hn
  have hcase:n=base ∨ n ∈ p::(own N E++own N' E'):=by
   obtain ⟨X,hX⟩:∃ X,X=own N' E':=⟨_,rfl⟩
   rw [← hX] at hn ⊢
   unfold own
   rw [List.mem_cons,List.mem_append,List.mem_append,List.mem_append] at hn
   rw [List.mem_cons,List.mem_append,List.mem_append,List.mem_append]
   rcases hn with hn | (hn | hn | hn) | hn
   ·exact .inr (.inl hn)
   ·exact .inr (.inr (.inl (.inl hn)))
   ·exact .inr (.inr (.inl (.inr (.inl hn))))
   ·cases hg:g with
    | true=>rw [hg] at hn; exact .inl (oneN_sub hn).1
    | false=>rw [hg,hg0 hg] at hn; exact .inr (.inr (.inl (.inr (.inr hn))))
   ·exact .inr (.inr (.inr hn))
  rcases hcase with rfl | hn
  ·omega
  ·have:=h.lt n hn; omega
end
end Go.Proofs.Ytjdhndicgifnbaa.Tun
namespace Go.Proofs.Ytjdhndicgifnbaa.Tun
open Go Go.Eng Go.Proofs.Ytjdhndicgifnbaa
structure Bd (E:En) (j:Nat):Prop where
 rel:TRel E.t E.c E.L
 ls:E.s.length≤j
 lL:E.L.length≤j
 bs:∀ x,x ∈ E.s→x.2.length≤100000
theorem Bd.mono {E:En}{j i:Nat}(h:Bd E j) (hi:j≤i):Bd E i:=⟨h.rel,by have:=h.ls; omega,by have:=h.lL; omega,h.bs⟩
theorem sealDG_keys {E:En}{j:Nat}(h:Bd E j){now:UInt64}{x:List UInt8}(hg:sealDG now x E.c=true):E.c.send.length=32:=by
 have hn:E.c.gone=false:=by
  cases hq:E.c.gone with
  | false=>rfl
  | true =>
   have:=over_gone (now:=now) hq
   unfold sealDG at hg
   rw [this] at hg
   cases hg
 obtain ⟨a,b,c,d⟩:=h.rel.keys hn
 rw [← a]; exact c
theorem turnL_len (c:List UInt8) (j:Nat):(turnL c j).length=c.length:=by unfold turnL; simp
theorem pickX_len {q:Stp}{so:SL}(hq:q.s.length≤9223372036854775807) (hs:∀ x,x ∈ so→x.2.length≤100000):(pickX q so).2.length≤9223372036854775807:=by
 cases so with
 | nil=>exact hq
 | cons a l =>
  have hx:((a::l).getD (idxI q.wh (a::l).length) (0,[])).2.length≤9223372036854775807:=by
   have hlt:=(idxI_lt (x:=q.wh) (len:=(a::l).length) (by simp)).1
   rw [List.getD_eq_getElem?_getD,List.getElem?_eq_getElem hlt]
   exact Nat.le_trans (hs _ (List.getElem_mem hlt)) (by decide)
  unfold pickX
  cases decide (q.d < 6) with
  | false=>exact hq
  | true =>
   simp only [cond_true]
   cases (q.d == 2) with
   | false =>
    simp only [cond_false]
    cases (q.d == 3) <;> exact hx
   | true =>
    simp only [cond_true]
    generalize decide (0 < (((a::l).getD (idxI q.wh (a::l).length) (0,[])).2.length:Int))=b
    cases b with
    | false=>exact hx
    | true=>simp only [cond_true]; rw [turnL_len]; exact hx
theorem do_step {k:Bool}{p:Nat}{N N':Ns}{E E':En}{H:HL}{fr j:Nat}(h:QInv k p N N' E E' H fr) (hE:Bd E j) (hE':Bd E' j) (hj:j≤1000){q:Stp}(hk:kOf q=k) (hq:q.s.length≤9223372036854775807){base:Nat}(hb:fr≤base) :
  ∃ H' m2 x2 E2,(doE q p).app base H=some (.bool true,H')∧QInv k p ⟨N.t,N.w,N.b,N.a,N.r,m2,x2⟩ N' E2 E' H' (base+1)∧Bd E2 (j+1)∧HeadK p (p::(own N E++own N' E')) fr H H':=by
 unfold doE
 rw [hk]
 cases h0:(q.d == 0) with
 | true =>
  simp only [cond_true]
  obtain ⟨s1,s2,s3⟩:=seal_eq hE.rel q.now q.s
  have hok:okSe q ⟨E.t,E.c,E.L,E.s,E'.s,sealDG q.now q.s E.c,sealN q.now q.s E.t,sealDN q.now q.s E.c,E.L,cond (sealDG q.now q.s E.c) (E.s++[(E.c.next,sealT q E.c)]) E.s⟩=true:=decP_of ⟨hE.rel,by have:=hE.ls; show E.s.length < _; omega,rfl⟩
  obtain ⟨H',a1,a2,a3⟩:=stepA h (q:=q) (sh:=true) (keeps_seal q) (ok:=okSe q) rfl hok (fun hg=>by rw [hg]; rfl) (fun _=>rfl) hb
  refine ⟨H',_,_,_,a1,a2,⟨s3,?_,by have:=hE.lL; show E.L.length≤j+1; omega,?_⟩,a3⟩
  ·show (cond (sealDG q.now q.s E.c) (E.s++[(E.c.next,sealT q E.c)]) E.s).length≤j+1
   have:=hE.ls
   cases sealDG q.now q.s E.c with
   | true=>rw [cond_true,List.length_append]; show E.s.length+1≤j+1; omega
   | false=>rw [cond_false]; omega
  ·intro x hx
   have hx:x ∈ cond (sealDG q.now q.s E.c) (E.s++[(E.c.next,sealT q E.c)]) E.s:=hx
   cases hg:sealDG q.now q.s E.c with
   | false=>rw [hg] at hx; exact hE.bs x hx
   | true =>
    rw [hg] at hx
    rcases List.mem_append.1 hx with hx | hx
    ·exact hE.bs x hx
    ·have:x=(E.c.next,sealT q E.c):=by simpa using hx
     rw [this]
     show (sealT q E.c).length≤100000
     unfold sealT
     have hq2:q.s.length≤65536:=by
      have h2:(Ae.seF E.c.send (Ae.nonL E.c.next) [] q.s).2=0:=by
       unfold sealDG at hg
       simp only [Bool.and_eq_true,Bool.not_eq_true',bne_eq_false_iff_eq] at hg
       exact hg.2.2.2
      by_cases c:q.s.length≤65536
      ·exact c
      ·have hm:=Ae.mayN (sealDG_keys hE hg) E.c.next
       unfold Ae.seF at h2
       rw [hm,cond_true,if_pos (.inr (by omega))] at h2
       cases h2
     rw [Ae.se_len (Ae.mayN (sealDG_keys hE hg) _) hq2]
     omega
 | false =>
  simp only [cond_false]
  cases h4:(q.d == 4) with
  | true =>
   simp only [cond_true]
   have hok:okRe ⟨E.t,E.c,E.L,E.s,E'.s,false,E.t,E.c,E.L,E.s⟩=true:=decP_of rfl
   obtain ⟨H',a1,a2,a3⟩:=stepA h (q:=q) (sh:=false) keeps_rest (ok:=okRe) rfl hok (fun _=>rfl) (fun hg=>by cases hg) hb
   exact ⟨H',_,_,_,a1,a2,hE.mono (Nat.le_succ j),a3⟩
  | false =>
   simp only [cond_false]
   cases h5:(q.d == 5) with
   | true =>
    simp only [cond_true]
    have hok:okWi ⟨E.t,E.c,E.L,E.s,E'.s,false,wipeT E.t,goneD E.c,E.L,E.s⟩=true:=decP_of rfl
    obtain ⟨H',a1,a2,a3⟩:=stepA h (q:=q) (sh:=false) keeps_wipe (ok:=okWi) rfl hok (fun _=>rfl) (fun hg=>by cases hg) hb
    exact ⟨H',_,_,_,a1,a2,⟨wipe_rel hE.rel,by have:=hE.ls; show E.s.length≤j+1; omega,by have:=hE.lL; show E.L.length≤j+1; omega,hE.bs⟩,a3⟩
   | false =>
    simp only [cond_false]
    obtain ⟨o1,o2,o3⟩:=open_eq hE.rel q.now (pickX q E'.s).1 (pickX q E'.s).2
    have hz:Ae.slR (pickX q E'.s).2=true:=Nat.ble_eq_true_of_le (pickX_len hq hE'.bs)
    have hl:lenOk (E.c,E.L)=true:=by
     unfold lenOk
     have:=hE.lL
     have:E.L.length < 1000000000:=by omega
     simpa [Nat.blt_eq] using this
    have hok:okOp q ⟨E.t,E.c,E.L,E.s,E'.s,openDG q.now (pickX q E'.s).1 (pickX q E'.s).2 (E.c,E.L),openN q.now (pickX q E'.s).1 (pickX q E'.s).2 E.t,(openDN q.now (pickX q E'.s).1 (pickX q E'.s).2 (E.c,E.L)).1,(openDN q.now (pickX q E'.s).1 (pickX q E'.s).2 (E.c,E.L)).2,E.s⟩=true:=decP_of ⟨hE.rel,hl,hz,rfl⟩
    obtain ⟨H',a1,a2,a3⟩:=stepO h (q:=q) (keeps_open q) (ok:=okOp q) rfl hok (fun hg=>by rw [openDN_no hg]) hb
    refine ⟨H',_,_,_,a1,a2,⟨o3,by have:=hE.ls; show E.s.length≤j+1; omega,?_,hE.bs⟩,a3⟩
    show (openDN q.now (pickX q E'.s).1 (pickX q E'.s).2 (E.c,E.L)).2.length≤j+1
    have:=hE.lL
    unfold openDN
    cases openDG q.now (pickX q E'.s).1 (pickX q E'.s).2 (E.c,E.L) with
    | true=>rw [cond_true]; show (E.L++[_]).length≤j+1; rw [List.length_append]; show E.L.length+1≤j+1; omega
    | false=>rw [cond_false]; show E.L.length≤j+1; omega
end Go.Proofs.Ytjdhndicgifnbaa.Tun
namespace Go.Proofs.Ytjdhndicgifnbaa.Tun
open Go Go.Eng Go.Proofs.Ytjdhndicgifnbaa Go.Proofs.Ytjdhndicgifnbaa.Pol
def stRow (l:List Stp):List AVal:=l.flatMap Stp.C
def unSt:List AVal→Option (List Stp)
 | []=>some []
 | .int .i64 d::.u8 a::.str s::.int .i64 wh::.int .i64 n::.u64 now::l=>match unSt l with
  | some r=>some (⟨d,a,s,wh,n,now⟩::r)
  | none=>none
 | _=>none
theorem unSt_row:∀ l:List Stp,unSt (stRow l)=some l
 | []=>rfl
 | ⟨d,a,s,wh,n,now⟩::l=>by
  show unSt (.int .i64 d::.u8 a::.str s::.int .i64 wh::.int .i64 n::.u64 now::stRow l)=_
  rw [unSt,unSt_row l]
theorem unSt_some:∀ (l:List AVal) (r:List Stp),unSt l=some r→l=stRow r
 | l,r,h=>by
  unfold unSt at h
  split at h
  ·cases h; rfl
  ·rename_i d a s wh n now l'
   split at h
   ·rename_i r' hr
    cases h
    rw [unSt_some l' r' hr]; rfl
   ·cases h
  ·cases h
 termination_by l=>l.length
theorem stRow_at (l:List Stp) (i:Nat) (x:Stp) (h:l[i]? = some x):((stRow l).drop (i * 6)).take 6=x.C:=by
 induction l generalizing i with
 | nil=>simp at h
 | cons a l ih =>
  have e:stRow (a::l)=a.C++stRow l:=rfl
  cases i with
  | zero =>
   simp at h
   subst h
   rw [e]
   rfl
  | succ i =>
   rw [e,show (i+1) * 6=6+i * 6 by omega,← List.drop_drop]
   exact ih i (by simpa using h)
def acc (l:List Stp):Nat→Int
 | 0=>0
 | i+1=>IntKind.wrap .i64 (IntKind.wrap .i64 (acc l i+8)+((l.getD i ⟨0,0,[],0,0,0⟩).s.length:Int))
theorem acc_end (l:List Stp):∃ N,N≤l.length∧(∀ i,i < N→acc l i≤4096)∧(N=l.length ∨ 4096 < acc l N):=by
 have key:∀ m,(∀ i,i < m→acc l i≤4096) ∨ ∃ N,N < m∧(∀ i,i < N→acc l i≤4096)∧4096 < acc l N:=by
  intro m
  induction m with
  | zero=>exact .inl fun i h=>by omega
  | succ m ih =>
   rcases ih with h | ⟨N,h1,h2,h3⟩
   ·by_cases c:acc l m≤4096
    ·exact .inl fun i hi=>by
      by_cases e:i=m
      ·rw [e]; exact c
      ·exact h i (by omega)
    ·exact .inr ⟨m,by omega,h,by omega⟩
   ·exact .inr ⟨N,by omega,h2,h3⟩
 rcases key l.length with h | ⟨N,h1,h2,h3⟩
 ·exact ⟨l.length,Nat.le_refl _,h,.inl rfl⟩
 ·exact ⟨N,by omega,h2,.inr h3⟩
noncomputable def accN (l:List Stp):Nat:=(acc_end l).choose
theorem accN_ok (l:List Stp):accN l≤l.length∧(∀ i,i < accN l→acc l i≤4096)∧(accN l=l.length ∨ 4096 < acc l (accN l)):=(acc_end l).choose_spec
noncomputable def heavyV (l:List Stp):Bool:=cond (decide (4096 < acc l (accN l))) true (decide ((100:Int) < (l.length:Int)))
noncomputable def L7:Code:=loopOf ((pieces (bodyOf Try.f7)).getD 3 .skip)
def S7 (ro:Bool) (l:List Stp) (x:Int) (i:Nat):SA:=⟨[(0,.slice 0 0 l.length 6),(2,.bool false),(3,.int .i64 x),(4,.int .i64 (i:Int))],[(0,.cells ro (stRow l))],25⟩
def sy7:List Nat:=[8,11,19,21,200014,200023,25]
section
variable (ro:Bool) (l:List Stp) (x y:Int) (i j F:Nat) (s:List UInt8)
theorem p7_3:(pieces (bodyOf Try.f7))[3]? = some (.block 0 (.loop L7)):=by kernel_rfl
theorem w7p:segO (evSO Try.prog noPS noCS sy7 Try.f7.ntmps (mask 7) (F+100) 1 ((pieces (bodyOf Try.f7)).take 3) ⟨startT [.slice 0 0 l.length 6] 0,[(0,.cells ro (stRow l))],1⟩ ⟨[],[],[]⟩)=some (S7 ro l 0 0,[]):=by kernel_rfl
theorem w7r:roundO2 Try.prog noPS noCS sy7 [true,true] [.str s,.int .i64 y,.int .i64 (j:Int)] Try.f7.ntmps (mask 7) F 1 L7 (S7 ro l 0 0) (S7 ro l x i)=some (S7 ro l y j,[eqS (.int .i64 (IntKind.wrap .i64 ((i:Int)+1))) (.int .i64 (j:Int)),eqS (.int .i64 (IntKind.wrap .i64 (IntKind.wrap .i64 (x+8)+(s.length:Int)))) (.int .i64 y),isAt (stRow l) ((0+(Int.toNat (i:Int)) * 6)+2) (.str s),decide (0≤(i:Int)) && decide ((i:Int) < (l.length:Int)),decide (x≤4096),decide ((i:Int) < (l.length:Int))]):=by kernel_rfl
theorem w7a:endM Try.prog noPS noCS sy7 Try.f7 [0] (mask 7) F 1 0 L7 ((pieces (bodyOf Try.f7)).drop 4) (S7 ro l x i) ⟨[false,true],[],[]⟩=some (.bool true,[some (.cells ro (stRow l))],[decide (4096 < x),!decide ((i:Int) < (l.length:Int))]):=by kernel_rfl
theorem w7b:endM Try.prog noPS noCS sy7 Try.f7 [0] (mask 7) F 1 0 L7 ((pieces (bodyOf Try.f7)).drop 4) (S7 ro l x i) ⟨[false,false],[],[]⟩=some (.bool (decide ((100:Int) < (l.length:Int))),[some (.cells ro (stRow l))],[!decide (4096 < x),!decide ((i:Int) < (l.length:Int))]):=by kernel_rfl
theorem w7c:endM Try.prog noPS noCS sy7 Try.f7 [0] (mask 7) F 1 0 L7 ((pieces (bodyOf Try.f7)).drop 4) (S7 ro l x i) ⟨[true,false,true],[],[]⟩=some (.bool true,[some (.cells ro (stRow l))],[decide (4096 < x),!decide (x≤4096),decide ((i:Int) < (l.length:Int))]):=by kernel_rfl
end
theorem ltS_row (m:Nat) (l:List Stp):ltL m (stRow l)=true:=by
 induction l with
 | nil=>rfl
 | cons a l ih=>exact ih
theorem ok7 (ro:Bool) (l:List Stp) (x:Int) (i:Nat):okS Try.prog (S7 ro l x i)=true:=by
 have h:Nat.ble Try.prog.globals.size 25=true:=by kernel_rfl
 have h2:ltH 25 [(0,.cells ro (stRow l))]=true:=by
  simp only [ltH,ltS_row 25 l]
  rfl
 unfold okS S7
 simp only [h,h2]
 rfl
theorem row_s {l:List Stp}{i:Nat}(h:i < l.length):isAt (stRow l) ((0+(Int.toNat (i:Int)) * 6)+2) (.str (l.getD i ⟨0,0,[],0,0,0⟩).s)=true:=by
 refine isAt_of (v:=.str (l.getD i ⟨0,0,[],0,0,0⟩).s) ?_ (by simp [eqS])
 have e:=stRow_at l i _ (List.getElem?_eq_getElem h)
 rw [Int.toNat_natCast,Nat.zero_add,List.getD_eq_getElem?_getD,List.getElem?_eq_getElem h]
 have:=congrArg (fun z=>z[2]?) e
 rw [List.getElem?_take,if_pos (by decide),List.getElem?_drop] at this
 rw [this]
 rfl
theorem eqI2 {i n:Nat}(h:i < n) (hn:n≤9223372036854775807):eqS (.int .i64 (IntKind.wrap .i64 ((i:Int)+1))) (.int .i64 ((i+1:Nat):Int))=true:=by
 rw [wrapI _ (by omega) (by omega)]
 simp [eqS]
theorem run7 (ro:Bool) (l:List Stp) (hl:l.length≤9223372036854775807):ansR [0] (run1 Try.prog noCS (mask 7) (l.length+100+100) 7 [.slice 0 0 l.length 6] [(0,.cells ro (stRow l))] 1)=some (.bool (heavyV l),[some (.cells ro (stRow l))]):=by
 obtain ⟨h1,h2,h3⟩:=accN_ok l
 have step:∀ i,i < accN l→roundA (evC Try.prog noCS Try.f7.ntmps (mask 7) (l.length+100+100) 1 L7) (headA Try.prog 1 (S7 ro l (acc l 0) 0)) (S7 ro l (acc l i) i)=some (S7 ro l (acc l (i+1)) (i+1)):=fun i hi=>by
  have r:=w7r ro l (acc l i) (acc l (i+1)) i (i+1) (l.length+100+100) (l.getD i ⟨0,0,[],0,0,0⟩).s
  have hil:i < l.length:=by omega
  exact roundO2_ok (noPS_ok _) r (allT_c (eqI2 hil hl) (allT_c (by show eqS (.int .i64 (acc l (i+1))) (.int .i64 (acc l (i+1)))=true; simp [eqS]) (allT_c (row_s hil) (allT_c (inI hil) (allT_c (decide_eq_true (h2 i hi)) (allT_c (ltI hil) rfl)))))) (ok7 ro l _ _)
 have fin:∀ {v:AVal} {os1:List Bool} {ob1:List Bool},endM Try.prog noPS noCS sy7 Try.f7 [0] (mask 7) (l.length+100+100) 1 0 L7 ((pieces (bodyOf Try.f7)).drop 4) (S7 ro l (acc l (accN l)) (accN l)) ⟨os1,[],[]⟩=some (v,[some (.cells ro (stRow l))],ob1)→allT ob1=true→ansR [0] (run1 Try.prog noCS (mask 7) (l.length+100+100) 7 [.slice 0 0 l.length 6] [(0,.cells ro (stRow l))] 1)=some (v,[some (.cells ro (stRow l))]):=fun he ha =>
  run_loopM (fn:=Try.f7) (noPS_ok _) (by kernel_rfl) (c:=bodyOf Try.f7) (by kernel_rfl) (by kernel_rfl) 3 p7_3 (fun i=>S7 ro l (acc l i) i) (accN l) (w7p ro l (l.length+100)) rfl step he ha (by omega)
 unfold heavyV
 cases hc:decide (4096 < acc l (accN l)) with
 | true =>
  simp only [cond_true]
  by_cases e:accN l=l.length
  ·refine fin (w7a ro l _ _ _) (allT_c hc (allT_c ?_ rfl))
   rw [e]; simp
  ·refine fin (w7c ro l _ _ _) (allT_c hc (allT_c ?_ (allT_c (ltI (by omega)) rfl)))
   have:¬ acc l (accN l)≤4096:=by have:=of_decide_eq_true hc; omega
   rw [decide_eq_false this]; rfl
 | false =>
  simp only [cond_false]
  have hn:=of_decide_eq_false hc
  rcases h3 with h3 | h3
  ·refine fin (w7b ro l _ _ _) (allT_c (by rw [hc]; rfl) (allT_c ?_ rfl))
   rw [h3]; simp
  ·exact absurd h3 hn
noncomputable def heavyG (len:Nat) (c:List AVal):Option AVal:=
 match unSt c with
 | some l=>cond (Nat.beq l.length len && Nat.ble len 9223372036854775807) (some (.bool (heavyV l))) none
 | none=>none
noncomputable def g7:List AVal→Option EffA
 | [.nilSlice]=>some (.pure (.bool false))
 | [.slice n 0 0 6]=>some (.pure (.bool false))
 | [.slice n 0 len 6]=>some (.read n (rdG (heavyG len)))
 | _=>none
theorem w7nil:(run1 Try.prog noCS (mask 7) 200 7 [.nilSlice] [] Try.prog.globals.size).map (·.1)=some (.bool false):=by kernel_rfl
theorem w7emp:(run1 Try.prog noCS (mask 7) 200 7 [.slice 0 0 0 6] [] 1).map (·.1)=some (.bool false):=by kernel_rfl
theorem g7_ok:CSOk Try.prog (csOne 7 g7):=csOne_ok fun args e he=>by
 unfold g7 at he
 split at he
 ·cases he; exact callOk_val (noCS_ok _) hmix w7nil rfl rfl
 ·cases he
  exact callOk_empty (noCS_ok _) hmix (xs:=[]) rfl rfl ⟨mask 7,200,by rw [gl]; exact w7emp⟩
 ·rename_i n len _
  cases he
  refine callOk_slice1 (noCS_ok _) hmix (xs:=[]) rfl fun ro c v hg hv hc => ?_
  unfold heavyG at hg
  split at hg
  ·rename_i l hl
   cases hq:(Nat.beq l.length len && Nat.ble len 9223372036854775807) <;> rw [hq] at hg <;> simp only [cond_true,cond_false] at hg
   ·cases hg
   ·rw [Bool.and_eq_true] at hq
    have e1:=Nat.eq_of_beq_eq_true hq.1
    have e2:=Nat.le_of_ble_eq_true hq.2
    subst e1
    simp only [Option.some.injEq] at hg
    subst hg
    have hcc:=unSt_some c l hl
    subst hcc
    have r:=run7 ro l e2
    unfold ansR at r
    split at r
    ·rename_i v' H' fr' hr
     simp only [Option.some.injEq,Prod.mk.injEq] at r
     obtain ⟨rfl,r2⟩:=r
     refine ⟨_,_,_,by rw [gl]; exact hr,rfl,?_⟩
     rw [gl]
     have:=congrArg (fun z=>z[0]?) r2
     simpa using this
    ·cases r
  ·cases hg
 ·cases he
theorem heavy_len {l:List Stp}(h:heavyV l=false):l.length≤100:=by
 unfold heavyV at h
 cases hc:decide (4096 < acc l (accN l)) with
 | true=>rw [hc] at h; cases h
 | false =>
  rw [hc,cond_false] at h
  have:=of_decide_eq_false h
  omega
end Go.Proofs.Ytjdhndicgifnbaa.Tun
namespace Go.Proofs.Ytjdhndicgifnbaa.Tun
open Go Go.Eng Go.Proofs.Ytjdhndicgifnbaa Go.Proofs.Ytjdhndicgifnbaa.Pol
noncomputable def csR:CS:=csAlt (csOne 7 g7) (csAlt (csOne 11 g11) (csAlt (csOne 12 k12) (csAlt (csOne 14 k14) (csAlt (csOne 16 k16) (csAlt (csOne 17 k17) (csAlt (csOne 8 g8) csT))))))
theorem csR_ok:CSOk Try.prog csR:=csAlt_ok g7_ok (csAlt_ok g11_ok (csAlt_ok k12_ok (csAlt_ok k14_ok (csAlt_ok k16_ok (csAlt_ok k17_ok (csAlt_ok g8_ok csT_ok))))))
noncomputable def ld (n off:Nat) (v:AVal) (b:Nat) (H:HL):Bool:=decP (EffA.app (.read n fun ob=>match ob with | .cells ro c=>c[off]?) b H=some (v,H))
theorem ld_of {n off b:Nat}{v:AVal}{H:HL}{ro:Bool}{c:List AVal}(h:aget H n=some (.cells ro c)) (hc:c[off]? = some v):ld n off v b H=true:=decP_of (by simp only [EffA.app,h,hc])
theorem mOb_of {e:EffA}{b:Nat}{H H':HL}{v:AVal}(h:e.app b H=some (v,H')):mOb e b H v H'=true:=decP_of h
def blkT:Code→Code
 | .block _ d=>d
 | c=>c
noncomputable def L5:Code:=loopOf ((pieces (bodyOf Try.f3)).getD 5 .skip)
noncomputable def M7:Code:=loopOf ((pieces (bodyOf Try.f3)).getD 7 .skip)
noncomputable def D7:Code:=blkT ((pieces M7).getD 2 .skip)
noncomputable def L74:Code:=loopOf ((pieces D7).getD 3 .skip)
section
variable (q:Stp) (o1 o2 o3:Bool) (v4:UInt64) (f0 n:Nat) (g1 g2 g3 g4 g5:List UInt8) (now rc ct rk lf:UInt64) (sz:Int) (X:List AVal) (j:Nat) (H:HL)
def T5 (k:Int):TL:=[(0,gotA g1 g2 g3 g4 g5),(1,.u64 now),(2,limA rc ct rk lf sz),(3,.slice 0 0 n 6),(4,.ptr 1 0),(6,.ptr 9 0),(8,.bool false),(31,.bool false),(9,.ptr 121 0),(10,.int .i64 k)]
def T7 (j:Int):TL:=[(0,gotA g1 g2 g3 g4 g5),(1,.u64 now),(2,limA rc ct rk lf sz),(3,.slice 0 0 n 6),(4,.ptr 1 0),(6,.ptr 9 0),(8,.bool false),(31,.bool false),(9,.ptr 121 0),(10,.int .i64 2),(34,.bool false),(16,.int .i64 j)]
def TI (j k:Int):TL:=[(0,gotA g1 g2 g3 g4 g5),(1,.u64 now),(2,limA rc ct rk lf sz),(3,.slice 0 0 n 6),(4,.ptr 1 0),(6,.ptr 9 0),(8,.bool false),(31,.bool false),(9,.ptr 121 0),(10,.int .i64 2),(34,.bool false),(16,.int .i64 j)]++[(88,.bool true),(96,.bool false),(17,.int .i64 k)]
theorem w3in0:evT Try.prog noPS csR [112,119,128,135,123,139,148,157,300104,300108,300114,300121,300130,300137,300115,300122,300131,300138,300143,300147,300152,300156] Try.f3.ntmps (mask 3) 200 1 L74 ⟨TI n g1 g2 g3 g4 g5 now rc ct rk lf sz j 0,H,(f0+1089)⟩ ⟨[false,false,false,false],[.ptr 233 0,.tup [],.ptr 321 0,.tup [],.u64 q.now,.tup [],.bool o1,.tup [],.u64 q.now,.tup [],.bool o1,.tup [],.u64 q.now,.tup [],.bool o2,.tup [],.u64 q.now,.tup [],.bool o2,.tup [],.bool o3,.tup [],.bool o3,.tup [],.u64 v4,.tup [],.u64 v4,.tup []],[]⟩=some (.normal,⟨[(0,gotA g1 g2 g3 g4 g5),(1,.u64 now),(2,limA rc ct rk lf sz),(3,.slice 0 0 n 6),(4,.ptr 1 0),(6,.ptr 9 0),(8,.bool false),(31,.bool false),(9,.ptr 121 0),(10,.int .i64 2),(34,.bool false),(16,.int .i64 (j:Int))]++[(88,.bool true),(96,.bool false),(17,.int .i64 1),(98,.bool true),(18,.ptr 233 0),(19,.ptr 321 0),(158,.bool false)],H,(((((f0+1089)+16)+40)+40)+400)+24⟩,⟨[],[],[!(v4 != v4),ld 321 9 (.u64 v4) (((((f0+1089)+16)+40)+40)+376) H,mOb (lkT 233 fun s=>.u64 s.next) (((((f0+1089)+16)+40)+40)+344) H (.u64 v4) H,!!(o3 == o3),ld 321 12 (.bool o3) (((((f0+1089)+16)+40)+40)+304) H,mOb (lkT 233 fun s=>.bool s.sure) (((((f0+1089)+16)+40)+40)+272) H (.bool o3) H,!!(o2 == o2),mOb (rdE 321 (decD 321) (fun s=>.bool (wantsD q.now s.1)) fun _=>true) (((((f0+1089)+16)+40)+40)+232) H (.bool o2) H,ld 0 ((0+(Int.toNat (j:Int)) * 6)+5) (.u64 q.now) (((((f0+1089)+16)+40)+40)+224) H,(decide (0≤(j:Int)) && decide ((j:Int) < (n:Int))),mOb (lkT 233 fun s=>.bool (wantsT q.now s)) (((((f0+1089)+16)+40)+40)+176) H (.bool o2) H,ld 0 ((0+(Int.toNat (j:Int)) * 6)+5) (.u64 q.now) (((((f0+1089)+16)+40)+40)+168) H,(decide (0≤(j:Int)) && decide ((j:Int) < (n:Int))),!!(o1 == o1),mOb (rdE 321 (decD 321) (fun s=>.bool (overD q.now s.1)) fun _=>true) (((((f0+1089)+16)+40)+40)+104) H (.bool o1) H,ld 0 ((0+(Int.toNat (j:Int)) * 6)+5) (.u64 q.now) (((((f0+1089)+16)+40)+40)+96) H,(decide (0≤(j:Int)) && decide ((j:Int) < (n:Int))),mOb (lkT 233 fun s=>.bool (overT q.now s)) (((((f0+1089)+16)+40)+40)+48) H (.bool o1) H,ld 0 ((0+(Int.toNat (j:Int)) * 6)+5) (.u64 q.now) (((((f0+1089)+16)+40)+40)+40) H,(decide (0≤(j:Int)) && decide ((j:Int) < (n:Int))),ld 121 (2+0) (.ptr 321 0) ((((((f0+1089)+16)+40)+8)+8)+8) H,ld 121 (0+0) (.ptr 233 0) ((((((f0+1089)+16)+8)+8)+8)) H]⟩):=by kernel_rfl
theorem w3in1:evT Try.prog noPS csR [112,119,128,135,123,139,148,157,300104,300108,300114,300121,300130,300137,300115,300122,300131,300138,300143,300147,300152,300156] Try.f3.ntmps (mask 3) 200 1 L74 ⟨TI n g1 g2 g3 g4 g5 now rc ct rk lf sz j 1,H,(f0+1089)⟩ ⟨[false,false,false,false],[.ptr 729 0,.tup [],.ptr 817 0,.tup [],.u64 q.now,.tup [],.bool o1,.tup [],.u64 q.now,.tup [],.bool o1,.tup [],.u64 q.now,.tup [],.bool o2,.tup [],.u64 q.now,.tup [],.bool o2,.tup [],.bool o3,.tup [],.bool o3,.tup [],.u64 v4,.tup [],.u64 v4,.tup []],[]⟩=some (.normal,⟨[(0,gotA g1 g2 g3 g4 g5),(1,.u64 now),(2,limA rc ct rk lf sz),(3,.slice 0 0 n 6),(4,.ptr 1 0),(6,.ptr 9 0),(8,.bool false),(31,.bool false),(9,.ptr 121 0),(10,.int .i64 2),(34,.bool false),(16,.int .i64 (j:Int))]++[(88,.bool true),(96,.bool false),(17,.int .i64 2),(98,.bool true),(18,.ptr 729 0),(19,.ptr 817 0),(158,.bool false)],H,(((((f0+1089)+16)+40)+40)+400)+24⟩,⟨[],[],[!(v4 != v4),ld 817 9 (.u64 v4) (((((f0+1089)+16)+40)+40)+376) H,mOb (lkT 729 fun s=>.u64 s.next) (((((f0+1089)+16)+40)+40)+344) H (.u64 v4) H,!!(o3 == o3),ld 817 12 (.bool o3) (((((f0+1089)+16)+40)+40)+304) H,mOb (lkT 729 fun s=>.bool s.sure) (((((f0+1089)+16)+40)+40)+272) H (.bool o3) H,!!(o2 == o2),mOb (rdE 817 (decD 817) (fun s=>.bool (wantsD q.now s.1)) fun _=>true) (((((f0+1089)+16)+40)+40)+232) H (.bool o2) H,ld 0 ((0+(Int.toNat (j:Int)) * 6)+5) (.u64 q.now) (((((f0+1089)+16)+40)+40)+224) H,(decide (0≤(j:Int)) && decide ((j:Int) < (n:Int))),mOb (lkT 729 fun s=>.bool (wantsT q.now s)) (((((f0+1089)+16)+40)+40)+176) H (.bool o2) H,ld 0 ((0+(Int.toNat (j:Int)) * 6)+5) (.u64 q.now) (((((f0+1089)+16)+40)+40)+168) H,(decide (0≤(j:Int)) && decide ((j:Int) < (n:Int))),!!(o1 == o1),mOb (rdE 817 (decD 817) (fun s=>.bool (overD q.now s.1)) fun _=>true) (((((f0+1089)+16)+40)+40)+104) H (.bool o1) H,ld 0 ((0+(Int.toNat (j:Int)) * 6)+5) (.u64 q.now) (((((f0+1089)+16)+40)+40)+96) H,(decide (0≤(j:Int)) && decide ((j:Int) < (n:Int))),mOb (lkT 729 fun s=>.bool (overT q.now s)) (((((f0+1089)+16)+40)+40)+48) H (.bool o1) H,ld 0 ((0+(Int.toNat (j:Int)) * 6)+5) (.u64 q.now) (((((f0+1089)+16)+40)+40)+40) H,(decide (0≤(j:Int)) && decide ((j:Int) < (n:Int))),ld 121 (2+1) (.ptr 817 0) ((((((f0+1089)+16)+40)+8)+8)+8) H,ld 121 (0+1) (.ptr 729 0) ((((((f0+1089)+16)+8)+8)+8)) H]⟩):=by kernel_rfl
theorem w3inE:evT Try.prog noPS csR [] Try.f3.ntmps (mask 3) 200 1 L74 ⟨TI n g1 g2 g3 g4 g5 now rc ct rk lf sz j 2,H,(f0+1089)⟩ ⟨[],[],[]⟩=some (.exit 4,⟨TI n g1 g2 g3 g4 g5 now rc ct rk lf sz j 2++[(98,.bool false)],H,(f0+1089)+16⟩,⟨[],[],[]⟩):=by kernel_rfl
theorem w3a:segO (evSO Try.prog noPS csR [88] Try.f3.ntmps (mask 3) 200 1 ((pieces M7).take 2) ⟨T7 n g1 g2 g3 g4 g5 now rc ct rk lf sz j,H,(f0+1089)⟩ ⟨[true],[],[]⟩)=some (⟨T7 n g1 g2 g3 g4 g5 now rc ct rk lf sz j++[(88,.bool true)],H,(f0+1089)+32⟩,[decide ((j:Int) < (n:Int))]):=by kernel_rfl
theorem w3b:segO (evSO Try.prog noPS csR [93,300094,300095] Try.f3.ntmps (mask 3) 200 1 ((pieces D7).take 3) ⟨T7 n g1 g2 g3 g4 g5 now rc ct rk lf sz j++[(88,.bool true)],H,(f0+1089)⟩ ⟨[],[.agg q.C,.tup [],.bool true,.tup (.nilMap::X)],[]⟩)=some (⟨TI n g1 g2 g3 g4 g5 now rc ct rk lf sz j 0,heapL X,((f0+1089)+48)+8⟩,[mOb (doE q 121) (((((f0+1089)+8)+8)+8)+8) H (.bool true) (heapL X),decP (EffA.app (.read 0 fun ob=>match ob with | .cells ro c=>cond (Nat.ble ((0+(Int.toNat (j:Int)) * 6)+6) c.length) (some (.agg (((c.drop (0+(Int.toNat (j:Int)) * 6)).take 6)))) none) (((((f0+1089)+8)+8)+8)) H=some (.agg q.C,H)),(decide (0≤(j:Int)) && decide ((j:Int) < (n:Int)))]):=by kernel_rfl
theorem w3c:segO (evSO Try.prog noPS csR [] Try.f3.ntmps (mask 3) 200 1 ((pieces M7).drop 3) ⟨TI n g1 g2 g3 g4 g5 now rc ct rk lf sz j 2++[(98,.bool false)],H,(f0+1089)⟩ ⟨[],[],[]⟩)=some (⟨[(0,gotA g1 g2 g3 g4 g5),(1,.u64 now),(2,limA rc ct rk lf sz),(3,.slice 0 0 n 6),(4,.ptr 1 0),(6,.ptr 9 0),(8,.bool false),(31,.bool false),(9,.ptr 121 0),(10,.int .i64 2),(34,.bool false),(16,.int .i64 (IntKind.wrap .i64 ((j:Int)+1)))]++[(88,.bool true),(96,.bool false),(17,.int .i64 2)]++[(98,.bool false)],H,(f0+1089)+24⟩,[]):=by kernel_rfl
theorem w3y:evT Try.prog noPS csR [88] Try.f3.ntmps (mask 3) 200 1 M7 ⟨T7 n g1 g2 g3 g4 g5 now rc ct rk lf sz j,H,(f0+1089)⟩ ⟨[false],[],[]⟩=some (.exit 2,⟨T7 n g1 g2 g3 g4 g5 now rc ct rk lf sz j++[(88,.bool false)],H,(f0+1089)+32⟩,⟨[],[],[!decide ((j:Int) < (n:Int))]⟩):=by kernel_rfl
theorem w3z:ansF Try.prog Try.f3 (evSO Try.prog noPS csR [] Try.f3.ntmps (mask 3) 200 1 ((pieces (bodyOf Try.f3)).drop 8) ⟨T7 n g1 g2 g3 g4 g5 now rc ct rk lf sz j++[(88,.bool false)],H,(f0+1089)⟩ ⟨[],[],[]⟩)=some (.bool true,[]):=by kernel_rfl
end
end Go.Proofs.Ytjdhndicgifnbaa.Tun
namespace Go.Proofs.Ytjdhndicgifnbaa.Tun
open Go Go.Eng Go.Proofs.Ytjdhndicgifnbaa
theorem ltL_mem {m:Nat}:∀ {c:List AVal},ltL m c=true→∀ v,v ∈ c→ltS m v=true
 | [],_,v,hv=>by simp at hv
 | x::c,h,v,hv=>by
  simp only [ltL] at h
  cases hx:ltS m x <;> rw [hx] at h <;> simp only [cond_true,cond_false] at h
  ·cases h
  ·rcases List.mem_cons.1 hv with rfl | hv
   ·exact hx
   ·exact ltL_mem h v hv
theorem slS_lt {m x:Nat}{l:SL}(h:ltS m (slS x l)=true) (hl:l ≠ []):x < m:=by
 cases l with
 | nil=>exact absurd rfl hl
 | cons a l=>exact Nat.le_of_ble_eq_true h
theorem slQ_lt {m x:Nat}{l:List UInt64}(h:ltS m (slQ x (qL l))=true) (hl:l ≠ []):x < m:=by
 cases l with
 | nil=>exact absurd rfl hl
 | cons a l=>exact Nat.le_of_ble_eq_true h
theorem pK_mem {k:Bool}{a a' b b' s s':AVal}:s ∈ pK k a a' b b' s s'∧s' ∈ pK k a a' b b' s s':=by cases k <;> simp [pK]
theorem QInv.sub {k:Bool}{p:Nat}{N N':Ns}{E E':En}{H H2:HL}{fr f2:Nat}(h:QInv k p N N' E E' H fr) (hk:∀ n,n ∈ p::(own N E++own N' E')→aget H2 n=aget H n) (hlt:∀ n,n ∈ p::(own N E++own N' E')→n < f2):QInv k p N N' E E' H2 f2:=
 ⟨by rw [hk p (List.mem_cons_self ..)]; exact h.hp,h.o.keep fun n hn=>hk n (List.mem_cons_of_mem _ (List.mem_append.2 (.inl hn))),h.o'.keep fun n hn=>hk n (List.mem_cons_of_mem _ (List.mem_append.2 (.inr hn))),h.nd,hlt⟩
theorem QInv.cut {k:Bool}{p:Nat}{N N':Ns}{E E':En}{H H2:HL}{fr f2:Nat}(h:QInv k p N N' E E' H fr) (hk:∀ n,n < f2→aget H2 n=aget H n) (hl:ltH f2 H2=true) (hf:∀ n,n ∈ [p,N.t,N.w,N.b,N.a,N.r,N'.t,N'.w,N'.b,N'.a,N'.r]→n < f2):QInv k p N N' E E' H2 f2:=by
 have hp:=ltH_get hl p _ _ ((hk p (hf p (by simp))).trans h.hp)
 have hr:=ltH_get hl N.r _ _ ((hk N.r (hf _ (by simp))).trans h.o.r)
 have hr':=ltH_get hl N'.r _ _ ((hk N'.r (hf _ (by simp))).trans h.o'.r)
 have hlt:∀ n,n ∈ p::(own N E++own N' E')→n < f2:=fun n hn=>by
  unfold own at hn
  simp only [List.mem_cons,List.mem_append,List.mem_nil_iff,or_false] at hn
  rcases hn with h1 | ((h1 | h1 | h1 | h1 | h1) | h1 | h1) | (h1 | h1 | h1 | h1 | h1) | h1 | h1
  ·subst h1; exact hf _ (by simp)
  ·subst h1; exact hf _ (by simp)
  ·subst h1; exact hf _ (by simp)
  ·subst h1; exact hf _ (by simp)
  ·subst h1; exact hf _ (by simp)
  ·subst h1; exact hf _ (by simp)
  ·obtain ⟨rfl,hs⟩:=oneN_sub h1
   exact slS_lt (ltL_mem hp.2 _ pK_mem.1) hs
  ·obtain ⟨rfl,hs⟩:=oneN_sub h1
   exact slQ_lt (ltL_mem hr.2 _ (by simp [cD])) hs
  ·subst h1; exact hf _ (by simp)
  ·subst h1; exact hf _ (by simp)
  ·subst h1; exact hf _ (by simp)
  ·subst h1; exact hf _ (by simp)
  ·subst h1; exact hf _ (by simp)
  ·obtain ⟨rfl,hs⟩:=oneN_sub h1
   exact slS_lt (ltL_mem hp.2 _ pK_mem.2) hs
  ·obtain ⟨rfl,hs⟩:=oneN_sub h1
   exact slQ_lt (ltL_mem hr'.2 _ (by simp [cD])) hs
 exact h.sub (fun n hn=>hk n (hlt n hn)) hlt
def nA (m x:Nat):Ns:=⟨233,234,235,236,321,m,x⟩
def nB (m x:Nat):Ns:=⟨729,730,731,732,817,m,x⟩
structure JH (R:List AVal) (j:Nat) (H:HL) (fr:Nat):Prop where
 le:1089≤fr
 st:aget H 0=some (.cells true R)
 q:∃ m x m' x' E E',QInv false 121 (nA m x) (nB m' x') E E' H fr∧Bd E j∧Bd E' j
theorem JH.up {R:List AVal}{j i:Nat}{H:HL}{fr f2:Nat}(h:JH R j H fr) (hj:j≤i) (hf:fr≤f2):JH R i H f2:=by
 obtain ⟨h1,h2,m,x,m',x',E,E',h3,h4,h5⟩:=h
 exact ⟨by omega,h2,m,x,m',x',E,E',h3.sub (fun _ _=>rfl) fun n hn=>by have:=h3.lt n hn; omega,h4.mono hj,h5.mono hj⟩
theorem JH.head {R:List AVal}{j bs:Nat}{s0 s:SA}(h:JH R j s.H s.fr) (h0:1089≤s0.fr) (hp:pairsT s0.fr 0 s0.T s.T=[]):∃ H fr,headA Try.prog bs s0 s=⟨reshape s0.T s.T,H,fr⟩∧JH R j H fr:=by
 obtain ⟨hT,hH⟩:=headA_cases (P:=Try.prog) (bs:=bs) s0 s hp
 refine ⟨(headA Try.prog bs s0 s).H,(headA Try.prog bs s0 s).fr,by rw [← hT],?_⟩
 rcases hH with ⟨a,b⟩ | ⟨a,b,c⟩
 ·rw [a,b]; exact h
 ·obtain ⟨h1,h2,m,x,m',x',E,E',h3,h4,h5⟩:=h
  rw [a]
  refine ⟨h0,by rw [c 0 (by omega)]; exact h2,m,x,m',x',E,E',h3.cut c b fun n hn => ?_,h4,h5⟩
  simp [nA,nB] at hn
  omega
theorem JH.step {R:List AVal}{j:Nat}{H:HL}{fr:Nat}(h:JH R j H fr) (hj:j≤1000){q:Stp}(hq:q.s.length≤9223372036854775807){base:Nat}(hb:fr≤base):∃ H',(doE q 121).app base H=some (.bool true,H')∧JH R (j+1) H' (base+1):=by
 obtain ⟨h1,h2,m,x,m',x',E,E',h3,h4,h5⟩:=h
 have h0:∀ {N N':Ns} {E E':En},(∀ n,n ∈ 121::(own N E++own N' E')→n ≠ 0)→0 ∉ 121::(own N E++own N' E'):=fun hn hm=>hn 0 hm rfl
 have pos:∀ n,n ∈ 121::(own (nA m x) E++own (nB m' x') E')→n ≠ 0:=fun n hn e=>by
  subst e
  have hx:=h3
  unfold own at hn
  simp only [List.mem_cons,List.mem_append,List.mem_nil_iff,or_false,nA,nB] at hn
  rcases hn with hn | ((hn | hn | hn | hn | hn) | hn | hn) | (hn | hn | hn | hn | hn) | hn | hn
  ·omega
  ·omega
  ·omega
  ·omega
  ·omega
  ·omega
  ·obtain ⟨e,hs⟩:=oneN_sub hn
   have:=h3.o.x hs
   rw [show (nA m x).x=0 from e.symm,h2] at this
   cases this
  ·obtain ⟨e,hs⟩:=oneN_sub hn
   have:=h3.o.m hs
   rw [show (nA m x).m=0 from e.symm,h2] at this
   cases this
  ·omega
  ·omega
  ·omega
  ·omega
  ·omega
  ·obtain ⟨e,hs⟩:=oneN_sub hn
   have:=h3.o'.x hs
   rw [show (nB m' x').x=0 from e.symm,h2] at this
   cases this
  ·obtain ⟨e,hs⟩:=oneN_sub hn
   have:=h3.o'.m hs
   rw [show (nB m' x').m=0 from e.symm,h2] at this
   cases this
 cases hk:kOf q with
 | false =>
  obtain ⟨H',m2,x2,E2,a1,a2,a3,a4⟩:=do_step h3 h4 h5 hj hk hq hb
  exact ⟨H',a1,by omega,by rw [a4 0 (h0 pos) (by omega)]; exact h2,m2,x2,m',x',E2,E',a2,a3,h5.mono (Nat.le_succ j)⟩
 | true =>
  have hf:QInv true 121 (nB m' x') (nA m x) E' E H fr:=h3.flip
  obtain ⟨H',m2,x2,E2,a1,a2,a3,a4⟩:=do_step hf h5 h4 hj hk hq hb
  refine ⟨H',a1,by omega,?_,m,x,m2,x2,E,E2,a2.flip,h4.mono (Nat.le_succ j),a3⟩
  rw [a4 0 (fun hm=>pos 0 ?_ rfl) (by omega)]
  ·exact h2
  ·rw [List.mem_cons,List.mem_append] at hm ⊢
   exact hm.imp_right Or.symm
end Go.Proofs.Ytjdhndicgifnbaa.Tun
namespace Go.Proofs.Ytjdhndicgifnbaa.Tun
open Go Go.Eng Go.Proofs.Ytjdhndicgifnbaa
theorem lkT_at {N:Ns}{E:En}{H:HL}(h:Lk N E H) (hw:N.w < N.t+8) (hb:N.b < N.t+8) (ha:N.a < N.t+8) (hn:nodupB [N.t,N.w,N.b,N.a]=true) (val:Tn→AVal){v:AVal}(hv:val E.t=v) (base:Nat):mOb (lkT N.t val) base H v H=true:=by
 subst hv
 refine decP_of (lookE_app (ns:=[N.t,N.w,N.b,N.a]) (s:=E.t) ?_ hn rfl)
 show tFind (cutH (N.t+8) (aget H)) N.t=_
 have e:wFind (cutH (N.t+8) (aget H)) N.w=some ([N.w,N.b],E.t.w):=by
  unfold wFind
  rw [cutH_lt h.w hw]
  simp only [cW,cutH_lt h.b hb,unU_map]
  rw [Nat.beq_refl]
  rfl
 unfold tFind
 rw [cutH_lt h.t (by omega)]
 simp only [cT,cutH_lt h.a ha,e]
theorem rdD_at {N:Ns}{E:En}{H:HL}(h:Lk N E H) (hn:E.L ≠ []→N.r ≠ N.m) (val:Dc × Option Nat→AVal){v:AVal}(hv:val (E.c,qL E.L)=v) (base:Nat):mOb (rdE N.r (decD N.r) val fun _=>true) base H v H=true:=by
 subst hv
 refine decP_of ?_
 unfold rdE
 simp only [EffA.app,h.r,rdF,decD_at]
 cases hL:E.L with
 | nil=>rfl
 | cons a l =>
  have e:nodupB [N.r,N.m]=true:=nodupB_of (by simpa using hn (by rw [hL]; simp))
  show (match cond (nodupB [N.r,N.m] && true) (some (val (E.c,qL (a::l)))) none with | some v=>some (v,H) | none=>none)=_
  rw [e]
  rfl
theorem ne_rm {k:Bool}{p:Nat}{N N':Ns}{E E':En}{H:HL}{fr:Nat}(h:QInv k p N N' E E' H fr) (hL:E.L ≠ []):N.r ≠ N.m:=fun e=>by
 have nd:=h.nd
 rw [List.nodup_cons,List.nodup_append] at nd
 obtain ⟨_,n1,_⟩:=nd
 unfold own at n1
 rw [List.nodup_append] at n1
 exact n1.2.2 N.r (by simp) N.m (List.mem_append.2 (.inr (mem_oneN hL))) e
theorem row_now {l:List Stp}{j:Nat}{q:Stp}(hq:l[j]? = some q):(stRow l)[(0+(Int.toNat (j:Int)) * 6)+5]? = some (.u64 q.now):=by
 have e:=stRow_at l j q hq
 have:=congrArg (fun z=>z[5]?) e
 rw [List.getElem?_take,if_pos (by decide),List.getElem?_drop] at this
 rw [Int.toNat_natCast,Nat.zero_add,this]
 rfl
theorem row_len (l:List Stp):(stRow l).length=l.length * 6:=by
 induction l with
 | nil=>rfl
 | cons a l ih =>
  have e:stRow (a::l)=a.C++stRow l:=rfl
  rw [e,List.length_append,ih,List.length_cons,Nat.add_mul]
  show 6+_=_
  omega
theorem okb (b:Bool):(!!(b == b))=true:=by cases b <;> rfl
theorem okn (v:UInt64):(!(v != v))=true:=by simp
theorem round_head {R:List AVal}{j bs:Nat}{f:SA→Option (XA × SA)}{s0 s s1:SA}{T:TL}(e:f s=some (.normal,s1)) (h:JH R j s1.H s1.fr) (h0:1089≤s0.fr) (hp:pairsT s0.fr 0 s0.T s1.T=[]) (hT:reshape s0.T s1.T=T):∃ H2 fr2,roundA f (headA Try.prog bs s0) s=some ⟨T,H2,fr2⟩∧JH R j H2 fr2:=by
 obtain ⟨H2,fr2,a1,a2⟩:=JH.head (bs:=bs) h h0 hp
 refine ⟨H2,fr2,?_,a2⟩
 unfold roundA
 rw [e]
 show some (headA Try.prog bs _ _)=_
 rw [a1,hT]
section
variable {g1 g2 g3 g4 g5:List UInt8}{now rc ct rk lf:UInt64}{sz:Int}
theorem inner0 {l:List Stp}{i j:Nat}{q:Stp}(hq:l[j]? = some q){H:HL}{fr:Nat}(h:JH (stRow l) i H fr){H0:HL}{fr0:Nat}(h0:1089≤fr0) :
  ∃ H2 fr2,roundA (evC Try.prog csR Try.f3.ntmps (mask 3) 200 1 L74) (headA Try.prog 1 ⟨TI l.length g1 g2 g3 g4 g5 now rc ct rk lf sz j 0,H0,fr0⟩) ⟨TI l.length g1 g2 g3 g4 g5 now rc ct rk lf sz j 0,H,fr⟩=some ⟨TI l.length g1 g2 g3 g4 g5 now rc ct rk lf sz j 1,H2,fr2⟩∧JH (stRow l) i H2 fr2:=by
 obtain ⟨f0,rfl⟩:∃ f0,fr=f0+1089:=⟨fr - 1089,by have:=h.le; omega⟩
 have hj:j < l.length:=(List.getElem?_eq_some_iff.1 hq).1
 obtain ⟨m,x,m',x',E,E',h3,h4,h5⟩:=h.q
 have rel:=h4.rel
 have hl:Lk (nA m x) E H:=h3.o
 have hm:E.L ≠ []→(nA m x).r ≠ (nA m x).m:=fun hL=>ne_rm h3 hL
 have hnow:∀ b,ld 0 ((0+(Int.toNat (j:Int)) * 6)+5) (.u64 q.now) b H=true:=fun b=>ld_of h.st (row_now hq)
 have r:=w3in0 q (overD q.now E.c) (wantsD q.now E.c) E.c.sure E.c.next f0 l.length g1 g2 g3 g4 g5 now rc ct rk lf sz j H
 have e:=(evT_ok (noPS_ok _) _ _ _ _ _ _ r (allT_c (okn _) (allT_c (ld_of hl.r rfl) (allT_c (lkT_at hl (show 234 < 241 by decide) (show 235 < 241 by decide) (show 236 < 241 by decide) rfl _ (congrArg AVal.u64 rel.next) _) (allT_c (okb _) (allT_c (ld_of hl.r rfl) (allT_c (lkT_at hl (show 234 < 241 by decide) (show 235 < 241 by decide) (show 236 < 241 by decide) rfl _ (congrArg AVal.bool rel.sure) _) (allT_c (okb _) (allT_c (rdD_at hl hm _ rfl _) (allT_c (hnow _) (allT_c (inI hj) (allT_c (lkT_at hl (show 234 < 241 by decide) (show 235 < 241 by decide) (show 236 < 241 by decide) rfl _ (congrArg AVal.bool (wants_eq rel q.now)) _) (allT_c (hnow _) (allT_c (inI hj) (allT_c (okb _) (allT_c (rdD_at hl hm _ rfl _) (allT_c (hnow _) (allT_c (inI hj) (allT_c (lkT_at hl (show 234 < 241 by decide) (show 235 < 241 by decide) (show 236 < 241 by decide) rfl _ (congrArg AVal.bool (over_eq rel q.now)) _) (allT_c (hnow _) (allT_c (inI hj) (allT_c (ld_of h3.hp rfl) (allT_c (ld_of h3.hp rfl) rfl))))))))))))))))))))))).1
 exact round_head e (h.up (Nat.le_refl i) (show f0+1089≤((((f0+1089+16)+40)+40)+400)+24 by omega)) h0 rfl rfl
theorem inner1 {l:List Stp}{i j:Nat}{q:Stp}(hq:l[j]? = some q){H:HL}{fr:Nat}(h:JH (stRow l) i H fr){H0:HL}{fr0:Nat}(h0:1089≤fr0) :
  ∃ H2 fr2,roundA (evC Try.prog csR Try.f3.ntmps (mask 3) 200 1 L74) (headA Try.prog 1 ⟨TI l.length g1 g2 g3 g4 g5 now rc ct rk lf sz j 0,H0,fr0⟩) ⟨TI l.length g1 g2 g3 g4 g5 now rc ct rk lf sz j 1,H,fr⟩=some ⟨TI l.length g1 g2 g3 g4 g5 now rc ct rk lf sz j 2,H2,fr2⟩∧JH (stRow l) i H2 fr2:=by
 obtain ⟨f0,rfl⟩:∃ f0,fr=f0+1089:=⟨fr - 1089,by have:=h.le; omega⟩
 have hj:j < l.length:=(List.getElem?_eq_some_iff.1 hq).1
 obtain ⟨m,x,m',x',E,E',h3,h4,h5⟩:=h.q
 have rel:=h5.rel
 have hl:Lk (nB m' x') E' H:=h3.o'
 have hm:E'.L ≠ []→(nB m' x').r ≠ (nB m' x').m:=fun hL=>ne_rm h3.flip hL
 have hnow:∀ b,ld 0 ((0+(Int.toNat (j:Int)) * 6)+5) (.u64 q.now) b H=true:=fun b=>ld_of h.st (row_now hq)
 have r:=w3in1 q (overD q.now E'.c) (wantsD q.now E'.c) E'.c.sure E'.c.next f0 l.length g1 g2 g3 g4 g5 now rc ct rk lf sz j H
 have e:=(evT_ok (noPS_ok _) _ _ _ _ _ _ r (allT_c (okn _) (allT_c (ld_of hl.r rfl) (allT_c (lkT_at hl (show 730 < 737 by decide) (show 731 < 737 by decide) (show 732 < 737 by decide) rfl _ (congrArg AVal.u64 rel.next) _) (allT_c (okb _) (allT_c (ld_of hl.r rfl) (allT_c (lkT_at hl (show 730 < 737 by decide) (show 731 < 737 by decide) (show 732 < 737 by decide) rfl _ (congrArg AVal.bool rel.sure) _) (allT_c (okb _) (allT_c (rdD_at hl hm _ rfl _) (allT_c (hnow _) (allT_c (inI hj) (allT_c (lkT_at hl (show 730 < 737 by decide) (show 731 < 737 by decide) (show 732 < 737 by decide) rfl _ (congrArg AVal.bool (wants_eq rel q.now)) _) (allT_c (hnow _) (allT_c (inI hj) (allT_c (okb _) (allT_c (rdD_at hl hm _ rfl _) (allT_c (hnow _) (allT_c (inI hj) (allT_c (lkT_at hl (show 730 < 737 by decide) (show 731 < 737 by decide) (show 732 < 737 by decide) rfl _ (congrArg AVal.bool (over_eq rel q.now)) _) (allT_c (hnow _) (allT_c (inI hj) (allT_c (ld_of h3.hp rfl) (allT_c (ld_of h3.hp rfl) rfl))))))))))))))))))))))).1
 exact round_head e (h.up (Nat.le_refl i) (show f0+1089≤((((f0+1089+16)+40)+40)+400)+24 by omega)) h0 rfl rfl
theorem inner {l:List Stp}{i j:Nat}{q:Stp}(hq:l[j]? = some q){H:HL}{fr:Nat}(h:JH (stRow l) i H fr) :
  ∃ H2 fr2,evS Try.prog csR Try.f3.ntmps (mask 3) 200 1 ((pieces D7).drop 3) ⟨TI l.length g1 g2 g3 g4 g5 now rc ct rk lf sz j 0,H,fr⟩=some (.normal,⟨TI l.length g1 g2 g3 g4 g5 now rc ct rk lf sz j 2++[(98,.bool false)],H2,fr2⟩)∧JH (stRow l) i H2 fr2:=by
 obtain ⟨I,h0,⟨H2,fr2,hI,hJ⟩,hst⟩:=iter_inv (P:=Try.prog) (cs:=csR) (nt:=Try.f3.ntmps) (nn:=mask 3) (F:=200) (bs:=1) (b:=L74) ⟨TI l.length g1 g2 g3 g4 g5 now rc ct rk lf sz j 0,H,fr⟩ (fun k s => ∃ H2 fr2,s=⟨TI l.length g1 g2 g3 g4 g5 now rc ct rk lf sz j (k:Nat),H2,fr2⟩∧JH (stRow l) i H2 fr2) 2 ⟨H,fr,rfl,h⟩ fun k s hk ⟨H2,fr2,hs,hJ⟩=>by
  subst hs
  have:k=0 ∨ k=1:=by omega
  rcases this with rfl | rfl
  ·obtain ⟨H3,fr3,a,b⟩:=inner0 (g1:=g1) (g2:=g2) (g3:=g3) (g4:=g4) (g5:=g5) (now:=now) (rc:=rc) (ct:=ct) (rk:=rk) (lf:=lf) (sz:=sz) hq hJ (H0:=H) (fr0:=fr) h.le
   exact ⟨_,a,H3,fr3,rfl,b⟩
  ·obtain ⟨H3,fr3,a,b⟩:=inner1 (g1:=g1) (g2:=g2) (g3:=g3) (g4:=g4) (g5:=g5) (now:=now) (rc:=rc) (ct:=ct) (rk:=rk) (lf:=lf) (sz:=sz) hq hJ (H0:=H) (fr0:=fr) h.le
   exact ⟨_,a,H3,fr3,rfl,b⟩
 obtain ⟨f0,rfl⟩:∃ f0,fr2=f0+1089:=⟨fr2 - 1089,by have:=hJ.le; omega⟩
 have e:=(evT_ok (noPS_ok _) _ _ _ _ _ _ (w3inE f0 l.length g1 g2 g3 g4 g5 now rc ct rk lf sz j H2) rfl).1
 have e2:=evS_loop (l:=pieces D7) (k:=3) (id:=4) (b:=L74) (by kernel_rfl) I 2 hst (s1:=⟨TI l.length g1 g2 g3 g4 g5 now rc ct rk lf sz j 2++[(98,.bool false)],H2,f0+1089+16⟩) (by rw [hI]; exact e) (by omega)
 have ed:(pieces D7).drop 4=[]:=by kernel_rfl
 rw [h0,ed] at e2
 exact ⟨H2,f0+1089+16,e2,hJ.up (Nat.le_refl i) (by omega)⟩
theorem ld6_of {l:List Stp}{j b:Nat}{q:Stp}{H:HL}(h:aget H 0=some (.cells true (stRow l))) (hq:l[j]? = some q):decP (EffA.app (.read 0 fun ob=>match ob with | .cells ro c=>cond (Nat.ble ((0+(Int.toNat (j:Int)) * 6)+6) c.length) (some (.agg (((c.drop (0+(Int.toNat (j:Int)) * 6)).take 6)))) none) b H=some (.agg q.C,H))=true:=by
 have hj:j < l.length:=(List.getElem?_eq_some_iff.1 hq).1
 refine decP_of ?_
 simp only [EffA.app,h,Int.toNat_natCast,Nat.zero_add]
 rw [Nat.ble_eq_true_of_le (by rw [row_len]; omega)]
 simp only [cond_true,stRow_at l j q hq]
theorem outer {l:List Stp}{j:Nat}{q:Stp}(hq:l[j]? = some q) (hs:q.s.length≤9223372036854775807) (hj1:j≤1000){H:HL}{fr:Nat}(h:JH (stRow l) j H fr){H0:HL}{fr0:Nat}(h0:1089≤fr0) :
  ∃ H2 fr2,roundA (evC Try.prog csR Try.f3.ntmps (mask 3) 200 1 M7) (headA Try.prog 1 ⟨T7 l.length g1 g2 g3 g4 g5 now rc ct rk lf sz 0,H0,fr0⟩) ⟨T7 l.length g1 g2 g3 g4 g5 now rc ct rk lf sz j,H,fr⟩=some ⟨T7 l.length g1 g2 g3 g4 g5 now rc ct rk lf sz ((j+1:Nat):Int),H2,fr2⟩∧JH (stRow l) (j+1) H2 fr2:=by
 obtain ⟨f0,rfl⟩:∃ f0,fr=f0+1089:=⟨fr - 1089,by have:=h.le; omega⟩
 have hj:j < l.length:=(List.getElem?_eq_some_iff.1 hq).1
 have e1:=segO_pre (noPS_ok _) (w3a f0 l.length g1 g2 g3 g4 g5 now rc ct rk lf sz j H) (allT_c (ltI hj) rfl)
 -- the step
 obtain ⟨H1,b1,b2⟩:=h.step hj1 hs (base:=f0+32+1089+32) (by omega)
 have e2:=segO_pre (noPS_ok _) (w3b q (f0+32) l.length g1 g2 g3 g4 g5 now rc ct rk lf sz (encL H1) j H) (by
  rw [heapL_encL]
  exact allT_c (mOb_of b1) (allT_c (ld6_of h.st hq) (allT_c (inI hj) rfl)))
 rw [heapL_encL] at e2
 obtain ⟨H2,fr2,c1,c2⟩:=inner (g1:=g1) (g2:=g2) (g3:=g3) (g4:=g4) (g5:=g5) (now:=now) (rc:=rc) (ct:=ct) (rk:=rk) (lf:=lf) (sz:=sz) hq (b2.up (Nat.le_refl (j+1)) (show f0+32+1089+32+1≤f0+32+1089+48+8 by omega))
 have eD:evC Try.prog csR Try.f3.ntmps (mask 3) 200 1 D7 ⟨T7 l.length g1 g2 g3 g4 g5 now rc ct rk lf sz j++[(88,.bool true)],H,f0+32+1089⟩=some (.normal,⟨TI l.length g1 g2 g3 g4 g5 now rc ct rk lf sz j 2++[(98,.bool false)],H2,fr2⟩):=by
  rw [evC_pieces]
  have ea:pieces D7=(pieces D7).take 3++(pieces D7).drop 3:=(List.take_append_drop 3 _).symm
  rw [ea,evS_append e2]
  exact c1
 obtain ⟨f2,rfl⟩:∃ f2,fr2=f2+1089:=⟨fr2 - 1089,by have:=c2.le; omega⟩
 have e3:=segO_pre (noPS_ok _) (w3c f2 l.length g1 g2 g3 g4 g5 now rc ct rk lf sz j H2) rfl
 have e4:evC Try.prog csR Try.f3.ntmps (mask 3) 200 1 M7 ⟨T7 l.length g1 g2 g3 g4 g5 now rc ct rk lf sz j,H,f0+1089⟩=some (.normal,⟨TI l.length g1 g2 g3 g4 g5 now rc ct rk lf sz (IntKind.wrap .i64 ((j:Int)+1)) 2++[(98,.bool false)],H2,f2+1089+24⟩):=by
  rw [evC_pieces]
  have ea:pieces M7=(pieces M7).take 2++(.block 3 D7::(pieces M7).drop 3):=by kernel_rfl
  rw [ea,evS_append e1]
  have eb:(⟨T7 l.length g1 g2 g3 g4 g5 now rc ct rk lf sz j++[(88,.bool true)],H,f0+1089+32⟩:SA)=⟨T7 l.length g1 g2 g3 g4 g5 now rc ct rk lf sz j++[(88,.bool true)],H,f0+32+1089⟩:=by congr 1
  rw [eb]
  simp only [evS,evC,eD]
  exact e3
 refine round_head e4 (c2.up (Nat.le_refl (j+1)) (show f2+1089≤f2+1089+24 by omega)) h0 rfl ?_
 have ew:IntKind.wrap .i64 ((j:Int)+1)=((j+1:Nat):Int):=by rw [wrapI _ (by omega) (by omega)]; omega
 rw [← ew]
 rfl
end
end Go.Proofs.Ytjdhndicgifnbaa.Tun
namespace Go.Proofs.Ytjdhndicgifnbaa.Tun
open Go Go.Eng Go.Proofs.Ytjdhndicgifnbaa Go.Proofs.Ytjdhndicgifnbaa.Pol
def bT (a:Nat) (t:Tn):HL:=[(a,.cells false (cT (a+1) (a+3) t)),(a+1,.cells false (cW (a+2) t.w)),(a+2,.cells false (t.w.L.map .u64)),(a+3,.cells false [.u64 t.made])]
def bD (r:Nat) (d:Dc):HL:=[(r,.cells false (cD .nilSlice d))]
def tT (a:Nat) (t:Tn):AVal:=.tup [.ptr a 0,.agg (cT (a+1) (a+3) t),.ptr (a+1) 0,.agg (cW (a+2) t.w),.ptr (a+2) 0,.agg (t.w.L.map .u64),.ptr (a+3) 0,.agg [.u64 t.made]]
section
variable (R:List AVal) (n:Nat) (g1 g2 g3 g4 g5:List UInt8) (now rc ct rk lf:UInt64) (sz:Int) (f0:Nat) (H:HL)
def hB:HL:=[(0,.cells true R),(1,.cells false [.str g1,.str g2,.str g3,.str g4,.str g5]),(9,.cells false [.u64 rc,.u64 ct,.u64 rk,.u64 lf,.int .i64 sz])]
def hP0:HL:=hB R g1 g2 g3 g4 g5 rc ct rk lf sz++[(121,.cells false [.nilPtr,.nilPtr,.nilPtr,.nilPtr,.nilSlice,.nilSlice])]
def hPa:HL:=hP0 R g1 g2 g3 g4 g5 rc ct rk lf sz++[(161,.cells false [.str g1,.str g2,.str g3,.str g4,.str g5])]
def hPb:HL:=hPa R g1 g2 g3 g4 g5 rc ct rk lf sz++bT 233 (newT g3 g4 true now rc ct rk lf sz)
def hPc:HL:=hPb R g1 g2 g3 g4 g5 now rc ct rk lf sz++bD 321 (newD g3 g4 true now rc ct rk lf sz)
def hP1:HL:=hB R g1 g2 g3 g4 g5 rc ct rk lf sz++[(121,.cells false [.ptr 233 0,.nilPtr,.ptr 321 0,.nilPtr,.nilSlice,.nilSlice]),(161,.cells false [.str g1,.str g2,.str g3,.str g4,.str g5])]++bT 233 (newT g3 g4 true now rc ct rk lf sz)++bD 321 (newD g3 g4 true now rc ct rk lf sz)
def hPd:HL:=hP1 R g1 g2 g3 g4 g5 now rc ct rk lf sz++[(593,.cells false [.str g1,.str g2,.str g4,.str g3,.str g5])]
def hPe:HL:=hPd R g1 g2 g3 g4 g5 now rc ct rk lf sz++bT 729 (newT g4 g3 false now rc ct rk lf sz)
def hPf:HL:=hPe R g1 g2 g3 g4 g5 now rc ct rk lf sz++bD 817 (newD g4 g3 false now rc ct rk lf sz)
def hP2:HL:=hB R g1 g2 g3 g4 g5 rc ct rk lf sz++[(121,.cells false [.ptr 233 0,.ptr 729 0,.ptr 321 0,.ptr 817 0,.nilSlice,.nilSlice]),(161,.cells false [.str g1,.str g2,.str g3,.str g4,.str g5])]++bT 233 (newT g3 g4 true now rc ct rk lf sz)++bD 321 (newD g3 g4 true now rc ct rk lf sz)++[(593,.cells false [.str g1,.str g2,.str g4,.str g3,.str g5])]++bT 729 (newT g4 g3 false now rc ct rk lf sz)++bD 817 (newD g4 g3 false now rc ct rk lf sz)
theorem w3n0:evT Try.prog noPS csR [300052,300061,66] Try.f3.ntmps (mask 3) 200 1 L5 ⟨T5 n g1 g2 g3 g4 g5 now rc ct rk lf sz 0,hP0 R g1 g2 g3 g4 g5 rc ct rk lf sz,137⟩ ⟨[false],[.tup [.ptr 233 0,.int .i64 0],tT 233 (newT g3 g4 true now rc ct rk lf sz),.tup [.ptr 321 0,.int .i64 0],.tup [.ptr 321 0,.agg (cD .nilSlice (newD g3 g4 true now rc ct rk lf sz))]],[]⟩=some (.normal,⟨T5 n g1 g2 g3 g4 g5 now rc ct rk lf sz 1++[(34,.bool true),(11,.ptr 161 0),(39,.bool false),(12,.ptr 233 0),(13,.int .i64 0),(14,.ptr 321 0),(15,.int .i64 0),(73,.bool false),(75,.bool false)],hP1 R g1 g2 g3 g4 g5 now rc ct rk lf sz,569⟩,⟨[],[],[!!(Int.beq' 0 0),mOb ((g10 [gotA g1 g2 g3 g4 g5,.bool true,.u64 now,limA rc ct rk lf sz]).getD (.pure (.tup []))) 321 (hPb R g1 g2 g3 g4 g5 now rc ct rk lf sz) (.tup [.ptr 321 0,.int .i64 0]) (hPc R g1 g2 g3 g4 g5 now rc ct rk lf sz),mOb ((g9 [gotA g1 g2 g3 g4 g5,.bool true,.u64 now,limA rc ct rk lf sz]).getD (.pure (.tup []))) 233 (hPa R g1 g2 g3 g4 g5 rc ct rk lf sz) (.tup [.ptr 233 0,.int .i64 0]) (hPb R g1 g2 g3 g4 g5 now rc ct rk lf sz)]⟩):=by kernel_rfl
theorem w3n1:evT Try.prog noPS csR [300052,300061,66] Try.f3.ntmps (mask 3) 200 1 L5 ⟨T5 n g1 g2 g3 g4 g5 now rc ct rk lf sz 1,hP1 R g1 g2 g3 g4 g5 now rc ct rk lf sz,569⟩ ⟨[false],[.tup [.ptr 729 0,.int .i64 0],tT 729 (newT g4 g3 false now rc ct rk lf sz),.tup [.ptr 817 0,.int .i64 0],.tup [.ptr 817 0,.agg (cD .nilSlice (newD g4 g3 false now rc ct rk lf sz))]],[]⟩=some (.normal,⟨T5 n g1 g2 g3 g4 g5 now rc ct rk lf sz 2++[(34,.bool true),(11,.ptr 593 0),(39,.bool true),(12,.ptr 729 0),(13,.int .i64 0),(14,.ptr 817 0),(15,.int .i64 0),(73,.bool false),(75,.bool false)],hP2 R g1 g2 g3 g4 g5 now rc ct rk lf sz,1065⟩,⟨[],[],[!!(Int.beq' 0 0),mOb ((g10 [gotA g1 g2 g4 g3 g5,.bool false,.u64 now,limA rc ct rk lf sz]).getD (.pure (.tup []))) 817 (hPe R g1 g2 g3 g4 g5 now rc ct rk lf sz) (.tup [.ptr 817 0,.int .i64 0]) (hPf R g1 g2 g3 g4 g5 now rc ct rk lf sz),mOb ((g9 [gotA g1 g2 g4 g3 g5,.bool false,.u64 now,limA rc ct rk lf sz]).getD (.pure (.tup []))) 729 (hPd R g1 g2 g3 g4 g5 now rc ct rk lf sz) (.tup [.ptr 729 0,.int .i64 0]) (hPe R g1 g2 g3 g4 g5 now rc ct rk lf sz)]⟩):=by kernel_rfl
theorem w3nx:evT Try.prog noPS csR [] Try.f3.ntmps (mask 3) 200 1 L5 ⟨T5 n g1 g2 g3 g4 g5 now rc ct rk lf sz 2,H,f0⟩ ⟨[],[],[]⟩=some (.exit 0,⟨T5 n g1 g2 g3 g4 g5 now rc ct rk lf sz 2++[(34,.bool false)],H,f0+16⟩,⟨[],[],[]⟩):=by kernel_rfl
theorem w3n6:segO (evSO Try.prog noPS csR [] Try.f3.ntmps (mask 3) 200 1 (((pieces (bodyOf Try.f3)).drop 6).take 1) ⟨T5 n g1 g2 g3 g4 g5 now rc ct rk lf sz 2++[(34,.bool false)],H,f0⟩ ⟨[],[],[]⟩)=some (⟨T7 n g1 g2 g3 g4 g5 now rc ct rk lf sz 0,H,f0+8⟩,[]):=by kernel_rfl
def newI:Nat→SA
 | 0=>⟨T5 n g1 g2 g3 g4 g5 now rc ct rk lf sz 0,hP0 R g1 g2 g3 g4 g5 rc ct rk lf sz,137⟩
 | 1=>⟨T5 n g1 g2 g3 g4 g5 now rc ct rk lf sz 1,hP1 R g1 g2 g3 g4 g5 now rc ct rk lf sz,569⟩
 | _=>⟨T5 n g1 g2 g3 g4 g5 now rc ct rk lf sz 2,hP2 R g1 g2 g3 g4 g5 now rc ct rk lf sz,1065⟩
end
theorem g10_at {g1 g2 g3 g4 g5:List UInt8}{first:Bool}{now rc ct rk lf:UInt64}{sz:Int}{d:EffA}(h:newG g3 g4 rc ct rk lf sz=true):(g10 [gotA g1 g2 g3 g4 g5,.bool first,.u64 now,limA rc ct rk lf sz]).getD d=newE obD 1 [0] winV (newD g3 g4 first now rc ct rk lf sz,[]):=by
 simp only [g10,gotA,limA,h,cond_true,Option.getD_some]
theorem newG_swap {g3 g4:List UInt8}{rc ct rk lf:UInt64}{sz:Int}(h:newG g3 g4 rc ct rk lf sz=true):newG g4 g3 rc ct rk lf sz=true:=by
 unfold newG at h ⊢
 simp only [Bool.and_eq_true] at h ⊢
 exact ⟨h.2.1,h.1,h.2.2⟩
theorem headA_keep {P:Program}{bs:Nat}{s0 s:SA}(hp:pairsT s0.fr 0 s0.T s.T=[]){n:Nat}{c:List AVal}(h1:aget s.H n=some (.cells false c)) (hn:n < s0.fr) (hv:ltL s0.fr c=false):headA P bs s0 s=⟨reshape s0.T s.T,s.H,s.fr⟩:=by
 obtain ⟨hT,hH⟩:=headA_cases (P:=P) (bs:=bs) s0 s hp
 rcases hH with ⟨a,b⟩ | ⟨a,b,c'⟩
 ·rw [← hT,← a,← b]
 ·have:=(ltH_get b n _ _ ((c' n hn).trans h1)).2
  rw [hv] at this
  cases this
section
variable {R:List AVal}{n:Nat}{g1 g2 g3 g4 g5:List UInt8}{now rc ct rk lf:UInt64}{sz:Int}
theorem ob_a (h:newG g3 g4 rc ct rk lf sz=true):mOb ((g9 [gotA g1 g2 g3 g4 g5,.bool true,.u64 now,limA rc ct rk lf sz]).getD (.pure (.tup []))) 233 (hPa R g1 g2 g3 g4 g5 rc ct rk lf sz) (.tup [.ptr 233 0,.int .i64 0]) (hPb R g1 g2 g3 g4 g5 now rc ct rk lf sz)=true:=mOb_of (by rw [g9_at h,newE_app (O2:=obT) (by decide)]; rfl)
theorem ob_b (h:newG g3 g4 rc ct rk lf sz=true):mOb ((g10 [gotA g1 g2 g3 g4 g5,.bool true,.u64 now,limA rc ct rk lf sz]).getD (.pure (.tup []))) 321 (hPb R g1 g2 g3 g4 g5 now rc ct rk lf sz) (.tup [.ptr 321 0,.int .i64 0]) (hPc R g1 g2 g3 g4 g5 now rc ct rk lf sz)=true:=mOb_of (by rw [g10_at h,newE_app (O2:=obD) (by decide)]; rfl)
theorem ob_c (h:newG g4 g3 rc ct rk lf sz=true):mOb ((g9 [gotA g1 g2 g4 g3 g5,.bool false,.u64 now,limA rc ct rk lf sz]).getD (.pure (.tup []))) 729 (hPd R g1 g2 g3 g4 g5 now rc ct rk lf sz) (.tup [.ptr 729 0,.int .i64 0]) (hPe R g1 g2 g3 g4 g5 now rc ct rk lf sz)=true:=mOb_of (by rw [g9_at h,newE_app (O2:=obT) (by decide)]; rfl)
theorem ob_d (h:newG g4 g3 rc ct rk lf sz=true):mOb ((g10 [gotA g1 g2 g4 g3 g5,.bool false,.u64 now,limA rc ct rk lf sz]).getD (.pure (.tup []))) 817 (hPe R g1 g2 g3 g4 g5 now rc ct rk lf sz) (.tup [.ptr 817 0,.int .i64 0]) (hPf R g1 g2 g3 g4 g5 now rc ct rk lf sz)=true:=mOb_of (by rw [g10_at h,newE_app (O2:=obD) (by decide)]; rfl)
theorem roundA_of {f:SA→Option (XA × SA)}{hd:SA→SA}{s s1 s2:SA}(e:f s=some (.normal,s1)) (hh:hd s1=s2):roundA f hd s=some s2:=by
 unfold roundA
 rw [e]
 exact congrArg some hh
theorem head_a:headA Try.prog 1 ⟨T5 n g1 g2 g3 g4 g5 now rc ct rk lf sz 0,hP0 R g1 g2 g3 g4 g5 rc ct rk lf sz,137⟩ ⟨T5 n g1 g2 g3 g4 g5 now rc ct rk lf sz 1++[(34,.bool true),(11,.ptr 161 0),(39,.bool false),(12,.ptr 233 0),(13,.int .i64 0),(14,.ptr 321 0),(15,.int .i64 0),(73,.bool false),(75,.bool false)],hP1 R g1 g2 g3 g4 g5 now rc ct rk lf sz,569⟩=⟨T5 n g1 g2 g3 g4 g5 now rc ct rk lf sz 1,hP1 R g1 g2 g3 g4 g5 now rc ct rk lf sz,569⟩:=
 (headA_keep (n:=121) (c:=[.ptr 233 0,.nilPtr,.ptr 321 0,.nilPtr,.nilSlice,.nilSlice]) rfl rfl (show 121 < 137 by decide) rfl).trans rfl
theorem head_b:headA Try.prog 1 ⟨T5 n g1 g2 g3 g4 g5 now rc ct rk lf sz 0,hP0 R g1 g2 g3 g4 g5 rc ct rk lf sz,137⟩ ⟨T5 n g1 g2 g3 g4 g5 now rc ct rk lf sz 2++[(34,.bool true),(11,.ptr 593 0),(39,.bool true),(12,.ptr 729 0),(13,.int .i64 0),(14,.ptr 817 0),(15,.int .i64 0),(73,.bool false),(75,.bool false)],hP2 R g1 g2 g3 g4 g5 now rc ct rk lf sz,1065⟩=⟨T5 n g1 g2 g3 g4 g5 now rc ct rk lf sz 2,hP2 R g1 g2 g3 g4 g5 now rc ct rk lf sz,1065⟩:=
 (headA_keep (n:=121) (c:=[.ptr 233 0,.ptr 729 0,.ptr 321 0,.ptr 817 0,.nilSlice,.nilSlice]) rfl rfl (show 121 < 137 by decide) rfl).trans rfl
theorem new_loop (h:newG g3 g4 rc ct rk lf sz=true):evS Try.prog csR Try.f3.ntmps (mask 3) 200 1 ((pieces (bodyOf Try.f3)).drop 5) ⟨T5 n g1 g2 g3 g4 g5 now rc ct rk lf sz 0,hP0 R g1 g2 g3 g4 g5 rc ct rk lf sz,137⟩=evS Try.prog csR Try.f3.ntmps (mask 3) 200 1 ((pieces (bodyOf Try.f3)).drop 7) ⟨T7 n g1 g2 g3 g4 g5 now rc ct rk lf sz 0,hP2 R g1 g2 g3 g4 g5 now rc ct rk lf sz,1089⟩:=by
 have h':=newG_swap h
 have ea:=roundA_of (evT_ok (noPS_ok _) _ _ _ _ _ _ (w3n0 R n g1 g2 g3 g4 g5 now rc ct rk lf sz) (allT_c rfl (allT_c (ob_b h) (allT_c (ob_a h) rfl)))).1 (head_a (R:=R))
 have eb:=roundA_of (evT_ok (noPS_ok _) _ _ _ _ _ _ (w3n1 R n g1 g2 g3 g4 g5 now rc ct rk lf sz) (allT_c rfl (allT_c (ob_d h') (allT_c (ob_c h') rfl)))).1 (head_b (R:=R))
 have st:∀ k,k < 2→roundA (evC Try.prog csR Try.f3.ntmps (mask 3) 200 1 L5) (headA Try.prog 1 (newI R n g1 g2 g3 g4 g5 now rc ct rk lf sz 0)) (newI R n g1 g2 g3 g4 g5 now rc ct rk lf sz k)=some (newI R n g1 g2 g3 g4 g5 now rc ct rk lf sz (k+1)):=fun k hk=>by
  have:k=0 ∨ k=1:=by omega
  rcases this with rfl | rfl
  ·exact ea
  ·exact eb
 have e:=(evT_ok (noPS_ok _) _ _ _ _ _ _ (w3nx n g1 g2 g3 g4 g5 now rc ct rk lf sz 1065 (hP2 R g1 g2 g3 g4 g5 now rc ct rk lf sz)) rfl).1
 have e2:=evS_loop (l:=pieces (bodyOf Try.f3)) (k:=5) (id:=0) (b:=L5) (by kernel_rfl) (newI R n g1 g2 g3 g4 g5 now rc ct rk lf sz) 2 st e (by omega)
 have e3:=segO_ok (noPS_ok _) (w3n6 n g1 g2 g3 g4 g5 now rc ct rk lf sz (1065+16) (hP2 R g1 g2 g3 g4 g5 now rc ct rk lf sz)) rfl
 exact e2.trans e3
theorem new_rel {first:Bool}(h:newG g3 g4 rc ct rk lf sz=true):TRel (newT g3 g4 first now rc ct rk lf sz) (newD g3 g4 first now rc ct rk lf sz) []:=by
 unfold newG mayD at h
 simp only [Bool.and_eq_true,Bool.not_eq_true',bne_eq_false_iff_eq,decide_eq_true_eq] at h
 obtain ⟨h1,h2,h3,h4,h5⟩:=h
 refine ⟨rfl,rfl,rfl,rfl,rfl,rfl,rfl,rfl,⟨?_,rfl,rfl,fun h=>absurd rfl h,fun h=>absurd rfl h⟩,(by intro h; cases h),fun _=>⟨rfl,rfl,?_,?_⟩⟩
 ·obtain ⟨m,rfl⟩:∃ m:Nat,sz=m:=⟨sz.toNat,by omega⟩
  have e:(UInt64.ofInt (m:Int)).toNat=m:=by
   rw [ofInt_nat,UInt64.toNat_ofNat']
   omega
  unfold okW
  show (!(UInt64.ofInt (m:Int) == 0) && decide ((UInt64.ofInt (m:Int)).toNat≤64 * (List.replicate (((m:Int).toNat+63) / 64) (0:UInt64)).length))=true
  rw [e,List.length_replicate,Bool.and_eq_true]
  constructor
  ·rw [Bool.not_eq_true',beq_eq_false_iff_ne]
   intro e0
   rw [e0] at e
   have:(0:UInt64).toNat=0:=rfl
   omega
  ·refine decide_eq_true ?_
   rw [Int.toNat_natCast]
   omega
 ·show g3.length=32
  omega
 ·show g4.length=32
  omega
theorem new_JH (h:newG g3 g4 rc ct rk lf sz=true):JH R 0 (hP2 R g1 g2 g3 g4 g5 now rc ct rk lf sz) 1089:=by
 refine ⟨Nat.le_refl _,rfl,0,0,0,0,⟨newT g3 g4 true now rc ct rk lf sz,newD g3 g4 true now rc ct rk lf sz,[],[]⟩,⟨newT g4 g3 false now rc ct rk lf sz,newD g4 g3 false now rc ct rk lf sz,[],[]⟩,⟨rfl,⟨rfl,rfl,rfl,rfl,rfl,fun h=>absurd rfl h,fun h=>absurd rfl h⟩,⟨rfl,rfl,rfl,rfl,rfl,fun h=>absurd rfl h,fun h=>absurd rfl h⟩,?_,?_⟩,⟨new_rel h,Nat.zero_le _,Nat.zero_le _,(by intro x hx; cases hx)⟩,⟨new_rel (newG_swap h),Nat.zero_le _,Nat.zero_le _,(by intro x hx; cases hx)⟩⟩
 ·show ([121,233,234,235,236,321,729,730,731,732,817]:List Nat).Nodup
  decide
 ·show ∀ n,n ∈ ([121,233,234,235,236,321,729,730,731,732,817]:List Nat)→n < 1089
  decide
end
end Go.Proofs.Ytjdhndicgifnbaa.Tun
