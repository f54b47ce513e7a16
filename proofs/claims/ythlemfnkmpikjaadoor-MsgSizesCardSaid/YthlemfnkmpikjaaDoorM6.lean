/- Texts Eng39, Eng40, Eng41, Eng48, Eng49, Eng50, Eng51, Eng52, Eng44, Eng45, Ms1, Ms2, Ms3, Ms4, Ms5, Ms6, Ms7, Mg1: what they show that this claim uses. -/
import Derived.Test.YthlemfnkmpikjaaDoorM5
namespace Go.Num
end Go.Num
set_option maxRecDepth 100000
set_option maxHeartbeats 1000000
set_option linter.unusedVariables false
set_option linter.unusedSimpArgs false
namespace Go.Eng
open Go
def oneE (n:Nat) (k:(Nat→Option AObj)→List AVal→Option (AVal × List AVal)):EffA:=
 .eff fun _ η=>match η n with
  | some (.cells false c)=>match k η c with
   | some (v,c')=>some (v,[(n,some (.cells false c'))])
   | none=>none
  | _=>none
theorem callOk_one {P:Program}{cs:CS}(hcs:CSOk P cs) (hm:P.follows .mixedOrders=true){f:FuncId}{args cargs:List AVal}{n:Nat}(hcan:canL P.globals.size [] args=some (cargs,[n])){k:(Nat→Option AObj)→List AVal→Option (AVal × List AVal)}
  (h:∀ η c v c',k η c=some (v,c')→ltL 0 c=true∧ltL 0 c'=true∧ltV 0 v=true∧∃ F nn H' fr',run1 P cs nn F f cargs (globA η P.globals.size 0++[(P.globals.size,.cells false c)]) (P.globals.size+1)=some (v,H',fr')∧aget H' P.globals.size=some (.cells false c')):CallOk P f args (oneE n k):=by
 intro σ args' H w base v0 H0 hl hg hH happ hfree
 unfold oneE EffA.app at happ
 simp only at happ
 cases hn:aget H n with
 | none=>rw [hn] at happ; cases happ
 | some ob =>
  obtain ⟨ro,c⟩:=ob
  rw [hn] at happ
  cases ro with
  | true=>cases happ
  | false =>
   simp only at happ
   cases hk:k (aget H) c with
   | none=>rw [hk] at happ; cases happ
   | some r =>
    obtain ⟨v,c'⟩:=r
    rw [hk] at happ
    simp only [Option.some.injEq,Prod.mk.injEq] at happ
    obtain ⟨rfl,rfl⟩:=happ
    obtain ⟨h1,h2,h3,F,nn,H',fr',h4,h5⟩:=h (aget H) c v c' hk
    refine callOk_view hcs hm (nn:=nn) (F:=F) hcan σ args' H w base v _ hl hg hH ?_ hfree
    unfold viewE EffA.app
    simp only [objsA,hn,h1,cond_true]
    have h4':run1 P cs nn F f cargs (globA (aget H) P.globals.size 0++[(P.globals.size,.cells false c)]) (P.globals.size+[n].length)=some (v,H',fr'):=h4
    rw [h4']
    simp only [backA,hn,h5,h2,cond_true,h3,nodupB,List.all_nil,Bool.and_self]
theorem psOne_ok {P:Program}{f:FuncId}{g:List AVal→Option (EffA × Bool)}(h:∀ args e,g args=some (e,true)→CallOk P f args e):CSOk P (csP (psOne f g)):=by
 intro f' args e he
 unfold csP psOne at he
 cases hf:Nat.beq f' f with
 | false=>rw [hf] at he; cases he
 | true =>
  rw [hf] at he
  have hf:=Nat.eq_of_beq_eq_true hf
  subst hf
  simp only at he
  cases hg:g args with
  | none=>rw [hg] at he; cases he
  | some r =>
   obtain ⟨e',c⟩:=r
   rw [hg] at he
   cases c with
   | false=>cases he
   | true=>cases he; exact h args _ hg
def nB (k:Nat) (f:Nat→UInt8):Nat→UInt8:=fun j=>if j < k then f j else 0
end Go.Eng
namespace Go.Eng
open Go
def newP (x:Option (AVal × HL × Nat)):Option (Nat × List AVal):=
 match x with
 | some (.ptr k 0,H',_)=>match aget H' k with
  | some (.cells false c)=>some (k,c)
  | _=>none
 | _=>none
theorem callOk_newP {P:Program}{cs:CS}(hcs:CSOk P cs) (hm:P.follows .mixedOrders=true){nn F:Nat}{f:FuncId}{args:List AVal}{k:Nat}{c:List AVal}(hcan:canL P.globals.size [] args=some (args,[]))
  (hrun:newP (run1 P cs nn F f args [] P.globals.size)=some (k,c)) (hc:ltL 0 c=true) (hg:Nat.ble P.globals.size k=true):CallOk P f args (.alloc (.cells false c) fun b=>.ptr b 0):=by
 unfold newP at hrun
 split at hrun
 ·rename_i k' H' fr hr
  split at hrun
  ·rename_i c' hk
   simp only [Option.some.injEq,Prod.mk.injEq] at hrun
   obtain ⟨rfl,rfl⟩:=hrun
   refine (callOk_viewN0 hcs hm (nn:=nn) (F:=F) (f:=f) hcan).less fun base H r hr2 => ?_
   simp only [EffA.app,Option.some.injEq] at hr2
   subst hr2
   have e1:renV k' 0 (.ptr k' 0)=some (.ptr 0 0):=by
    simp only [renV,renS,renN,Nat.beq_refl,cond_true]
   have e2:renV 0 base (.ptr 0 0)=some (.ptr base 0):=by
    simp only [renV,renS,renN,Nat.beq_refl,cond_true]
   have e3:ltV 1 (.ptr 0 0)=true:=rfl
   simp only [viewN0,EffA.app,objsA,List.length_nil,Nat.add_zero,hr,backA,newN,hk,e1,e2,e3,hc,nodupB,hg,Bool.and_self,cond_true,List.nil_append,appU]
  ·cases hrun
 ·cases hrun
def tabE (k:(Nat→Option AObj)→Option AVal):EffA:=
 .eff fun _ η=>match k η with
  | some v=>some (v,[])
  | none=>none
theorem callOk_tab {P:Program}{cs:CS}(hcs:CSOk P cs) (hm:P.follows .mixedOrders=true){f:FuncId}{args:List AVal}(hcan:canL P.globals.size [] args=some (args,[])){k:(Nat→Option AObj)→Option AVal}
  (h:∀ η v,k η=some v→ltV 0 v=true∧∃ F nn H' fr',run1 P cs nn F f args (globA η P.globals.size 0) P.globals.size=some (v,H',fr')):CallOk P f args (tabE k):=by
 intro σ args' H w base v0 H0 hl hg hH happ hfree
 unfold tabE EffA.app at happ
 simp only at happ
 cases hk:k (aget H) with
 | none=>rw [hk] at happ; cases happ
 | some v =>
  rw [hk] at happ
  simp only [Option.some.injEq,Prod.mk.injEq] at happ
  obtain ⟨rfl,rfl⟩:=happ
  obtain ⟨h3,F,nn,H',fr',h4⟩:=h (aget H) v hk
  refine callOk_view hcs hm (nn:=nn) (F:=F) hcan σ args' H w base v _ hl hg hH ?_ hfree
  unfold viewE EffA.app
  simp only [objsA,List.append_nil]
  have h4':run1 P cs nn F f args (globA (aget H) P.globals.size 0) (P.globals.size+([]:List Nat).length)=some (v,H',fr'):=h4
  rw [h4']
  simp only [backA,h3,nodupB,cond_true,Bool.and_self]
end Go.Eng
namespace Go.Eng
open Go
end Go.Eng
namespace Go.Eng
open Go
inductive RN (ρ:Nat→Nat→Prop):AVal→AVal→Prop where
 | same {v:AVal} (h:ltV 0 v=true):RN ρ v v
 | ptr {k n off:Nat} (h:ρ k n):RN ρ (.ptr k off) (.ptr n off)
 | slice {k n off len esz:Nat} (h:ρ k n):RN ρ (.slice k off len esz) (.slice n off len esz)
 | map {k n:Nat} (h:ρ k n):RN ρ (.map k) (.map n)
 | fn {f:FuncId} {c c':List AVal} (hs:c.length=c'.length) (h:∀ (i:Nat) v v',c[i]? = some v→c'[i]? = some v'→RN ρ v v'):RN ρ (.fn f c) (.fn f c')
 | iface {t:TypeId} {v v':AVal} (h:RN ρ v v'):RN ρ (.iface t v) (.iface t v')
 | agg {c c':List AVal} (hs:c.length=c'.length) (h:∀ (i:Nat) v v',c[i]? = some v→c'[i]? = some v'→RN ρ v v'):RN ρ (.agg c) (.agg c')
 | tup {c c':List AVal} (hs:c.length=c'.length) (h:∀ (i:Nat) v v',c[i]? = some v→c'[i]? = some v'→RN ρ v v'):RN ρ (.tup c) (.tup c')
 | tp {k n:Nat} {t:TypeId} {b:Bool} (h:ρ k n):RN ρ (.tp k t b) (.tp n t b)
 | mth {f:FuncId} {k n off:Nat} (h:ρ k n):RN ρ (.mth f k off) (.mth f n off)
def RL (ρ:Nat→Nat→Prop) (c c':List AVal):Prop:=c.length=c'.length∧∀ (i:Nat) v v',c[i]? = some v→c'[i]? = some v'→RN ρ v v'
theorem RL.nil (ρ:Nat→Nat→Prop):RL ρ [] []:=⟨rfl,fun i v v' h=>by simp at h⟩
theorem RL.cons {ρ:Nat→Nat→Prop}{v v':AVal}{c c':List AVal}(h:RN ρ v v') (hc:RL ρ c c'):RL ρ (v::c) (v'::c'):=by
 refine ⟨by simp [hc.1],fun i u u' h1 h2 => ?_⟩
 cases i with
 | zero=>simp at h1 h2; subst h1; subst h2; exact h
 | succ i=>exact hc.2 i u u' (by simpa using h1) (by simpa using h2)
theorem partner {c c':List AVal}(hs:c.length=c'.length){i:Nat}{x:AVal}(h:c'[i]? = some x):∃ y,c[i]? = some y:=
 ⟨_,List.getElem?_eq_getElem (by rw [hs]; exact (List.getElem?_eq_some_iff.1 h).1)⟩
theorem RN.aggL {ρ:Nat→Nat→Prop}{c c':List AVal}(h:RL ρ c c'):RN ρ (.agg c) (.agg c'):=.agg h.1 h.2
theorem RN.tupL {ρ:Nat→Nat→Prop}{c c':List AVal}(h:RL ρ c c'):RN ρ (.tup c) (.tup c'):=.tup h.1 h.2
theorem RN.fnL {ρ:Nat→Nat→Prop}{f:FuncId}{c c':List AVal}(h:RL ρ c c'):RN ρ (.fn f c) (.fn f c'):=.fn h.1 h.2
def Keeps2 (ρ:Nat→Nat→Prop) (σ σ':Sig):Prop:=∀ k n,ρ k n→∀ p,σ k=some p→σ' n=some p
theorem RN.vr {ρ:Nat→Nat→Prop}{σ σ':Sig}(hk:Keeps2 ρ σ σ'){c a:AVal}(h:RN ρ c a):∀ {v:Value},VR σ c v→VR σ' a v:=by
 induction h with
 | same h=>intro v hv; exact (ltV_ok h hv).mono fun n p hp=>by simp [cut] at hp
 | ptr h=>intro v hv; cases hv with | ptr hp=>exact .ptr (hk _ _ h _ hp)
 | slice h=>intro v hv; cases hv with | slice hp a b c=>exact .slice (hk _ _ h _ hp) a b c
 | map h=>intro v hv; cases hv with | map hp=>exact .map (hk _ _ h _ hp)
 | mth h=>intro v hv; cases hv with | mth hp=>exact .mth (hk _ _ h _ hp)
 | tp h =>
  intro v hv
  cases hv with
  | tp0 hp a b c=>exact .tp0 (hk _ _ h _ hp) a b c
  | tp1 hp a b c=>exact .tp1 (hk _ _ h _ hp) a b c
 | fn hs h ih =>
  intro v hv
  cases hv with
  | fn a b =>
   refine .fn (hs ▸ a) fun i x x' h1 h2 => ?_
   obtain ⟨y,hy⟩:=partner hs h1
   exact ih i y x hy h1 (b i y x' hy h2)
 | iface h ih=>intro v hv; cases hv with | iface hp=>exact .iface (ih hp)
 | agg hs h ih =>
  intro v hv
  cases hv with
  | agg a b =>
   refine .agg (hs ▸ a) fun i x x' h1 h2 => ?_
   obtain ⟨y,hy⟩:=partner hs h1
   exact ih i y x hy h1 (b i y x' hy h2)
 | tup hs h ih =>
  intro v hv
  cases hv with
  | tup a b =>
   refine .tup (hs ▸ a) fun i x x' h1 h2 => ?_
   obtain ⟨y,hy⟩:=partner hs h1
   exact ih i y x hy h1 (b i y x' hy h2)
theorem RN.vr' {ρ:Nat→Nat→Prop}{σ σ':Sig}(hk:Keeps2 (fun k n=>ρ n k) σ σ'){c a:AVal}(h:RN ρ c a):∀ {v:Value},VR σ a v→VR σ' c v:=by
 induction h with
 | same h=>intro v hv; exact (ltV_ok h hv).mono fun n p hp=>by simp [cut] at hp
 | ptr h=>intro v hv; cases hv with | ptr hp=>exact .ptr (hk _ _ h _ hp)
 | slice h=>intro v hv; cases hv with | slice hp a b c=>exact .slice (hk _ _ h _ hp) a b c
 | map h=>intro v hv; cases hv with | map hp=>exact .map (hk _ _ h _ hp)
 | mth h=>intro v hv; cases hv with | mth hp=>exact .mth (hk _ _ h _ hp)
 | tp h =>
  intro v hv
  cases hv with
  | tp0 hp a b c=>exact .tp0 (hk _ _ h _ hp) a b c
  | tp1 hp a b c=>exact .tp1 (hk _ _ h _ hp) a b c
 | fn hs h ih =>
  intro v hv
  cases hv with
  | fn a b =>
   refine .fn (hs.symm ▸ a) fun i x x' h1 h2 => ?_
   obtain ⟨y,hy⟩:=partner hs.symm h1
   exact ih i x y h1 hy (b i y x' hy h2)
 | iface h ih=>intro v hv; cases hv with | iface hp=>exact .iface (ih hp)
 | agg hs h ih =>
  intro v hv
  cases hv with
  | agg a b =>
   refine .agg (hs.symm ▸ a) fun i x x' h1 h2 => ?_
   obtain ⟨y,hy⟩:=partner hs.symm h1
   exact ih i x y h1 hy (b i y x' hy h2)
 | tup hs h ih =>
  intro v hv
  cases hv with
  | tup a b =>
   refine .tup (hs.symm ▸ a) fun i x x' h1 h2 => ?_
   obtain ⟨y,hy⟩:=partner hs.symm h1
   exact ih i x y h1 hy (b i y x' hy h2)
def RO (ρ:Nat→Nat→Prop) (o o':AObj):Prop:=∃ ro c c',o=.cells ro c∧o'=.cells ro c'∧RL ρ c c'
theorem RO.orel {ρ:Nat→Nat→Prop}{σ σ':Sig}(hk:Keeps2 ρ σ σ'){o o':AObj}(h:RO ρ o o'){w:World}{p:Place}(ho:ORel σ w p o):ORel σ' w p o':=by
 obtain ⟨ro,c,c',rfl,rfl,hl⟩:=h
 obtain ⟨d,t,fz,h1,h2,h3,h4⟩:=ho
 refine ⟨d,t,fz,h1,h2,fun i v hv => ?_,h4⟩
 obtain ⟨y,hy⟩:∃ y,c[i]? = some y:=⟨_,List.getElem?_eq_getElem (by rw [hl.1]; exact (List.getElem?_eq_some_iff.1 hv).1)⟩
 obtain ⟨v',a,b⟩:=h3 i y hy
 exact ⟨v',a,(hl.2 i y v hy hv).vr hk b⟩
theorem RO.orel' {ρ:Nat→Nat→Prop}{σ σ':Sig}(hk:Keeps2 (fun k n=>ρ n k) σ σ'){o o':AObj}(h:RO ρ o o'){w:World}{p:Place}(ho:ORel σ w p o'):ORel σ' w p o:=by
 obtain ⟨ro,c,c',rfl,rfl,hl⟩:=h
 obtain ⟨d,t,fz,h1,h2,h3,h4⟩:=ho
 refine ⟨d,t,fz,h1,h2,fun i v hv => ?_,h4⟩
 obtain ⟨y,hy⟩:∃ y,c'[i]? = some y:=⟨_,List.getElem?_eq_getElem (by rw [← hl.1]; exact (List.getElem?_eq_some_iff.1 hv).1)⟩
 obtain ⟨v',a,b⟩:=h3 i y hy
 exact ⟨v',a,(hl.2 i v y hv hy).vr' hk b⟩
theorem RO.ro {ρ:Nat→Nat→Prop}{o o':AObj}(h:RO ρ o o'):o.ro=o'.ro:=by
 obtain ⟨ro,c,c',rfl,rfl,_⟩:=h
 rfl
theorem appU_at:∀ {us:List (Nat × Option AObj)}{H:HL}{m:Nat},(us.map (·.1)).Nodup→(∃ x,(m,x) ∈ us∧aget (appU H us) m=x) ∨ ((∀ x,(m,x) ∉ us)∧aget (appU H us) m=aget H m)
 | [],H,m,_=>.inr ⟨fun x h=>(by cases h),rfl⟩
 | (k,x)::us,H,m,hn=>by
  simp only [List.map_cons,List.nodup_cons] at hn
  have hstep:∀ H1:HL,(aget H1 k=x)→(∀ j,j ≠ k→aget H1 j=aget H j)→appU H ((k,x)::us)=appU H1 us→(∃ x',(m,x') ∈ (k,x)::us∧aget (appU H ((k,x)::us)) m=x') ∨ ((∀ x',(m,x') ∉ (k,x)::us)∧aget (appU H ((k,x)::us)) m=aget H m):=fun H1 e1 e2 e3=>by
   rw [e3]
   rcases appU_at (us:=us) (H:=H1) (m:=m) hn.2 with ⟨x',h1,h2⟩ | ⟨h1,h2⟩
   ·exact .inl ⟨x',List.mem_cons_of_mem _ h1,h2⟩
   ·by_cases c:m=k
    ·subst c
     exact .inl ⟨x,List.mem_cons_self ..,by rw [h2,e1]⟩
    ·refine .inr ⟨fun x' h => ?_,by rw [h2,e2 m c]⟩
     rcases List.mem_cons.1 h with h | h
     ·cases h; exact c rfl
     ·exact h1 x' h
  cases x with
  | some o=>exact hstep (aset H k o) (by rw [aget_aset_fun,upd_same]) (fun j hj=>by rw [aget_aset_fun,upd_other _ _ (Ne.symm hj)]) rfl
  | none=>exact hstep (adel H k) (by rw [aget_adel,if_pos rfl]) (fun j hj=>by rw [aget_adel,if_neg (Ne.symm hj)]) rfl
def ρ0 (G:Nat) (ns:List Nat) (k n:Nat):Prop:=(k < G∧n=k) ∨ ∃ i,k=G+i∧ns[i]? = some n
def ρ1 (G:Nat) (ns ks:List Nat) (base:Nat) (k n:Nat):Prop:=ρ0 G ns k n ∨ ∃ j,ks[j]? = some k∧n=base+j
def Known (η:Nat→Option AObj) (args:List AVal) (n:Nat):Prop:=(∃ o,η n=some o) ∨ (∃ (m:Nat) (fz:Bool) (c:List AVal) (i:Nat),η m=some (.cells fz c)∧((∃ off len esz,c[i]? = some (AVal.slice n off len esz)) ∨ ∃ off,c[i]? = some (AVal.ptr n off))) ∨ (∃ (i:Nat) (off:Nat),args[i]? = some (AVal.ptr n off)) ∨ ∃ (i off len esz:Nat),args[i]? = some (AVal.slice n off len esz)
structure Deep (P:Program) (cs:CS) (f:FuncId) (args:List AVal) (base:Nat) (η:Nat→Option AObj) (v:AVal) (us:List (Nat × Option AObj)) where
 nn:Nat
 F:Nat
 ns:List Nat
 ks:List Nat
 cargs:List AVal
 Hc:HL
 fr:Nat
 v0:AVal
 H':HL
 fr':Nat
 hns:ns.Nodup
 hη:∀ n,n ∈ ns→Known η args n
 hargs:RL (ρ0 P.globals.size ns) cargs args
 hblk:∀ k o,aget Hc k=some o→∃ i n o',k=P.globals.size+i∧ns[i]? = some n∧η n=some o'∧RO (ρ0 P.globals.size ns) o o'
 hfr:P.globals.size+ns.length≤fr
 hrun:run1 P cs nn F f cargs Hc fr=some (v0,H',fr')
 hks:ks.Nodup
 hks8:ks.length≤8
 hkfr:∀ k,k ∈ ks→fr≤k
 hv:RN (ρ1 P.globals.size ns ks base) v0 v
 hnd:(us.map (·.1)).Nodup
 hus:∀ m x,(m,x) ∈ us→(∃ i,ns[i]? = some m∧(x=none ∨ ∃ o o',x=some o'∧aget H' (P.globals.size+i)=some o∧o.ro=false∧RO (ρ1 P.globals.size ns ks base) o o')) ∨
  ∃ j k o o',m=base+j∧ks[j]? = some k∧x=some o'∧aget H' k=some o∧o.ro=false∧RO (ρ1 P.globals.size ns ks base) o o'
 hall:∀ i n o,ns[i]? = some n→aget Hc (P.globals.size+i)=some o→o.ro=false→∃ x,(n,x) ∈ us
theorem inj_of_nodup {l:List Nat}(h:l.Nodup){i j n:Nat}(hi:l[i]? = some n) (hj:l[j]? = some n):i=j:=by
 obtain ⟨a,ea⟩:=List.getElem?_eq_some_iff.1 hi
 obtain ⟨b,eb⟩:=List.getElem?_eq_some_iff.1 hj
 exact (List.getElem_inj h).1 (ea.trans eb.symm)
theorem callOk_deep {P:Program}{cs:CS}(hcs:CSOk P cs) (hm:P.follows .mixedOrders=true){f:FuncId}{args:List AVal}{K:Nat→(Nat→Option AObj)→Option (AVal × List (Nat × Option AObj))}
  (h:∀ base η v us,K base η=some (v,us)→Nonempty (Deep P cs f args base η v us)):CallOk P f args (.eff K):=by
 intro σ args' H w base v H0 hl hg hH happ hfree
 simp only [EffA.app] at happ
 cases hK:K base (aget H) with
 | none=>rw [hK] at happ; cases happ
 | some r =>
 obtain ⟨v1,us⟩:=r
 rw [hK] at happ
 simp only [Option.some.injEq,Prod.mk.injEq] at happ
 obtain ⟨rfl,rfl⟩:=happ
 obtain ⟨D⟩:=h base (aget H) v1 us hK
 obtain ⟨nn,F,ns,ks,cargs,Hc,fr,v0,H',fr',hns,hη,hargs,hblk,hfr,hrun,hks,hks8,hkfr,hv,hnd,hus,hall⟩:=D
 obtain ⟨fn,body,hf,hb,hrunF⟩:=run1_some hrun
 obtain ⟨G,hG⟩:∃ G,G=P.globals.size:=⟨_,rfl⟩
 rw [← hG] at hargs hblk hfr hv hus hall
 -- the callee's names
 obtain ⟨σc,hσc⟩:∃ σc,σc=sigC G ns σ:=⟨_,rfl⟩
 have c1:∀ k,k < G→σc k=σ k:=fun k hk=>by rw [hσc]; unfold sigC; rw [if_pos hk]
 have c2:∀ i n,ns[i]? = some n→σc (G+i)=σ n:=fun i n hi=>by rw [hσc]; exact sigC_at hi
 have hin:Keeps2 (fun n k=>ρ0 G ns k n) σ σc:=fun n k hk p hp=>by
  rcases hk with ⟨a,rfl⟩ | ⟨i,rfl,hi⟩
  ·rw [c1 _ a]; exact hp
  ·rw [c2 i n hi]; exact hp
 have hgc:GRel P σc:=fun g hgl=>by
  obtain ⟨sz,hs⟩:=hg g hgl
  exact ⟨sz,by rw [c1 g (by omega)]; exact hs⟩
 have hfrc:Fresh σc fr:=fun m hm'=>by
  rw [hσc]
  unfold sigC
  rw [if_neg (by omega),List.getElem?_eq_none (by omega)]
 have hlc:LR σc cargs args':=⟨hargs.1.trans hl.1,fun i u u' h1 h2=>by
  obtain ⟨y,hy⟩:=partner hargs.1.symm h1
  exact (hargs.2 i u y h1 hy).vr' hin (hl.2 i y u' hy h2)⟩
 have hdef:∀ n,n ∈ ns→∃ p,σ n=some p:=fun n hn=>by
  rcases hη n hn with ⟨o,ho⟩ | ⟨m,fz,c,i,ho,hc⟩ | ⟨i,off,ha⟩ | ⟨i,off,len,esz,ha⟩
  ·obtain ⟨p,hp,_⟩:=hH.obj n o ho
   exact ⟨p,hp⟩
  ·obtain ⟨p,hp,d,t,fz,h1,h2,h3,h4⟩:=hH.obj m _ ho
   rcases hc with ⟨off,len,esz,hc⟩ | ⟨off,hc⟩
   ·obtain ⟨v',a,b⟩:=h3 i _ hc
    cases b with
    | slice hs=>exact ⟨_,hs⟩
   ·obtain ⟨v',a,b⟩:=h3 i _ hc
    cases b with
    | ptr hs=>exact ⟨_,hs⟩
  ·obtain ⟨v',hv'⟩:∃ v',args'[i]? = some v':=⟨_,Array.getElem?_eq_getElem (by rw [← hl.1]; exact (List.getElem?_eq_some_iff.1 ha).1)⟩
   cases hl.2 i _ v' ha hv' with
   | ptr hs=>exact ⟨_,hs⟩
  ·obtain ⟨v',hv'⟩:∃ v',args'[i]? = some v':=⟨_,Array.getElem?_eq_getElem (by rw [← hl.1]; exact (List.getElem?_eq_some_iff.1 ha).1)⟩
   cases hl.2 i _ v' ha hv' with
   | slice hs=>exact ⟨_,hs⟩
 have hHc:HRel σc (aget Hc) w:=by
  refine ⟨fun k o hk => ?_,fun k k' o o' q q' h1 h2 hq hq' he => ?_⟩
  ·obtain ⟨i,n,o',rfl,hi,ho',hro⟩:=hblk k o hk
   obtain ⟨p,hp,hor⟩:=hH.obj n o' ho'
   exact ⟨p,by rw [c2 i n hi]; exact hp,hro.orel' hin hor⟩
  ·obtain ⟨i,n,u,rfl,hi,hu,hro⟩:=hblk k o h1
   obtain ⟨i',n',u',rfl,hi',hu',hro'⟩:=hblk k' o' h2
   rw [c2 i n hi] at hq
   rw [c2 i' n' hi'] at hq'
   rcases hH.inj n n' u u' q q' hu hu' hq hq' he with e | ⟨e1,e2⟩
   ·subst e
    exact .inl (by rw [inj_of_nodup hns hi hi'])
   ·exact .inr ⟨by rw [hro.ro]; exact e1,by rw [hro'.ro]; exact e2⟩
 refine (runF_ok hcs hm hf hb hrunF hlc hHc hgc hfrc).mono fun r w' hrw => ?_
 obtain ⟨σ',v',rfl,g1,g2,g3,g4⟩:=hrw
 -- the caller's names behind the call
 obtain ⟨σ2,hσ2⟩:∃ σ2:Sig,σ2=fun m=>if base≤m∧m < base+8 then (match ks[m - base]? with | some k=>σ' k | none=>none) else σ m:=⟨_,rfl⟩
 have s1:∀ j k,ks[j]? = some k→σ2 (base+j)=σ' k:=fun j k hj=>by
  have:j < ks.length:=(List.getElem?_eq_some_iff.1 hj).1
  rw [hσ2]
  show (if base≤base+j∧base+j < base+8 then _ else _)=_
  rw [if_pos (by omega),Nat.add_sub_cancel_left,hj]
 have s2:∀ m,(m < base ∨ base+8≤m)→σ2 m=σ m:=fun m hm'=>by
  rw [hσ2]
  show (if base≤m∧m < base+8 then _ else _)=_
  rw [if_neg (by omega)]
 have hfr0:∀ m p,σ m=some p→m < base ∨ base+8≤m:=fun m p hp=>by
  by_cases c:base≤m∧m < base+8
  ·have:=hfree (m - base) (by omega)
   rw [show base+(m - base)=m by omega,hp] at this
   cases this
  ·omega
 have s3:∀ m p,σ m=some p→σ2 m=some p:=fun m p hp=>by rw [s2 m (hfr0 m p hp)]; exact hp
 have hout0:∀ k n,ρ0 G ns k n→σ' k=σ2 n:=fun k n hk=>by
  rcases hk with ⟨a,rfl⟩ | ⟨i,rfl,hi⟩
  ·obtain ⟨sz,hs⟩:=hg n (by omega)
   rw [s3 _ _ hs]
   exact g3.ext _ _ (by rw [c1 _ a]; exact hs)
  ·obtain ⟨p,hp⟩:=hdef n (List.mem_of_getElem? hi)
   rw [s3 _ _ hp]
   exact g3.ext _ _ (by rw [c2 i n hi]; exact hp)
 have hout:Keeps2 (ρ1 G ns ks base) σ' σ2:=fun k n hk p hp=>by
  rcases hk with hk | ⟨j,hj,rfl⟩
  ·rw [← hout0 k n hk]; exact hp
  ·rw [s1 j k hj]; exact hp
 -- what the callee may write,the caller may
 have hown:∀ b,Own σc (aget Hc) b→∃ i n o p,ns[i]? = some n∧(∃ x,(n,x) ∈ us)∧aget H n=some o∧o.ro=false∧σ n=some p∧p.blk=b:=fun b ⟨k,o,p,a1,a2,a3,a4⟩=>by
  obtain ⟨i,n,o',rfl,hi,ho',hro⟩:=hblk k o a1
  rw [c2 i n hi] at a3
  exact ⟨i,n,o',p,hi,hall i n o hi a1 a2,ho',by rw [← hro.ro]; exact a2,a3,a4⟩
 have hnot:∀ m o p,aget H m=some o→σ m=some p→(∀ x,(m,x) ∉ us) → ¬ Own σc (aget Hc) p.blk:=fun m o p hm' hp hno ho=>by
  obtain ⟨i,n,o',p',a1,⟨x,a2⟩,a3,a4,a5,a6⟩:=hown _ ho
  rcases hH.inj m n o o' p p' hm' a3 hp a5 a6.symm with e | ⟨_,e⟩
  ·subst e; exact hno x a2
  ·rw [a4] at e; cases e
 -- the blocks behind the call
 have key:∀ m x,(m,some x) ∈ us→∃ k o p,aget H' k=some o∧o.ro=false∧x.ro=false∧σ' k=some p∧σ2 m=some p∧RO (ρ1 G ns ks base) o x∧ρ1 G ns ks base k m:=fun m x hx=>by
  rcases hus m _ hx with ⟨i,hi,h1⟩ | ⟨j,k,o,o',rfl,hj,e,a1,a2,a3⟩
  ·rcases h1 with h1 | ⟨o,o',e,a1,a2,a3⟩
   ·cases h1
   ·cases e
    obtain ⟨p,hp,_⟩:=g2.obj _ o a1
    have h0:ρ0 G ns (G+i) m:=.inr ⟨i,rfl,hi⟩
    exact ⟨_,o,p,a1,a2,by rw [← a3.ro]; exact a2,hp,by rw [← hout0 _ _ h0]; exact hp,a3,.inl h0⟩
  ·cases e
   obtain ⟨p,hp,_⟩:=g2.obj _ o a1
   exact ⟨k,o,p,a1,a2,by rw [← a3.ro]; exact a2,hp,by rw [s1 j k hj]; exact hp,a3,.inr ⟨j,hj,rfl⟩⟩
 have parts:∀ m o,aget (appU H us) m=some o→((m,some o) ∈ us) ∨ ((∀ x,(m,x) ∉ us)∧aget H m=some o):=fun m o hm'=>by
  rcases appU_at (H:=H) (m:=m) hnd with ⟨x,a,b⟩ | ⟨a,b⟩
  ·rw [b] at hm'; subst hm'; exact .inl a
  ·rw [b] at hm'; exact .inr ⟨a,hm'⟩
 have names:∀ m x,(m,some x) ∈ us→∃ k o p,aget H' k=some o∧o.ro=false∧σ' k=some p∧σ2 m=some p∧((∃ i,k=G+i∧ns[i]? = some m) ∨ ∃ j,ks[j]? = some k∧m=base+j):=fun m x hx=>by
  rcases hus m _ hx with ⟨i,hi,h1⟩ | ⟨j,k,o,o',rfl,hj,e,a1,a2,a3⟩
  ·rcases h1 with h1 | ⟨o,o',e,a1,a2,a3⟩
   ·cases h1
   ·cases e
    obtain ⟨p,hp,_⟩:=g2.obj _ o a1
    have h0:ρ0 G ns (G+i) m:=.inr ⟨i,rfl,hi⟩
    exact ⟨_,o,p,a1,a2,hp,by rw [← hout0 _ _ h0]; exact hp,.inl ⟨i,rfl,hi⟩⟩
  ·obtain ⟨p,hp,_⟩:=g2.obj _ o a1
   exact ⟨k,o,p,a1,a2,hp,by rw [s1 j k hj]; exact hp,.inr ⟨j,hj,rfl⟩⟩
 have final:HRel σ2 (aget (appU H us)) w':=by
  refine ⟨fun m o hm' => ?_,fun m m' o o' q q' h1 h2 hq hq' he => ?_⟩
  ·rcases parts m o hm' with hx | ⟨hno,ho⟩
   ·obtain ⟨k,u,p,a1,a2,a3,a4,a5,a6,a7⟩:=key m o hx
    obtain ⟨p',hp',hor⟩:=g2.obj k u a1
    rw [a4] at hp'
    cases hp'
    exact ⟨p,a5,a6.orel hout hor⟩
   ·obtain ⟨p,hp,hor⟩:=hH.obj m o ho
    have hsame:=(g3.old p.blk hor.lt (hnot m o p ho hp hno)).1
    exact ⟨p,s3 m p hp,hor.mono (fun n q hq=>s3 n q hq) hsame⟩
  ·rcases parts m o h1 with hx | ⟨hno,ho⟩ <;> rcases parts m' o' h2 with hx' | ⟨hno',ho'⟩
   ·obtain ⟨k,u,p,a1,a2,a4,a5,a7⟩:=names m o hx
    obtain ⟨k',u',p',b1,b2,b4,b5,b7⟩:=names m' o' hx'
    have eq1:=Option.some.inj (a5.symm.trans hq)
    subst eq1
    have eq2:=Option.some.inj (b5.symm.trans hq')
    subst eq2
    rcases g2.inj k k' u u' p p' a1 b1 a4 b4 he with e | ⟨e,_⟩
    ·subst e
     left
     rcases a7 with ⟨i,e1,i1⟩ | ⟨j,j1,rfl⟩ <;> rcases b7 with ⟨i',e1',i1'⟩ | ⟨j',j1',rfl⟩
     ·have:i=i':=by omega
      subst this
      rw [i1] at i1'
      cases i1'; rfl
     ·have h3:=hkfr k (List.mem_of_getElem? j1')
      have h4:=(List.getElem?_eq_some_iff.1 i1).1
      omega
     ·have h3:=hkfr k (List.mem_of_getElem? j1)
      have h4:=(List.getElem?_eq_some_iff.1 i1').1
      omega
     ·rw [inj_of_nodup hks j1 j1']
    ·rw [a2] at e; cases e
   ·obtain ⟨k,u,p,a1,a2,a4,a5,a7⟩:=names m o hx
    have eq1:=Option.some.inj (a5.symm.trans hq)
    subst eq1
    obtain ⟨p',hp',hor⟩:=hH.obj m' o' ho'
    have eq2:=Option.some.inj ((s3 m' p' hp').symm.trans hq')
    subst eq2
    exact absurd ⟨k,u,p,a1,a2,a4,he⟩ (g3.old p'.blk hor.lt (hnot m' o' p' ho' hp' hno')).2
   ·obtain ⟨k,u,p,a1,a2,a4,a5,a7⟩:=names m' o' hx'
    have eq1:=Option.some.inj (a5.symm.trans hq')
    subst eq1
    obtain ⟨p',hp',hor⟩:=hH.obj m o ho
    have eq2:=Option.some.inj ((s3 m p' hp').symm.trans hq)
    subst eq2
    exact absurd ⟨k,u,p,a1,a2,a4,he.symm⟩ (g3.old p'.blk hor.lt (hnot m o p' ho hp' hno)).2
   ·obtain ⟨p,hp,_⟩:=hH.obj m o ho
    obtain ⟨p',hp',_⟩:=hH.obj m' o' ho'
    have eq1:=Option.some.inj ((s3 m p hp).symm.trans hq)
    have eq2:=Option.some.inj ((s3 m' p' hp').symm.trans hq')
    subst eq1
    subst eq2
    exact hH.inj m m' o o' p p' ho ho' hp hp' he
 have hown2:∀ b,¬ Own σ (aget H) b → ¬ Own σc (aget Hc) b:=fun b hb ho=>by
  obtain ⟨i,n,o,p,a1,a2,a3,a4,a5,a6⟩:=hown b ho
  exact hb ⟨n,o,p,a3,a4,a5,a6⟩
 refine ⟨σ2,v',rfl,hv.vr hout g1,final,⟨fun n p hp=>s3 n p hp,g3.size,g3.os,g3.output,g3.tape,fun b hb hno => ?_⟩,fun n hn=>s2 n hn⟩
 obtain ⟨e1,e2⟩:=g3.old b hb (hown2 b hno)
 refine ⟨e1,fun ⟨m,o,p,a1,a2,a3,a4⟩ => ?_⟩
 rcases parts m o a1 with hx | ⟨hno',ho⟩
 ·obtain ⟨k,u,q,b1,b2,b4,b5,_⟩:=names m o hx
  have eq1:=Option.some.inj (b5.symm.trans a3)
  subst eq1
  exact e2 ⟨k,u,q,b1,b2,b4,a4⟩
 ·obtain ⟨q,hq,_⟩:=hH.obj m o ho
  have eq1:=Option.some.inj ((s3 m q hq).symm.trans a3)
  subst eq1
  exact hno ⟨m,o,q,ho,a2,hq,a4⟩
end Go.Eng
namespace Go.Eng
def ansM (ns:List Nat) (x:Option ((AVal × HL × Nat) × List Bool)):Option (AVal × List (Option AObj) × List Bool):=
 match x with
 | some ((v,H,_),ob)=>some (v,ns.map (aget H),ob)
 | none=>none
end Go.Eng
namespace Go.Eng
theorem callOk_same2 {P:Program}{f:FuncId}{args:List AVal}{e e':EffA}(h:CallOk P f args e) (hx:∀ base H v H',e'.app base H=some (v,H')→∃ H2,e.app base H=some (v,H2)∧aget H2=aget H'):CallOk P f args e':=by
 intro σ args' H w base v H' hl hg hH happ hfree
 obtain ⟨H2,h1,h2⟩:=hx base H v H' happ
 have r:=h σ args' H w base v H2 hl hg hH h1 hfree
 rw [h2] at r
 exact r
end Go.Eng
namespace Go.Eng
open Go
theorem plus1 {i:Nat}(h:i < 1000):eqS (.int .i64 (IntKind.wrap .i64 ((i:Int)+1))) (.int .i64 ((i+1:Nat):Int))=true:=eqS_i64 (by rw [wrapI _ (by omega) (by omega)]; omega)
theorem run_of {x:Option (AVal × HL × Nat)}{v:AVal}(h:x.map (·.1)=some v):∃ H' fr',x=some (v,H',fr'):=by
 cases x with
 | none=>cases h
 | some r =>
  obtain ⟨a,b,c⟩:=r
  simp only [Option.map_some,Option.some.injEq] at h
  subst h
  exact ⟨b,c,rfl⟩
theorem shr_nat (x:UInt64) (k:Nat) (hk:k < 64):(shr_u64 x k).toNat=x.toNat / 2 ^ k:=by
 unfold shr_u64
 rw [Nat.ble_eq_true_of_le (show k≤63 by omega),cond_true,UInt64.toNat_shiftRight,UInt64.toNat_ofNat',Nat.mod_eq_of_lt (show k < 2 ^ 64 by omega),Nat.mod_eq_of_lt hk,Nat.shiftRight_eq_div_pow]
end Go.Eng
namespace Go.Eng
open Go
end Go.Eng
namespace Go.Proofs.YthlemfnkmpikjaaDoor
open Go Go.Eng Go.Num
theorem gl:Tryd.prog.globals.size=4:=by kernel_rfl
def pow10L:List UInt64:=[1,10,100,1000,10000,100000,1000000,10000000,100000000,1000000000,10000000000,100000000000,1000000000000,10000000000000,100000000000000,1000000000000000,10000000000000000,100000000000000000,1000000000000000000,10000000000000000000]
def brL:List UInt8:=[0,1,56,2,57,49,28,3,61,58,42,50,38,29,17,4,62,47,59,36,45,43,51,22,53,39,33,30,24,18,12,5,63,55,48,27,60,41,37,16,46,35,44,21,52,32,23,11,54,26,40,15,34,20,31,10,25,14,19,9,13,8,7,6]
def T0:List AVal:=[.u64 1,.u64 10,.u64 100,.u64 1000,.u64 10000,.u64 100000,.u64 1000000,.u64 10000000,.u64 100000000,.u64 1000000000,.u64 10000000000,.u64 100000000000,.u64 1000000000000,.u64 10000000000000,.u64 100000000000000,.u64 1000000000000000,.u64 10000000000000000,.u64 100000000000000000,.u64 1000000000000000000,.u64 10000000000000000000]
def T3:List AVal:=[.u8 0,.u8 1,.u8 56,.u8 2,.u8 57,.u8 49,.u8 28,.u8 3,.u8 61,.u8 58,.u8 42,.u8 50,.u8 38,.u8 29,.u8 17,.u8 4,.u8 62,.u8 47,.u8 59,.u8 36,.u8 45,.u8 43,.u8 51,.u8 22,.u8 53,.u8 39,.u8 33,.u8 30,.u8 24,.u8 18,.u8 12,.u8 5,.u8 63,.u8 55,.u8 48,.u8 27,.u8 60,.u8 41,.u8 37,.u8 16,.u8 46,.u8 35,.u8 44,.u8 21,.u8 52,.u8 32,.u8 23,.u8 11,.u8 54,.u8 26,.u8 40,.u8 15,.u8 34,.u8 20,.u8 31,.u8 10,.u8 25,.u8 14,.u8 19,.u8 9,.u8 13,.u8 8,.u8 7,.u8 6]
def H0:HL:=[(0,.cells true T0),(3,.cells true T3)]
def eqL:List AVal→List AVal→Bool
 | [],[]=>true
 | a::l,b::m=>eqS a b && eqL l m
 | _,_=>false
theorem eqL_eq:∀ {l m:List AVal},eqL l m=true→l=m
 | [],[],_=>rfl
 | [],_::_,h=>by cases h
 | _::_,[],h=>by cases h
 | a::l,b::m,h=>by
  simp only [eqL,Bool.and_eq_true] at h
  rw [eqS_eq h.1,eqL_eq h.2]
def tK (v:Option AVal) (η:Nat→Option AObj):Option AVal:=match η 0,η 1,η 2,η 3 with
 | some (.cells true a),none,none,some (.cells true b)=>cond (eqL a T0 && eqL b T3) v none
 | _,_,_,_=>none
def tL (v:Option AVal):EffA:=.look 4 (tK v)
theorem tK_cut (v:Option AVal) (η:Nat→Option AObj):tK v (cutH 4 η)=tK v η:=rfl
theorem callOk_tL {cs:CS}(hcs:CSOk Tryd.prog cs){f:FuncId}{args:List AVal}(hcan:canL Tryd.prog.globals.size [] args=some (args,[])){v:Option AVal}
  (h:∀ x,v=some x→ltV 0 x=true∧∃ F nn H' fr',run1 Tryd.prog cs nn F f args H0 4=some (x,H',fr')):CallOk Tryd.prog f args (tL v):=by
 have e1:Tryd.prog.globals.size=4:=gl
 refine callOk_same2 (callOk_tab (k:=tK v) hcs (by kernel_rfl) hcan fun η x hk => ?_) fun base H x H' ha => ?_
 ·unfold tK at hk
  split at hk
  ·rename_i a b h0 h1 h2 h3
   cases hb:(eqL a T0 && eqL b T3) <;> rw [hb] at hk <;> simp only [cond_true,cond_false] at hk
   ·cases hk
   ·rw [Bool.and_eq_true] at hb
    have ea:=eqL_eq hb.1
    have eb:=eqL_eq hb.2
    subst ea
    subst eb
    obtain ⟨hx,F,nn,H',fr',hr⟩:=h x hk
    refine ⟨hx,F,nn,H',fr',?_⟩
    rw [e1]
    have l0:ltL 0 T0=true:=by kernel_rfl
    have l3:ltL 0 T3=true:=by kernel_rfl
    have hg:globA η 4 0=H0:=by
     simp only [globA,h0,h1,h2,h3,l0,l3,cond_true,Nat.zero_add,Nat.reduceAdd]
     rfl
    rw [hg]
    exact hr
  ·cases hk
 ·unfold tL at ha
  simp only [EffA.app,tK_cut] at ha
  cases hk:tK v (aget H) with
  | none=>rw [hk] at ha; cases ha
  | some y =>
   rw [hk] at ha
   cases ha
   refine ⟨H,?_,rfl⟩
   unfold tabE
   simp only [EffA.app,hk]
   rfl
end Go.Proofs.YthlemfnkmpikjaaDoor
namespace Go.Proofs.YthlemfnkmpikjaaDoor
open Go Go.Eng Go.Num
def strsA:List AVal→Option (List (List UInt8))
 | []=>some []
 | .str s::l=>match strsA l with
  | some m=>some (s::m)
  | none=>none
 | _=>none
theorem strsA_at:∀ {l:List AVal}{m:List (List UInt8)},strsA l=some m→m.length=l.length∧∀ (i:Nat) (s:List UInt8),m[i]? = some s→l[i]? = some (AVal.str s)
 | [],m,h=>by
  cases h
  exact ⟨rfl,fun i s h=>by simp at h⟩
 | a::l,m,h=>by
  unfold strsA at h
  split at h
  ·rename_i h0
   cases h0
  ·rename_i s l' he
   cases he
   split at h
   ·rename_i m' hm
    cases h
    obtain ⟨h1,h2⟩:=strsA_at hm
    refine ⟨by simp [h1],fun i s' h => ?_⟩
    cases i with
    | zero=>simpa using h
    | succ i=>simpa using h2 i s' (by simpa using h)
   ·cases h
  ·cases h
def rdS (n off len:Nat) (g:List (List UInt8)→Option AVal):EffA:=.read n fun ob=>match ob with
 | .cells _ c=>match strsA ((c.drop off).take len) with
  | some ls=>cond (Nat.beq ls.length len) (g ls) none
  | none=>none
def bas (l:List UInt8):ByteArray:=⟨l.toArray⟩
theorem callOk_rdS {P:Program}{f:FuncId}{n off len:Nat}{s:List UInt8}{g:List (List UInt8)→Option AVal}
  (h:∀ (xs:List ByteArray) (b o cap:Nat) (w:World) (ls:List (List UInt8)) (v:AVal),xs=ls.map bas→xs.length=len→len≤cap→b < w.heap.size→(∀ (j:Nat) x,xs[j]? = some x→w.cell? ⟨b,o+j,none⟩=some (.string x))→g ls=some v →
   Calls P f #[.slice (some ⟨b,o,none⟩) len cap,.string (bas s)] w fun r w' => ∃ v',r=.returned v'∧(∀ σ',VR σ' v v')∧Go.RowKit.Below w.heap.size w w') :
  CallOk P f [.slice n off len 1,.str s] (rdS n off len g):=by
 intro σ args' H w base v0 H0 hl hg hH happ hfree
 unfold rdS at happ
 simp only [EffA.app] at happ
 cases hn:aget H n with
 | none=>rw [hn] at happ; cases happ
 | some ob =>
  rw [hn] at happ
  obtain ⟨ro,c⟩:=ob
  simp only at happ
  cases hs:strsA ((c.drop off).take len) with
  | none=>rw [hs] at happ; cases happ
  | some ls =>
   rw [hs] at happ
   simp only at happ
   cases hb:Nat.beq ls.length len with
   | false=>rw [hb] at happ; cases happ
   | true =>
    rw [hb] at happ
    simp only [cond_true] at happ
    have hll:=Nat.eq_of_beq_eq_true hb
    cases hv:g ls with
    | none=>rw [hv] at happ; cases happ
    | some v =>
     rw [hv] at happ
     simp only [Option.some.injEq,Prod.mk.injEq] at happ
     obtain ⟨rfl,rfl⟩:=happ
     obtain ⟨a,b,rfl,ha,hb'⟩:∃ a b,args' = #[a,b]∧VR σ (.slice n off len 1) a∧VR σ (.str s) b:=by
      have h1:=hl.1
      obtain ⟨l⟩:=args'
      match l,h1 with
      | [a,b],_=>exact ⟨a,b,rfl,hl.2 0 _ _ rfl rfl,hl.2 1 _ _ rfl rfl⟩
     cases hb'
     cases ha with
     | slice hp ho hc hsz =>
      rename_i p o cap
      obtain ⟨p',hp',ho'⟩:=hH.obj n _ hn
      rw [hp] at hp'
      cases hp'
      obtain ⟨c',t,fz,hh,hsz',hcell,_,_⟩:=ho'
      have hat:=(strsA_at hs).2
      have hbk:p.blk < w.heap.size:=by
       rcases Nat.lt_or_ge p.blk w.heap.size with h | h
       ·exact h
       ·rw [Array.getElem?_eq_none h] at hh
        cases hh
      refine (h (ls.map bas) p.blk o cap w ls v rfl (by rw [List.length_map]; exact hll) hc hbk (fun j x hx => ?_) hv).mono fun r w' ⟨v',h1,h2,h3⟩ => ?_
      ·rw [List.getElem?_map] at hx
       cases hj:ls[j]? with
       | none=>rw [hj] at hx; cases hx
       | some y =>
        rw [hj] at hx
        simp only [Option.map_some,Option.some.injEq] at hx
        subst hx
        have hjl:j < len:=by
         have:=(List.getElem?_eq_some_iff.1 hj).1
         omega
        have ho2:o=p.sh+off:=ho.resolve_left (by omega)
        have hc1:=hat j y hj
        rw [List.getElem?_take_of_lt hjl,List.getElem?_drop] at hc1
        obtain ⟨v',hv1,hv2⟩:=hcell (off+j) _ hc1
        cases hv2
        rw [cell_at hh,ho2,Nat.add_assoc]
        exact hv1
      ·refine ⟨σ,v',h1,h2 σ,⟨fun n o hn => ?_,hH.inj⟩,⟨Sig.le_refl σ,h3.size,h3.os,h3.output,h3.tape,fun b hb hn=>⟨h3.block b hb,hn⟩⟩,Only.refl σ base⟩
       obtain ⟨p,hp,ho⟩:=hH.obj n o hn
       exact ⟨p,hp,ho.mono (Sig.le_refl σ) (h3.block _ ho.lt)⟩
theorem bas_map (ls:List (List UInt8)):(ls.map bas).map (·.data.toList)=ls:=by
 rw [List.map_map]
 conv=>rhs; rw [← List.map_id ls]
 rfl
def joinV (sep:List UInt8) (ls:List (List UInt8)):Option AVal:=cond (Nat.ble (Lib.join ls sep).length 1000000 && Nat.ble ls.length 1000000) (some (.str (Lib.join ls sep))) none
def k58:List AVal→Option EffA
 | [.slice n off len 1,.str s]=>some (rdS n off len (joinV s))
 | _=>none
theorem k58_ok:CSOk Tryd.prog (csOne 58 k58):=csOne_ok fun args e he=>by
 unfold k58 at he
 split at he
 ·rename_i n off len s
  cases he
  refine callOk_rdS fun xs b o cap w ls v hx hl hc hbk hcells hv => ?_
  unfold joinV at hv
  cases hb:(Nat.ble (Lib.join ls s).length 1000000 && Nat.ble ls.length 1000000) with
  | false=>rw [hb] at hv; cases hv
  | true =>
   rw [hb] at hv
   cases hv
   simp only [Bool.and_eq_true] at hb
   have h1:=Nat.le_of_ble_eq_true hb.1
   have h2:=Nat.le_of_ble_eq_true hb.2
   have e1:xs.map (·.data.toList)=ls:=by rw [hx,bas_map]
   have e2:(bas s).data.toList=s:=by simp [bas]
   have hll:xs.length=ls.length:=by rw [hx,List.length_map]
   rw [← hl]
   refine (Tryd.strings_Join b o cap xs (bas s) w hcells hbk (by omega) (by omega) (by rw [e1,e2]; omega)).mono fun e w' ⟨h1,h2⟩=>⟨_,h1,fun σ' => ?_,h2⟩
   rw [e1,e2]
   exact .str _
 ·cases he
def idxV (s:List UInt8) (ls:List (List UInt8)):Option AVal:=cond (Nat.ble ls.length 1000000) (some (.int .i64 (Lib.idxOfS (ls.map bas) (bas s)))) none
def k22:List AVal→Option EffA
 | [.slice n off len 1,.str s]=>some (rdS n off len (idxV s))
 | _=>none
theorem k22_ok:CSOk Tryd.prog (csOne 22 k22):=csOne_ok fun args e he=>by
 unfold k22 at he
 split at he
 ·rename_i n off len s
  cases he
  refine callOk_rdS fun xs b o cap w ls v hx hl hc hbk hcells hv => ?_
  unfold idxV at hv
  cases hb:(Nat.ble ls.length 1000000) with
  | false=>rw [hb] at hv; cases hv
  | true =>
   rw [hb] at hv
   cases hv
   have h1:=Nat.le_of_ble_eq_true hb
   have hll:xs.length=ls.length:=by rw [hx,List.length_map]
   refine (Tryd.slices_Index_string b o len cap xs (bas s) w (by omega) (by omega) (fun j hj => ?_)).mono fun e w' ⟨h1,h2⟩=>⟨_,h1,fun σ' => ?_,h2 ▸ Go.RowKit.Below.refl _ _⟩
   ·rw [List.getD_eq_getElem?_getD,List.getElem?_eq_getElem hj]
    exact hcells j _ (List.getElem?_eq_getElem hj)
   ·rw [← hl,List.take_length,hx]
    exact .int _ _
 ·cases he
end Go.Proofs.YthlemfnkmpikjaaDoor
namespace Go.Proofs.YthlemfnkmpikjaaDoor
open Go Go.Eng Go.Num
noncomputable def nI:CS:=inlW Tryd.prog mask 200 noCS 4
theorem nI_ok:CSOk Tryd.prog nI:=inlW_ok hmix (noCS_ok _) 4
def digs:List UInt8:=[48,49,50,51,52,53,54,55,56,57,97,98,99,100,101,102,103,104,105,106,107,108,109,110,111,112,113,114,115,116,117,118,119,120,121,122]
def dg (y:UInt64):UInt8:=digs.getD (Int.toNat ((y.toNat:Nat):Int)) 0
def ix (y:UInt64):Bool:=decide ((0:Int)≤(y.toNat:Int)) && decide ((y.toNat:Int) < (36:Nat))
theorem ix_lt {y:UInt64}(h:y.toNat < 36):ix y=true:=by
 unfold ix
 rw [decide_eq_true (by omega),decide_eq_true (by omega)]
 rfl
def h1 (x:UInt64):UInt64:=shr_u64 x 4
def h2 (x:UInt64):UInt64:=shr_u64 (shr_u64 x 4) 4
def h3 (x:UInt64):UInt64:=shr_u64 (shr_u64 (shr_u64 x 4) 4) 4
def hexL (x:UInt64):List UInt8:=cond (decide ((16:UInt64)≤x)) (cond (decide ((16:UInt64)≤h1 x)) (cond (decide ((16:UInt64)≤h2 x)) [dg (h3 x),dg (h2 x &&& 15),dg (h1 x &&& 15),dg (x &&& 15)] [dg (h2 x),dg (h1 x &&& 15),dg (x &&& 15)]) [dg (h1 x),dg (x &&& 15)]) [dg x]
section
variable (x:UInt64)
theorem r86a:ansO (run1O Tryd.prog noPS nI [46,53,62] [false] [] (mask 86) 200 86 [.nilSlice,.u64 x,.int .i64 16,.bool false,.bool false] H0 4)=some (.tup [.nilSlice,.str [dg x]],[ix x,!(decide ((16:UInt64)≤x))]):=by kernel_rfl
theorem r86b:ansO (run1O Tryd.prog noPS nI [46,53,62] [true,false] [] (mask 86) 200 86 [.nilSlice,.u64 x,.int .i64 16,.bool false,.bool false] H0 4)=some (.tup [.nilSlice,.str [dg (h1 x),dg (x &&& 15)]],[ix (h1 x),!(decide ((16:UInt64)≤h1 x)),ix (x &&& 15),decide ((16:UInt64)≤x)]):=by kernel_rfl
theorem r86c:ansO (run1O Tryd.prog noPS nI [46,53,62] [true,true,false] [] (mask 86) 200 86 [.nilSlice,.u64 x,.int .i64 16,.bool false,.bool false] H0 4)=some (.tup [.nilSlice,.str [dg (h2 x),dg (h1 x &&& 15),dg (x &&& 15)]],[ix (h2 x),!(decide ((16:UInt64)≤h2 x)),ix (h1 x &&& 15),decide ((16:UInt64)≤h1 x),ix (x &&& 15),decide ((16:UInt64)≤x)]):=by kernel_rfl
theorem r86d:ansO (run1O Tryd.prog noPS nI [46,53,62] [true,true,true,false] [] (mask 86) 200 86 [.nilSlice,.u64 x,.int .i64 16,.bool false,.bool false] H0 4)=some (.tup [.nilSlice,.str [dg (h3 x),dg (h2 x &&& 15),dg (h1 x &&& 15),dg (x &&& 15)]],[ix (h3 x),!(decide ((16:UInt64)≤h3 x)),ix (h2 x &&& 15),decide ((16:UInt64)≤h2 x),ix (h1 x &&& 15),decide ((16:UInt64)≤h1 x),ix (x &&& 15),decide ((16:UInt64)≤x)]):=by kernel_rfl
end
theorem and15 (y:UInt64):(y &&& 15).toNat < 36:=by
 rw [UInt64.toNat_and]
 exact Nat.lt_of_le_of_lt Nat.and_le_right (by decide)
theorem le16 {y:UInt64}(h:decide ((16:UInt64)≤y)=false):y.toNat < 16:=by
 have:=of_decide_eq_false h
 rw [UInt64.le_iff_toNat_le] at this
 have e:(16:UInt64).toNat=16:=rfl
 omega
theorem shr4 (y:UInt64):(shr_u64 y 4).toNat=y.toNat / 16:=shr_nat y 4 (by omega)
theorem hex_run (x:UInt64) (hx:x.toNat < 65536):(run1 Tryd.prog nI (mask 86) 200 86 [.nilSlice,.u64 x,.int .i64 16,.bool false,.bool false] H0 4).map (·.1)=some (.tup [.nilSlice,.str (hexL x)]):=by
 unfold hexL
 have i0:=ix_lt (and15 x)
 have i1:=ix_lt (and15 (h1 x))
 have i2:=ix_lt (and15 (h2 x))
 cases a:decide ((16:UInt64)≤x) with
 | false=>exact ansO_run (noPS_ok _) (r86a x) (by rw [a,ix_lt (by have:=le16 a; omega)]; rfl)
 | true =>
  rw [cond_true]
  cases b:decide ((16:UInt64)≤h1 x) with
  | false=>exact ansO_run (noPS_ok _) (r86b x) (by rw [a,b,i0,ix_lt (by have:=le16 b; omega)]; rfl)
  | true =>
   rw [cond_true]
   cases c:decide ((16:UInt64)≤h2 x) with
   | false=>exact ansO_run (noPS_ok _) (r86c x) (by rw [a,b,c,i0,i1,ix_lt (by have:=le16 c; omega)]; rfl)
   | true =>
    rw [cond_true]
    have e3:(h3 x).toNat < 16:=by
     unfold h3
     rw [shr4,shr4,shr4]
     omega
    have d:decide ((16:UInt64)≤h3 x)=false:=decide_eq_false (by
     rw [UInt64.le_iff_toNat_le]
     have e:(16:UInt64).toNat=16:=rfl
     omega)
    exact ansO_run (noPS_ok _) (r86d x) (by rw [a,b,c,d,i0,i1,i2,ix_lt (by omega)]; rfl)
theorem hexL_len (x:UInt64):1≤(hexL x).length∧(hexL x).length≤4:=by
 unfold hexL
 cases decide ((16:UInt64)≤x) <;> cases decide ((16:UInt64)≤h1 x) <;> cases decide ((16:UInt64)≤h2 x) <;> simp
structure Fm where
 hx:UInt64→List UInt8
 it:Int→List UInt8
def p86 (φ:Fm):List AVal→Option (EffA × Bool)
 | [.nilSlice,.u64 x,.int .i64 16,.bool false,.bool false]=>some (tL (some (.tup [.nilSlice,.str (φ.hx x)])),decide (x.toNat < 65536))
 | _=>none
def p77 (φ:Fm):List AVal→Option (EffA × Bool)
 | [.u64 x,.int .i64 16]=>some (tL (some (.str (φ.hx x))),decide (x.toNat < 65536))
 | _=>none
noncomputable def it57 (n:Int):List UInt8:=match run1 Tryd.prog nI (mask 57) 200 57 [.int .i64 n] H0 4 with
 | some (.str l,_,_)=>l
 | _=>[]
noncomputable def chk57 (n:Int):Bool:=match run1 Tryd.prog nI (mask 57) 200 57 [.int .i64 n] H0 4 with
 | some (.str l,_,_)=>Nat.ble 1 l.length && Nat.ble l.length 3
 | _=>false
theorem ch0:(List.range 16).all (fun j=>chk57 ((0+j:Nat):Int))=true:=by kernel_rfl
theorem ch1:(List.range 16).all (fun j=>chk57 ((16+j:Nat):Int))=true:=by kernel_rfl
theorem ch2:(List.range 16).all (fun j=>chk57 ((32+j:Nat):Int))=true:=by kernel_rfl
theorem ch3:(List.range 16).all (fun j=>chk57 ((48+j:Nat):Int))=true:=by kernel_rfl
theorem ch4:(List.range 16).all (fun j=>chk57 ((64+j:Nat):Int))=true:=by kernel_rfl
theorem ch5:(List.range 16).all (fun j=>chk57 ((80+j:Nat):Int))=true:=by kernel_rfl
theorem ch6:(List.range 16).all (fun j=>chk57 ((96+j:Nat):Int))=true:=by kernel_rfl
theorem ch7:(List.range 16).all (fun j=>chk57 ((112+j:Nat):Int))=true:=by kernel_rfl
theorem ch8:(List.range 16).all (fun j=>chk57 ((128+j:Nat):Int))=true:=by kernel_rfl
theorem ch9:(List.range 16).all (fun j=>chk57 ((144+j:Nat):Int))=true:=by kernel_rfl
theorem ch10:(List.range 16).all (fun j=>chk57 ((160+j:Nat):Int))=true:=by kernel_rfl
theorem ch11:(List.range 16).all (fun j=>chk57 ((176+j:Nat):Int))=true:=by kernel_rfl
theorem ch12:(List.range 16).all (fun j=>chk57 ((192+j:Nat):Int))=true:=by kernel_rfl
theorem ch13:(List.range 16).all (fun j=>chk57 ((208+j:Nat):Int))=true:=by kernel_rfl
theorem ch14:(List.range 16).all (fun j=>chk57 ((224+j:Nat):Int))=true:=by kernel_rfl
theorem ch15:(List.range 16).all (fun j=>chk57 ((240+j:Nat):Int))=true:=by kernel_rfl
theorem chk_at {k:Nat}(h:(List.range 16).all (fun j=>chk57 ((k+j:Nat):Int))=true){n:Nat}(h1:k≤n) (h2:n < k+16):chk57 (n:Int)=true:=by
 have:=List.all_eq_true.1 h (n - k) (List.mem_range.2 (by omega))
 rw [show k+(n - k)=n by omega] at this
 exact this
theorem all57 (n:Nat) (h:n < 256):chk57 (n:Int)=true:=by
 by_cases c0:n < 16
 ·exact chk_at ch0 (by omega) (by omega)
 by_cases c1:n < 32
 ·exact chk_at ch1 (by omega) (by omega)
 by_cases c2:n < 48
 ·exact chk_at ch2 (by omega) (by omega)
 by_cases c3:n < 64
 ·exact chk_at ch3 (by omega) (by omega)
 by_cases c4:n < 80
 ·exact chk_at ch4 (by omega) (by omega)
 by_cases c5:n < 96
 ·exact chk_at ch5 (by omega) (by omega)
 by_cases c6:n < 112
 ·exact chk_at ch6 (by omega) (by omega)
 by_cases c7:n < 128
 ·exact chk_at ch7 (by omega) (by omega)
 by_cases c8:n < 144
 ·exact chk_at ch8 (by omega) (by omega)
 by_cases c9:n < 160
 ·exact chk_at ch9 (by omega) (by omega)
 by_cases c10:n < 176
 ·exact chk_at ch10 (by omega) (by omega)
 by_cases c11:n < 192
 ·exact chk_at ch11 (by omega) (by omega)
 by_cases c12:n < 208
 ·exact chk_at ch12 (by omega) (by omega)
 by_cases c13:n < 224
 ·exact chk_at ch13 (by omega) (by omega)
 by_cases c14:n < 240
 ·exact chk_at ch14 (by omega) (by omega)
 exact chk_at ch15 (by omega) (by omega)
end Go.Proofs.YthlemfnkmpikjaaDoor
namespace Go.Proofs.YthlemfnkmpikjaaDoor
open Go Go.Eng Go.Num
noncomputable def fmr:Fm:=⟨hexL,it57⟩
theorem p86_ok:CSOk Tryd.prog (csP (psOne 86 (p86 fmr))):=psOne_ok fun args e he=>by
 unfold p86 at he
 split at he
 ·rename_i x
  simp only [Option.some.injEq,Prod.mk.injEq] at he
  obtain ⟨rfl,hl⟩:=he
  refine callOk_tL nI_ok (by kernel_rfl) fun y hy => ?_
  cases hy
  exact ⟨rfl,_,_,run_of (hex_run x (of_decide_eq_true hl))⟩
 ·cases he
theorem r77 (φ:Fm) (x:UInt64):ansO (run1O Tryd.prog (psOne 86 (p86 φ)) (csP (psOne 86 (p86 φ))) [28] [] [] (mask 77) 200 77 [.u64 x,.int .i64 16] H0 4)=some (.str (φ.hx x),[decide (x.toNat < 65536)]):=by kernel_rfl
theorem p77_ok:CSOk Tryd.prog (csP (psOne 77 (p77 fmr))):=psOne_ok fun args e he=>by
 unfold p77 at he
 split at he
 ·rename_i x
  simp only [Option.some.injEq,Prod.mk.injEq] at he
  obtain ⟨rfl,hl⟩:=he
  refine callOk_tL p86_ok (by kernel_rfl) fun y hy => ?_
  cases hy
  exact ⟨rfl,_,_,run_of (ansO_run (fun f args e h=>by unfold csP; rw [h]; rfl) (r77 fmr x) (by rw [hl]; rfl))⟩
 ·cases he
theorem r61 (φ:Fm) (x:UInt64):ansO (run1O Tryd.prog (psOne 77 (p77 φ)) (csP (psOne 77 (p77 φ))) [7] [] [] (mask 61) 200 61 [.u64 x,.int .i64 16] H0 4)=some (.str (φ.hx x),[decide (x.toNat < 65536)]):=by kernel_rfl
theorem p61_ok:CSOk Tryd.prog (csP (psOne 61 (p77 fmr))):=psOne_ok fun args e he=>by
 unfold p77 at he
 split at he
 ·rename_i x
  simp only [Option.some.injEq,Prod.mk.injEq] at he
  obtain ⟨rfl,hl⟩:=he
  refine callOk_tL p77_ok (by kernel_rfl) fun y hy => ?_
  cases hy
  exact ⟨rfl,_,_,run_of (ansO_run (fun f args e h=>by unfold csP; rw [h]; rfl) (r61 fmr x) (by rw [hl]; rfl))⟩
 ·cases he
def p57 (φ:Fm):List AVal→Option (EffA × Bool)
 | [.int .i64 n]=>some (tL (some (.str (φ.it n))),decide (0≤n) && decide (n < 256))
 | _=>none
theorem it_run {n:Int}(h0:0≤n) (h1:n < 256):(∃ H' fr',run1 Tryd.prog nI (mask 57) 200 57 [.int .i64 n] H0 4=some (.str (it57 n),H',fr'))∧1≤(it57 n).length∧(it57 n).length≤3:=by
 have:=all57 n.toNat (by omega)
 rw [Int.toNat_of_nonneg h0] at this
 unfold chk57 at this
 unfold it57
 split at this
 ·rename_i l H' fr' hr
  rw [hr]
  rw [Bool.and_eq_true] at this
  exact ⟨⟨_,_,rfl⟩,Nat.le_of_ble_eq_true this.1,Nat.le_of_ble_eq_true this.2⟩
 ·cases this
theorem p57_ok:CSOk Tryd.prog (csP (psOne 57 (p57 fmr))):=psOne_ok fun args e he=>by
 unfold p57 at he
 split at he
 ·rename_i n
  simp only [Option.some.injEq,Prod.mk.injEq,Bool.and_eq_true,decide_eq_true_eq] at he
  obtain ⟨rfl,hl⟩:=he
  refine callOk_tL nI_ok (by kernel_rfl) fun y hy => ?_
  cases hy
  exact ⟨rfl,_,_,(it_run hl.1 hl.2).1⟩
 ·cases he
end Go.Proofs.YthlemfnkmpikjaaDoor
namespace Go.Proofs.YthlemfnkmpikjaaDoor
open Go Go.Eng Go.Num
def pcF (w:UInt64) (k:Nat):Int:=IntKind.wrap .u16 ((shr_u64 w k).toNat:Int)
theorem run59 (v:Bool) (hi lo:UInt64):(run1 Tryd.prog nI (mask 59) 200 59 [.agg [.bool v,.u64 hi,.u64 lo]] [] Tryd.prog.globals.size).map (·.1)=some (.agg [.int .u16 (pcF hi 48),.int .u16 (pcF hi 32),.int .u16 (pcF hi 16),.int .u16 (pcF hi 0),.int .u16 (pcF lo 48),.int .u16 (pcF lo 32),.int .u16 (pcF lo 16),.int .u16 (pcF lo 0)]):=by kernel_rfl
def k59 (pc:UInt64→Nat→Int):List AVal→Option EffA
 | [.agg [.bool v,.u64 hi,.u64 lo]]=>some (.pure (.agg [.int .u16 (pc hi 48),.int .u16 (pc hi 32),.int .u16 (pc hi 16),.int .u16 (pc hi 0),.int .u16 (pc lo 48),.int .u16 (pc lo 32),.int .u16 (pc lo 16),.int .u16 (pc lo 0)]))
 | _=>none
theorem k59_ok:CSOk Tryd.prog (csOne 59 (k59 pcF)):=csOne_ok fun args e he=>by
 unfold k59 at he
 split at he
 ·rename_i v hi lo
  cases he
  exact callOk_val nI_ok hmix (run59 v hi lo) rfl rfl
 ·cases he
def mayA (v:Bool) (hi lo:UInt64):Bool:=cond v true (cond (hi == 0) (shr_u64 lo 32 == 0) false)
theorem r56a (v:Bool) (hi lo:UInt64):ansO (run1O Tryd.prog noPS nI [5,9,15] [true] [] (mask 56) 200 56 [.agg [.bool v,.u64 hi,.u64 lo]] [] 4)=some (.bool true,[v]):=by kernel_rfl
theorem r56b (v:Bool) (hi lo:UInt64):ansO (run1O Tryd.prog noPS nI [5,9,15] [false,true] [] (mask 56) 200 56 [.agg [.bool v,.u64 hi,.u64 lo]] [] 4)=some (.bool (shr_u64 lo 32 == 0),[hi == 0,!v]):=by kernel_rfl
theorem r56c (v:Bool) (hi lo:UInt64):ansO (run1O Tryd.prog noPS nI [5,9,15] [false,false] [] (mask 56) 200 56 [.agg [.bool v,.u64 hi,.u64 lo]] [] 4)=some (.bool false,[!(hi == 0),!v]):=by kernel_rfl
theorem run56 (v:Bool) (hi lo:UInt64):(run1 Tryd.prog nI (mask 56) 200 56 [.agg [.bool v,.u64 hi,.u64 lo]] [] 4).map (·.1)=some (.bool (mayA v hi lo)):=by
 unfold mayA
 cases v with
 | true=>exact ansO_run (noPS_ok _) (r56a true hi lo) rfl
 | false =>
  cases h:(hi == 0) with
  | true=>exact ansO_run (noPS_ok _) (r56b false hi lo) (by rw [h]; rfl)
  | false=>exact ansO_run (noPS_ok _) (r56c false hi lo) (by rw [h]; rfl)
def k56 (ma:Bool→UInt64→UInt64→Bool):List AVal→Option EffA
 | [.agg [.bool v,.u64 hi,.u64 lo]]=>some (.pure (.bool (ma v hi lo)))
 | _=>none
theorem k56_ok:CSOk Tryd.prog (csOne 56 (k56 mayA)):=csOne_ok fun args e he=>by
 unfold k56 at he
 split at he
 ·rename_i v hi lo
  cases he
  have:=run56 v hi lo
  rw [← gl] at this
  exact callOk_val nI_ok hmix this rfl rfl
 ·cases he
def k58n:List AVal→Option EffA
 | [.nilSlice,.str s]=>some (.pure (.str []))
 | args=>k58 args
theorem k58n_ok:CSOk Tryd.prog (csOne 58 k58n):=csOne_ok fun args e he=>by
 unfold k58n at he
 split at he
 ·rename_i s
  cases he
  intro σ args' H w base v0 H0 hl hg hH happ hfree
  simp only [EffA.app,Option.some.injEq,Prod.mk.injEq] at happ
  obtain ⟨rfl,rfl⟩:=happ
  obtain ⟨a,b,rfl,ha,hb'⟩:∃ a b,args' = #[a,b]∧VR σ .nilSlice a∧VR σ (.str s) b:=by
   have h1:=hl.1
   obtain ⟨l⟩:=args'
   match l,h1 with
   | [a,b],_=>exact ⟨a,b,rfl,hl.2 0 _ _ rfl rfl,hl.2 1 _ _ rfl rfl⟩
  cases hb'
  cases ha
  refine (Any.strings_Join_none Tryd.lays156 Tryd.Builder_Extra_156 none 0 (bas s) w).mono fun r r' ⟨h1,h2⟩ => ?_
  subst h2
  have h3:=Go.RowKit.Below.refl r'.heap.size r'
  exact ⟨σ,_,h1,.str [],⟨hH.obj,hH.inj⟩,⟨Sig.le_refl σ,h3.size,h3.os,h3.output,h3.tape,fun b hb hn=>⟨h3.block b hb,hn⟩⟩,Only.refl σ base⟩
 ·exact k58_ok 58 args e (by unfold csOne; exact he)
structure Fa where
 m:Fm
 pc:UInt64→Nat→Int
 ma:Bool→UInt64→UInt64→Bool
noncomputable def far:Fa:=⟨fmr,pcF,mayA⟩
def psA (φ:Fa):PS:=psAlt (psOne 61 (p77 φ.m)) (psOne 57 (p57 φ.m))
def csA (φ:Fa):CS:=csAlt (csOne 59 (k59 φ.pc)) (csAlt (csOne 56 (k56 φ.ma)) (csOne 58 k58n))
def nA (φ:Fa):CS:=csAlt (csP (psA φ)) (csA φ)
theorem nA_ps (φ:Fa):PSOk (psA φ) (nA φ):=csP_ok
theorem psA_ok:CSOk Tryd.prog (csP (psA far)):=csP_alt p61_ok p57_ok
theorem nA_ok:CSOk Tryd.prog (nA far):=csAlt_ok psA_ok (csAlt_ok k59_ok (csAlt_ok k56_ok k58n_ok))
end Go.Proofs.YthlemfnkmpikjaaDoor
namespace Go.Proofs.YthlemfnkmpikjaaDoor
open Go Go.Eng Go.Num
def c8 (p:Nat→Int):List AVal:=[.int .u16 (p 0),.int .u16 (p 1),.int .u16 (p 2),.int .u16 (p 3),.int .u16 (p 4),.int .u16 (p 5),.int .u16 (p 6),.int .u16 (p 7)]
def inr (y:Int):Bool:=decide ((UInt64.ofInt y).toNat < 65536)
def H4 (p:Nat→Int):HL:=H0++[(4,.cells false (c8 p))]
noncomputable def jO (len:Nat) (J:List UInt8) (H:HL):Bool:=decP ((rdS 44 0 len (joinV [58])).app 53 H=some (.str J,H))
theorem ansM1 {P:Program}{ps:PS}{cs:CS}(hps:PSOk ps cs){sy:List Nat}{os:List Bool}{vs:List AVal}{nn F:Nat}{f:FuncId}{args:List AVal}{H:HL}{fr k:Nat}{v:AVal}{o:Option AObj}{ob:List Bool}
  (h:ansM [k] (run1O P ps cs sy os vs nn F f args H fr)=some (v,[o],ob)) (ha:allT ob=true):∃ H' fr',run1 P cs nn F f args H fr=some (v,H',fr')∧aget H' k=o:=by
 unfold ansM at h
 split at h
 ·rename_i v' H' fr' ob' hr
  simp only [Option.some.injEq,Prod.mk.injEq,List.map_cons,List.map_nil,List.cons.injEq,and_true] at h
  obtain ⟨rfl,h2,rfl⟩:=h
  exact ⟨H',fr',run1O_ok hps hr ha,h2⟩
 ·cases h
section
variable (φ:Fa) (p:Nat→Int) (J:List UInt8)
theorem j0_0:ansM [4] (run1O Tryd.prog (psA φ) (nA φ) [15] [] [] (mask 60) 200 60 [.slice 4 0 0 1] (H4 p) 5)=some (.str [],[some (.cells false (c8 p))],[]):=by kernel_rfl
theorem j0_1:ansM [4] (run1O Tryd.prog (psA φ) (nA φ) [15,300020] [] [.str J,.tup []] (mask 60) 200 60 [.slice 4 0 1 1] (H4 p) 5)=some (.str J,[some (.cells false (c8 p))],[jO 1 J (H4 p++[(44,.cells false [.str (φ.m.hx (UInt64.ofInt (p 0)))])]),inr (p 0)]):=by kernel_rfl
theorem j0_2:ansM [4] (run1O Tryd.prog (psA φ) (nA φ) [15,300020] [] [.str J,.tup []] (mask 60) 200 60 [.slice 4 0 2 1] (H4 p) 5)=some (.str J,[some (.cells false (c8 p))],[jO 2 J (H4 p++[(44,.cells false [.str (φ.m.hx (UInt64.ofInt (p 0))),.str (φ.m.hx (UInt64.ofInt (p 1)))])]),inr (p 1),inr (p 0)]):=by kernel_rfl
theorem j0_3:ansM [4] (run1O Tryd.prog (psA φ) (nA φ) [15,300020] [] [.str J,.tup []] (mask 60) 200 60 [.slice 4 0 3 1] (H4 p) 5)=some (.str J,[some (.cells false (c8 p))],[jO 3 J (H4 p++[(44,.cells false [.str (φ.m.hx (UInt64.ofInt (p 0))),.str (φ.m.hx (UInt64.ofInt (p 1))),.str (φ.m.hx (UInt64.ofInt (p 2)))])]),inr (p 2),inr (p 1),inr (p 0)]):=by kernel_rfl
theorem j0_4:ansM [4] (run1O Tryd.prog (psA φ) (nA φ) [15,300020] [] [.str J,.tup []] (mask 60) 200 60 [.slice 4 0 4 1] (H4 p) 5)=some (.str J,[some (.cells false (c8 p))],[jO 4 J (H4 p++[(44,.cells false [.str (φ.m.hx (UInt64.ofInt (p 0))),.str (φ.m.hx (UInt64.ofInt (p 1))),.str (φ.m.hx (UInt64.ofInt (p 2))),.str (φ.m.hx (UInt64.ofInt (p 3)))])]),inr (p 3),inr (p 2),inr (p 1),inr (p 0)]):=by kernel_rfl
theorem j0_5:ansM [4] (run1O Tryd.prog (psA φ) (nA φ) [15,300020] [] [.str J,.tup []] (mask 60) 200 60 [.slice 4 0 5 1] (H4 p) 5)=some (.str J,[some (.cells false (c8 p))],[jO 5 J (H4 p++[(44,.cells false [.str (φ.m.hx (UInt64.ofInt (p 0))),.str (φ.m.hx (UInt64.ofInt (p 1))),.str (φ.m.hx (UInt64.ofInt (p 2))),.str (φ.m.hx (UInt64.ofInt (p 3))),.str (φ.m.hx (UInt64.ofInt (p 4)))])]),inr (p 4),inr (p 3),inr (p 2),inr (p 1),inr (p 0)]):=by kernel_rfl
theorem j0_6:ansM [4] (run1O Tryd.prog (psA φ) (nA φ) [15,300020] [] [.str J,.tup []] (mask 60) 200 60 [.slice 4 0 6 1] (H4 p) 5)=some (.str J,[some (.cells false (c8 p))],[jO 6 J (H4 p++[(44,.cells false [.str (φ.m.hx (UInt64.ofInt (p 0))),.str (φ.m.hx (UInt64.ofInt (p 1))),.str (φ.m.hx (UInt64.ofInt (p 2))),.str (φ.m.hx (UInt64.ofInt (p 3))),.str (φ.m.hx (UInt64.ofInt (p 4))),.str (φ.m.hx (UInt64.ofInt (p 5)))])]),inr (p 5),inr (p 4),inr (p 3),inr (p 2),inr (p 1),inr (p 0)]):=by kernel_rfl
theorem j0_7:ansM [4] (run1O Tryd.prog (psA φ) (nA φ) [15,300020] [] [.str J,.tup []] (mask 60) 200 60 [.slice 4 0 7 1] (H4 p) 5)=some (.str J,[some (.cells false (c8 p))],[jO 7 J (H4 p++[(44,.cells false [.str (φ.m.hx (UInt64.ofInt (p 0))),.str (φ.m.hx (UInt64.ofInt (p 1))),.str (φ.m.hx (UInt64.ofInt (p 2))),.str (φ.m.hx (UInt64.ofInt (p 3))),.str (φ.m.hx (UInt64.ofInt (p 4))),.str (φ.m.hx (UInt64.ofInt (p 5))),.str (φ.m.hx (UInt64.ofInt (p 6)))])]),inr (p 6),inr (p 5),inr (p 4),inr (p 3),inr (p 2),inr (p 1),inr (p 0)]):=by kernel_rfl
theorem j0_8:ansM [4] (run1O Tryd.prog (psA φ) (nA φ) [15,300020] [] [.str J,.tup []] (mask 60) 200 60 [.slice 4 0 8 1] (H4 p) 5)=some (.str J,[some (.cells false (c8 p))],[jO 8 J (H4 p++[(44,.cells false [.str (φ.m.hx (UInt64.ofInt (p 0))),.str (φ.m.hx (UInt64.ofInt (p 1))),.str (φ.m.hx (UInt64.ofInt (p 2))),.str (φ.m.hx (UInt64.ofInt (p 3))),.str (φ.m.hx (UInt64.ofInt (p 4))),.str (φ.m.hx (UInt64.ofInt (p 5))),.str (φ.m.hx (UInt64.ofInt (p 6))),.str (φ.m.hx (UInt64.ofInt (p 7)))])]),inr (p 7),inr (p 6),inr (p 5),inr (p 4),inr (p 3),inr (p 2),inr (p 1),inr (p 0)]):=by kernel_rfl
theorem j8_0:ansM [4] (run1O Tryd.prog (psA φ) (nA φ) [15] [] [] (mask 60) 200 60 [.slice 4 8 0 1] (H4 p) 5)=some (.str [],[some (.cells false (c8 p))],[]):=by kernel_rfl
theorem j7_1:ansM [4] (run1O Tryd.prog (psA φ) (nA φ) [15,300020] [] [.str J,.tup []] (mask 60) 200 60 [.slice 4 7 1 1] (H4 p) 5)=some (.str J,[some (.cells false (c8 p))],[jO 1 J (H4 p++[(44,.cells false [.str (φ.m.hx (UInt64.ofInt (p 7)))])]),inr (p 7)]):=by kernel_rfl
theorem j6_2:ansM [4] (run1O Tryd.prog (psA φ) (nA φ) [15,300020] [] [.str J,.tup []] (mask 60) 200 60 [.slice 4 6 2 1] (H4 p) 5)=some (.str J,[some (.cells false (c8 p))],[jO 2 J (H4 p++[(44,.cells false [.str (φ.m.hx (UInt64.ofInt (p 6))),.str (φ.m.hx (UInt64.ofInt (p 7)))])]),inr (p 7),inr (p 6)]):=by kernel_rfl
theorem j5_3:ansM [4] (run1O Tryd.prog (psA φ) (nA φ) [15,300020] [] [.str J,.tup []] (mask 60) 200 60 [.slice 4 5 3 1] (H4 p) 5)=some (.str J,[some (.cells false (c8 p))],[jO 3 J (H4 p++[(44,.cells false [.str (φ.m.hx (UInt64.ofInt (p 5))),.str (φ.m.hx (UInt64.ofInt (p 6))),.str (φ.m.hx (UInt64.ofInt (p 7)))])]),inr (p 7),inr (p 6),inr (p 5)]):=by kernel_rfl
theorem j4_4:ansM [4] (run1O Tryd.prog (psA φ) (nA φ) [15,300020] [] [.str J,.tup []] (mask 60) 200 60 [.slice 4 4 4 1] (H4 p) 5)=some (.str J,[some (.cells false (c8 p))],[jO 4 J (H4 p++[(44,.cells false [.str (φ.m.hx (UInt64.ofInt (p 4))),.str (φ.m.hx (UInt64.ofInt (p 5))),.str (φ.m.hx (UInt64.ofInt (p 6))),.str (φ.m.hx (UInt64.ofInt (p 7)))])]),inr (p 7),inr (p 6),inr (p 5),inr (p 4)]):=by kernel_rfl
theorem j3_5:ansM [4] (run1O Tryd.prog (psA φ) (nA φ) [15,300020] [] [.str J,.tup []] (mask 60) 200 60 [.slice 4 3 5 1] (H4 p) 5)=some (.str J,[some (.cells false (c8 p))],[jO 5 J (H4 p++[(44,.cells false [.str (φ.m.hx (UInt64.ofInt (p 3))),.str (φ.m.hx (UInt64.ofInt (p 4))),.str (φ.m.hx (UInt64.ofInt (p 5))),.str (φ.m.hx (UInt64.ofInt (p 6))),.str (φ.m.hx (UInt64.ofInt (p 7)))])]),inr (p 7),inr (p 6),inr (p 5),inr (p 4),inr (p 3)]):=by kernel_rfl
theorem j2_6:ansM [4] (run1O Tryd.prog (psA φ) (nA φ) [15,300020] [] [.str J,.tup []] (mask 60) 200 60 [.slice 4 2 6 1] (H4 p) 5)=some (.str J,[some (.cells false (c8 p))],[jO 6 J (H4 p++[(44,.cells false [.str (φ.m.hx (UInt64.ofInt (p 2))),.str (φ.m.hx (UInt64.ofInt (p 3))),.str (φ.m.hx (UInt64.ofInt (p 4))),.str (φ.m.hx (UInt64.ofInt (p 5))),.str (φ.m.hx (UInt64.ofInt (p 6))),.str (φ.m.hx (UInt64.ofInt (p 7)))])]),inr (p 7),inr (p 6),inr (p 5),inr (p 4),inr (p 3),inr (p 2)]):=by kernel_rfl
theorem j1_7:ansM [4] (run1O Tryd.prog (psA φ) (nA φ) [15,300020] [] [.str J,.tup []] (mask 60) 200 60 [.slice 4 1 7 1] (H4 p) 5)=some (.str J,[some (.cells false (c8 p))],[jO 7 J (H4 p++[(44,.cells false [.str (φ.m.hx (UInt64.ofInt (p 1))),.str (φ.m.hx (UInt64.ofInt (p 2))),.str (φ.m.hx (UInt64.ofInt (p 3))),.str (φ.m.hx (UInt64.ofInt (p 4))),.str (φ.m.hx (UInt64.ofInt (p 5))),.str (φ.m.hx (UInt64.ofInt (p 6))),.str (φ.m.hx (UInt64.ofInt (p 7)))])]),inr (p 7),inr (p 6),inr (p 5),inr (p 4),inr (p 3),inr (p 2),inr (p 1)]):=by kernel_rfl
end
end Go.Proofs.YthlemfnkmpikjaaDoor
namespace Go.Proofs.YthlemfnkmpikjaaDoor
open Go Go.Eng Go.Num
def nbK (n:Nat) (v:List AVal→Option AVal) (η:Nat→Option AObj):Option AVal:=match η 0,η 1,η 2,η 3,η n with
 | some (.cells true a),none,none,some (.cells true b),some (.cells false c)=>cond (eqL a T0 && eqL b T3) (v c) none
 | _,_,_,_,_=>none
def nbE (n:Nat) (v:List AVal→Option AVal):EffA:=.also 4 n (nbK n v)
theorem nbK_also (n:Nat) (v:List AVal→Option AVal) (η:Nat→Option AObj):nbK n v (alsoH 4 n η)=nbK n v η:=by
 have e:alsoH 4 n η n=η n:=by unfold alsoH; rw [Nat.beq_refl,Bool.or_true]; rfl
 unfold nbK
 rw [e]
 rfl
theorem callOk_nb {cs:CS}(hcs:CSOk Tryd.prog cs){f:FuncId}{args cargs:List AVal}{n:Nat}(hcan:canL 4 [] args=some (cargs,[n])){v:List AVal→Option AVal}
  (h:∀ c x,v c=some x→ltL 0 c=true∧ltV 0 x=true∧∃ F nn H' fr',run1 Tryd.prog cs nn F f cargs (H0++[(4,.cells false c)]) 5=some (x,H',fr')∧aget H' 4=some (.cells false c)):CallOk Tryd.prog f args (nbE n v):=by
 have e1:Tryd.prog.globals.size=4:=gl
 have h0:CallOk Tryd.prog f args (oneE n fun η c=>match η 0,η 1,η 2,η 3 with
   | some (.cells true a),none,none,some (.cells true b)=>cond (eqL a T0 && eqL b T3) (match v c with | some x=>some (x,c) | none=>none) none
   | _,_,_,_=>none):=by
  refine callOk_one hcs hmix (by rw [e1]; exact hcan) fun η c w c' hk => ?_
  split at hk
  ·rename_i a b h0 h1 h2 h3
   cases hb:(eqL a T0 && eqL b T3) <;> rw [hb] at hk <;> simp only [cond_true,cond_false] at hk
   ·cases hk
   ·split at hk
    ·rename_i x hx
     cases hk
     rw [Bool.and_eq_true] at hb
     have ea:=eqL_eq hb.1
     have eb:=eqL_eq hb.2
     subst ea
     subst eb
     obtain ⟨a,b,F,nn,H',fr',r1,r2⟩:=h c w hx
     refine ⟨a,a,b,F,nn,H',fr',?_,by rw [e1]; exact r2⟩
     rw [e1]
     have l0:ltL 0 T0=true:=by kernel_rfl
     have l3:ltL 0 T3=true:=by kernel_rfl
     have hg:globA η 4 0=H0:=by
      simp only [globA,h0,h1,h2,h3,l0,l3,cond_true,Nat.zero_add,Nat.reduceAdd]
      rfl
     rw [hg]
     exact r1
    ·cases hk
  ·cases hk
 refine callOk_same2 h0 fun base H x H' ha => ?_
 unfold nbE at ha
 simp only [EffA.app,nbK_also] at ha
 cases hk:nbK n v (aget H) with
 | none=>rw [hk] at ha; cases ha
 | some y =>
  rw [hk] at ha
  cases ha
  unfold nbK at hk
  split at hk
  ·rename_i a b c h0 h1 h2 h3 h4
   cases hb:(eqL a T0 && eqL b T3) <;> rw [hb] at hk <;> simp only [cond_true,cond_false] at hk
   ·cases hk
   ·refine ⟨aset H n (.cells false c),?_,?_⟩
    ·unfold oneE
     simp only [EffA.app,h0,h1,h2,h3,h4,hb,hk,cond_true,appU]
    ·funext m
     rw [aget_aset]
     split
     ·rename_i e; subst e; rw [h4]
     ·rfl
  ·cases hk
theorem allT_mk {a:Bool}{l:List Bool}(h:a=true) (k:allT l=true):allT (a::l)=true:=by simp only [allT,h,k,cond_true]
theorem inr_ok {y:Int}(h0:0≤y) (h1:y < 65536):inr y=true:=by
 unfold inr
 refine decide_eq_true ?_
 obtain ⟨n,rfl⟩:=Int.eq_ofNat_of_zero_le h0
 rw [ofInt_nat,UInt64.toNat_ofNat']
 omega
theorem join_le:∀ (ls:List (List UInt8)),(∀ l ∈ ls,l.length≤4)→(Lib.join ls [58]).length≤5 * ls.length
 | [],_=>by simp [Lib.join]
 | x::r,h=>by
  rw [Lib.join_cons,List.length_append,Lib.joinTail_length]
  have h1:=h x (List.mem_cons_self ..)
  have h2:∀ (r:List (List UInt8)),(∀ l ∈ r,l.length≤4)→Lib.lens r≤4 * r.length:=fun r=>by
   induction r with
   | nil=>intro _; simp [Lib.lens]
   | cons y r ih =>
    intro h
    have a:=h y (List.mem_cons_self ..)
    have b:=ih fun l hl=>h l (List.mem_cons_of_mem _ hl)
    simp only [Lib.lens,List.map_cons,List.sum_cons,List.length_cons] at b ⊢
    omega
  have h3:=h2 r fun l hl=>h l (List.mem_cons_of_mem _ hl)
  simp only [List.length_cons,List.length_nil]
  omega
theorem strsA_map:∀ ls:List (List UInt8),strsA (ls.map AVal.str)=some ls
 | []=>rfl
 | x::l=>by simp only [List.map_cons,strsA,strsA_map l]
theorem jO_ok {p:Nat→Int}{ls:List (List UInt8)}{cells:List AVal}{len:Nat}(h1:ls.length=len) (h2:cells=ls.map .str) (h3:∀ l ∈ ls,l.length≤4) (h8:len≤8):jO len (Lib.join ls [58]) (H4 p++[(44,.cells false cells)])=true:=by
 unfold jO
 refine decP_of ?_
 unfold rdS
 simp only [EffA.app]
 have e:aget (H4 p++[(44,.cells false cells)]) 44=some (.cells false cells):=rfl
 rw [e]
 simp only
 have hj:=join_le ls h3
 have e2:(cells.drop 0).take len=ls.map .str:=by rw [h2,List.drop_zero,List.take_of_length_le (by rw [List.length_map]; omega)]
 rw [e2,strsA_map]
 simp only
 rw [h1,Nat.beq_refl,cond_true]
 unfold joinV
 rw [Nat.ble_eq_true_of_le (show (Lib.join ls [58]).length≤1000000 by omega),Nat.ble_eq_true_of_le (show ls.length≤1000000 by omega)]
 rfl
def jn (hx:UInt64→List UInt8) (p:Nat→Int) (off len:Nat):List UInt8:=Lib.join ((List.range len).map fun i=>hx (UInt64.ofInt (p (off+i)))) [58]
def rg (p:Nat→Int):Bool:=(List.range 8).all fun i=>decide (0≤p i) && decide (p i < 65536)
theorem rg_at {p:Nat→Int}(h:rg p=true) (i:Nat) (hi:i < 8):inr (p i)=true:=by
 have:=List.all_eq_true.1 h i (List.mem_range.2 hi)
 simp only [Bool.and_eq_true,decide_eq_true_eq] at this
 exact inr_ok this.1 this.2
theorem hx_len (x:UInt64):(far.m.hx x).length≤4:=by
 have e:far.m.hx=hexL:=by simp only [far,fmr]
 rw [e]
 exact (hexL_len x).2
section
variable {p:Nat→Int}(h:rg p=true)
include h
theorem jr0_0:∃ H' fr',run1 Tryd.prog (nA far) (mask 60) 200 60 [.slice 4 0 0 1] (H4 p) 5=some (.str (jn far.m.hx p 0 0),H',fr')∧aget H' 4=some (.cells false (c8 p)):= by have _:=h; exact ansM1 (nA_ps far) (j0_0 far p) rfl
theorem jr0_1:∃ H' fr',run1 Tryd.prog (nA far) (mask 60) 200 60 [.slice 4 0 1 1] (H4 p) 5=some (.str (jn far.m.hx p 0 1),H',fr')∧aget H' 4=some (.cells false (c8 p)):=by
 have hl:∀ l ∈ [far.m.hx (UInt64.ofInt (p 0))],l.length≤4:=by
  intro l hl
  simp only [List.mem_cons,List.mem_nil_iff,or_false] at hl
  rcases hl with rfl <;> exact hx_len _
 exact ansM1 (nA_ps far) (j0_1 far p (Lib.join [far.m.hx (UInt64.ofInt (p 0))] [58])) (allT_mk (jO_ok (ls:=[far.m.hx (UInt64.ofInt (p 0))]) rfl rfl hl (by decide)) (allT_mk (rg_at h 0 (by decide)) rfl))
theorem jr0_2:∃ H' fr',run1 Tryd.prog (nA far) (mask 60) 200 60 [.slice 4 0 2 1] (H4 p) 5=some (.str (jn far.m.hx p 0 2),H',fr')∧aget H' 4=some (.cells false (c8 p)):=by
 have hl:∀ l ∈ [far.m.hx (UInt64.ofInt (p 0)),far.m.hx (UInt64.ofInt (p 1))],l.length≤4:=by
  intro l hl
  simp only [List.mem_cons,List.mem_nil_iff,or_false] at hl
  rcases hl with rfl | rfl <;> exact hx_len _
 exact ansM1 (nA_ps far) (j0_2 far p (Lib.join [far.m.hx (UInt64.ofInt (p 0)),far.m.hx (UInt64.ofInt (p 1))] [58])) (allT_mk (jO_ok (ls:=[far.m.hx (UInt64.ofInt (p 0)),far.m.hx (UInt64.ofInt (p 1))]) rfl rfl hl (by decide)) (allT_mk (rg_at h 1 (by decide)) (allT_mk (rg_at h 0 (by decide)) rfl)))
theorem jr0_3:∃ H' fr',run1 Tryd.prog (nA far) (mask 60) 200 60 [.slice 4 0 3 1] (H4 p) 5=some (.str (jn far.m.hx p 0 3),H',fr')∧aget H' 4=some (.cells false (c8 p)):=by
 have hl:∀ l ∈ [far.m.hx (UInt64.ofInt (p 0)),far.m.hx (UInt64.ofInt (p 1)),far.m.hx (UInt64.ofInt (p 2))],l.length≤4:=by
  intro l hl
  simp only [List.mem_cons,List.mem_nil_iff,or_false] at hl
  rcases hl with rfl | rfl | rfl <;> exact hx_len _
 exact ansM1 (nA_ps far) (j0_3 far p (Lib.join [far.m.hx (UInt64.ofInt (p 0)),far.m.hx (UInt64.ofInt (p 1)),far.m.hx (UInt64.ofInt (p 2))] [58])) (allT_mk (jO_ok (ls:=[far.m.hx (UInt64.ofInt (p 0)),far.m.hx (UInt64.ofInt (p 1)),far.m.hx (UInt64.ofInt (p 2))]) rfl rfl hl (by decide)) (allT_mk (rg_at h 2 (by decide)) (allT_mk (rg_at h 1 (by decide)) (allT_mk (rg_at h 0 (by decide)) rfl))))
theorem jr0_4:∃ H' fr',run1 Tryd.prog (nA far) (mask 60) 200 60 [.slice 4 0 4 1] (H4 p) 5=some (.str (jn far.m.hx p 0 4),H',fr')∧aget H' 4=some (.cells false (c8 p)):=by
 have hl:∀ l ∈ [far.m.hx (UInt64.ofInt (p 0)),far.m.hx (UInt64.ofInt (p 1)),far.m.hx (UInt64.ofInt (p 2)),far.m.hx (UInt64.ofInt (p 3))],l.length≤4:=by
  intro l hl
  simp only [List.mem_cons,List.mem_nil_iff,or_false] at hl
  rcases hl with rfl | rfl | rfl | rfl <;> exact hx_len _
 exact ansM1 (nA_ps far) (j0_4 far p (Lib.join [far.m.hx (UInt64.ofInt (p 0)),far.m.hx (UInt64.ofInt (p 1)),far.m.hx (UInt64.ofInt (p 2)),far.m.hx (UInt64.ofInt (p 3))] [58])) (allT_mk (jO_ok (ls:=[far.m.hx (UInt64.ofInt (p 0)),far.m.hx (UInt64.ofInt (p 1)),far.m.hx (UInt64.ofInt (p 2)),far.m.hx (UInt64.ofInt (p 3))]) rfl rfl hl (by decide)) (allT_mk (rg_at h 3 (by decide)) (allT_mk (rg_at h 2 (by decide)) (allT_mk (rg_at h 1 (by decide)) (allT_mk (rg_at h 0 (by decide)) rfl)))))
theorem jr0_5:∃ H' fr',run1 Tryd.prog (nA far) (mask 60) 200 60 [.slice 4 0 5 1] (H4 p) 5=some (.str (jn far.m.hx p 0 5),H',fr')∧aget H' 4=some (.cells false (c8 p)):=by
 have hl:∀ l ∈ [far.m.hx (UInt64.ofInt (p 0)),far.m.hx (UInt64.ofInt (p 1)),far.m.hx (UInt64.ofInt (p 2)),far.m.hx (UInt64.ofInt (p 3)),far.m.hx (UInt64.ofInt (p 4))],l.length≤4:=by
  intro l hl
  simp only [List.mem_cons,List.mem_nil_iff,or_false] at hl
  rcases hl with rfl | rfl | rfl | rfl | rfl <;> exact hx_len _
 exact ansM1 (nA_ps far) (j0_5 far p (Lib.join [far.m.hx (UInt64.ofInt (p 0)),far.m.hx (UInt64.ofInt (p 1)),far.m.hx (UInt64.ofInt (p 2)),far.m.hx (UInt64.ofInt (p 3)),far.m.hx (UInt64.ofInt (p 4))] [58])) (allT_mk (jO_ok (ls:=[far.m.hx (UInt64.ofInt (p 0)),far.m.hx (UInt64.ofInt (p 1)),far.m.hx (UInt64.ofInt (p 2)),far.m.hx (UInt64.ofInt (p 3)),far.m.hx (UInt64.ofInt (p 4))]) rfl rfl hl (by decide)) (allT_mk (rg_at h 4 (by decide)) (allT_mk (rg_at h 3 (by decide)) (allT_mk (rg_at h 2 (by decide)) (allT_mk (rg_at h 1 (by decide)) (allT_mk (rg_at h 0 (by decide)) rfl))))))
theorem jr0_6:∃ H' fr',run1 Tryd.prog (nA far) (mask 60) 200 60 [.slice 4 0 6 1] (H4 p) 5=some (.str (jn far.m.hx p 0 6),H',fr')∧aget H' 4=some (.cells false (c8 p)):=by
 have hl:∀ l ∈ [far.m.hx (UInt64.ofInt (p 0)),far.m.hx (UInt64.ofInt (p 1)),far.m.hx (UInt64.ofInt (p 2)),far.m.hx (UInt64.ofInt (p 3)),far.m.hx (UInt64.ofInt (p 4)),far.m.hx (UInt64.ofInt (p 5))],l.length≤4:=by
  intro l hl
  simp only [List.mem_cons,List.mem_nil_iff,or_false] at hl
  rcases hl with rfl | rfl | rfl | rfl | rfl | rfl <;> exact hx_len _
 exact ansM1 (nA_ps far) (j0_6 far p (Lib.join [far.m.hx (UInt64.ofInt (p 0)),far.m.hx (UInt64.ofInt (p 1)),far.m.hx (UInt64.ofInt (p 2)),far.m.hx (UInt64.ofInt (p 3)),far.m.hx (UInt64.ofInt (p 4)),far.m.hx (UInt64.ofInt (p 5))] [58])) (allT_mk (jO_ok (ls:=[far.m.hx (UInt64.ofInt (p 0)),far.m.hx (UInt64.ofInt (p 1)),far.m.hx (UInt64.ofInt (p 2)),far.m.hx (UInt64.ofInt (p 3)),far.m.hx (UInt64.ofInt (p 4)),far.m.hx (UInt64.ofInt (p 5))]) rfl rfl hl (by decide)) (allT_mk (rg_at h 5 (by decide)) (allT_mk (rg_at h 4 (by decide)) (allT_mk (rg_at h 3 (by decide)) (allT_mk (rg_at h 2 (by decide)) (allT_mk (rg_at h 1 (by decide)) (allT_mk (rg_at h 0 (by decide)) rfl)))))))
theorem jr0_7:∃ H' fr',run1 Tryd.prog (nA far) (mask 60) 200 60 [.slice 4 0 7 1] (H4 p) 5=some (.str (jn far.m.hx p 0 7),H',fr')∧aget H' 4=some (.cells false (c8 p)):=by
 have hl:∀ l ∈ [far.m.hx (UInt64.ofInt (p 0)),far.m.hx (UInt64.ofInt (p 1)),far.m.hx (UInt64.ofInt (p 2)),far.m.hx (UInt64.ofInt (p 3)),far.m.hx (UInt64.ofInt (p 4)),far.m.hx (UInt64.ofInt (p 5)),far.m.hx (UInt64.ofInt (p 6))],l.length≤4:=by
  intro l hl
  simp only [List.mem_cons,List.mem_nil_iff,or_false] at hl
  rcases hl with rfl | rfl | rfl | rfl | rfl | rfl | rfl <;> exact hx_len _
 exact ansM1 (nA_ps far) (j0_7 far p (Lib.join [far.m.hx (UInt64.ofInt (p 0)),far.m.hx (UInt64.ofInt (p 1)),far.m.hx (UInt64.ofInt (p 2)),far.m.hx (UInt64.ofInt (p 3)),far.m.hx (UInt64.ofInt (p 4)),far.m.hx (UInt64.ofInt (p 5)),far.m.hx (UInt64.ofInt (p 6))] [58])) (allT_mk (jO_ok (ls:=[far.m.hx (UInt64.ofInt (p 0)),far.m.hx (UInt64.ofInt (p 1)),far.m.hx (UInt64.ofInt (p 2)),far.m.hx (UInt64.ofInt (p 3)),far.m.hx (UInt64.ofInt (p 4)),far.m.hx (UInt64.ofInt (p 5)),far.m.hx (UInt64.ofInt (p 6))]) rfl rfl hl (by decide)) (allT_mk (rg_at h 6 (by decide)) (allT_mk (rg_at h 5 (by decide)) (allT_mk (rg_at h 4 (by decide)) (allT_mk (rg_at h 3 (by decide)) (allT_mk (rg_at h 2 (by decide)) (allT_mk (rg_at h 1 (by decide)) (allT_mk (rg_at h 0 (by decide)) rfl))))))))
theorem jr0_8:∃ H' fr',run1 Tryd.prog (nA far) (mask 60) 200 60 [.slice 4 0 8 1] (H4 p) 5=some (.str (jn far.m.hx p 0 8),H',fr')∧aget H' 4=some (.cells false (c8 p)):=by
 have hl:∀ l ∈ [far.m.hx (UInt64.ofInt (p 0)),far.m.hx (UInt64.ofInt (p 1)),far.m.hx (UInt64.ofInt (p 2)),far.m.hx (UInt64.ofInt (p 3)),far.m.hx (UInt64.ofInt (p 4)),far.m.hx (UInt64.ofInt (p 5)),far.m.hx (UInt64.ofInt (p 6)),far.m.hx (UInt64.ofInt (p 7))],l.length≤4:=by
  intro l hl
  simp only [List.mem_cons,List.mem_nil_iff,or_false] at hl
  rcases hl with rfl | rfl | rfl | rfl | rfl | rfl | rfl | rfl <;> exact hx_len _
 exact ansM1 (nA_ps far) (j0_8 far p (Lib.join [far.m.hx (UInt64.ofInt (p 0)),far.m.hx (UInt64.ofInt (p 1)),far.m.hx (UInt64.ofInt (p 2)),far.m.hx (UInt64.ofInt (p 3)),far.m.hx (UInt64.ofInt (p 4)),far.m.hx (UInt64.ofInt (p 5)),far.m.hx (UInt64.ofInt (p 6)),far.m.hx (UInt64.ofInt (p 7))] [58])) (allT_mk (jO_ok (ls:=[far.m.hx (UInt64.ofInt (p 0)),far.m.hx (UInt64.ofInt (p 1)),far.m.hx (UInt64.ofInt (p 2)),far.m.hx (UInt64.ofInt (p 3)),far.m.hx (UInt64.ofInt (p 4)),far.m.hx (UInt64.ofInt (p 5)),far.m.hx (UInt64.ofInt (p 6)),far.m.hx (UInt64.ofInt (p 7))]) rfl rfl hl (by decide)) (allT_mk (rg_at h 7 (by decide)) (allT_mk (rg_at h 6 (by decide)) (allT_mk (rg_at h 5 (by decide)) (allT_mk (rg_at h 4 (by decide)) (allT_mk (rg_at h 3 (by decide)) (allT_mk (rg_at h 2 (by decide)) (allT_mk (rg_at h 1 (by decide)) (allT_mk (rg_at h 0 (by decide)) rfl)))))))))
theorem jr8_0:∃ H' fr',run1 Tryd.prog (nA far) (mask 60) 200 60 [.slice 4 8 0 1] (H4 p) 5=some (.str (jn far.m.hx p 8 0),H',fr')∧aget H' 4=some (.cells false (c8 p)):= by have _:=h; exact ansM1 (nA_ps far) (j8_0 far p) rfl
theorem jr7_1:∃ H' fr',run1 Tryd.prog (nA far) (mask 60) 200 60 [.slice 4 7 1 1] (H4 p) 5=some (.str (jn far.m.hx p 7 1),H',fr')∧aget H' 4=some (.cells false (c8 p)):=by
 have hl:∀ l ∈ [far.m.hx (UInt64.ofInt (p 7))],l.length≤4:=by
  intro l hl
  simp only [List.mem_cons,List.mem_nil_iff,or_false] at hl
  rcases hl with rfl <;> exact hx_len _
 exact ansM1 (nA_ps far) (j7_1 far p (Lib.join [far.m.hx (UInt64.ofInt (p 7))] [58])) (allT_mk (jO_ok (ls:=[far.m.hx (UInt64.ofInt (p 7))]) rfl rfl hl (by decide)) (allT_mk (rg_at h 7 (by decide)) rfl))
theorem jr6_2:∃ H' fr',run1 Tryd.prog (nA far) (mask 60) 200 60 [.slice 4 6 2 1] (H4 p) 5=some (.str (jn far.m.hx p 6 2),H',fr')∧aget H' 4=some (.cells false (c8 p)):=by
 have hl:∀ l ∈ [far.m.hx (UInt64.ofInt (p 6)),far.m.hx (UInt64.ofInt (p 7))],l.length≤4:=by
  intro l hl
  simp only [List.mem_cons,List.mem_nil_iff,or_false] at hl
  rcases hl with rfl | rfl <;> exact hx_len _
 exact ansM1 (nA_ps far) (j6_2 far p (Lib.join [far.m.hx (UInt64.ofInt (p 6)),far.m.hx (UInt64.ofInt (p 7))] [58])) (allT_mk (jO_ok (ls:=[far.m.hx (UInt64.ofInt (p 6)),far.m.hx (UInt64.ofInt (p 7))]) rfl rfl hl (by decide)) (allT_mk (rg_at h 7 (by decide)) (allT_mk (rg_at h 6 (by decide)) rfl)))
theorem jr5_3:∃ H' fr',run1 Tryd.prog (nA far) (mask 60) 200 60 [.slice 4 5 3 1] (H4 p) 5=some (.str (jn far.m.hx p 5 3),H',fr')∧aget H' 4=some (.cells false (c8 p)):=by
 have hl:∀ l ∈ [far.m.hx (UInt64.ofInt (p 5)),far.m.hx (UInt64.ofInt (p 6)),far.m.hx (UInt64.ofInt (p 7))],l.length≤4:=by
  intro l hl
  simp only [List.mem_cons,List.mem_nil_iff,or_false] at hl
  rcases hl with rfl | rfl | rfl <;> exact hx_len _
 exact ansM1 (nA_ps far) (j5_3 far p (Lib.join [far.m.hx (UInt64.ofInt (p 5)),far.m.hx (UInt64.ofInt (p 6)),far.m.hx (UInt64.ofInt (p 7))] [58])) (allT_mk (jO_ok (ls:=[far.m.hx (UInt64.ofInt (p 5)),far.m.hx (UInt64.ofInt (p 6)),far.m.hx (UInt64.ofInt (p 7))]) rfl rfl hl (by decide)) (allT_mk (rg_at h 7 (by decide)) (allT_mk (rg_at h 6 (by decide)) (allT_mk (rg_at h 5 (by decide)) rfl))))
theorem jr4_4:∃ H' fr',run1 Tryd.prog (nA far) (mask 60) 200 60 [.slice 4 4 4 1] (H4 p) 5=some (.str (jn far.m.hx p 4 4),H',fr')∧aget H' 4=some (.cells false (c8 p)):=by
 have hl:∀ l ∈ [far.m.hx (UInt64.ofInt (p 4)),far.m.hx (UInt64.ofInt (p 5)),far.m.hx (UInt64.ofInt (p 6)),far.m.hx (UInt64.ofInt (p 7))],l.length≤4:=by
  intro l hl
  simp only [List.mem_cons,List.mem_nil_iff,or_false] at hl
  rcases hl with rfl | rfl | rfl | rfl <;> exact hx_len _
 exact ansM1 (nA_ps far) (j4_4 far p (Lib.join [far.m.hx (UInt64.ofInt (p 4)),far.m.hx (UInt64.ofInt (p 5)),far.m.hx (UInt64.ofInt (p 6)),far.m.hx (UInt64.ofInt (p 7))] [58])) (allT_mk (jO_ok (ls:=[far.m.hx (UInt64.ofInt (p 4)),far.m.hx (UInt64.ofInt (p 5)),far.m.hx (UInt64.ofInt (p 6)),far.m.hx (UInt64.ofInt (p 7))]) rfl rfl hl (by decide)) (allT_mk (rg_at h 7 (by decide)) (allT_mk (rg_at h 6 (by decide)) (allT_mk (rg_at h 5 (by decide)) (allT_mk (rg_at h 4 (by decide)) rfl)))))
theorem jr3_5:∃ H' fr',run1 Tryd.prog (nA far) (mask 60) 200 60 [.slice 4 3 5 1] (H4 p) 5=some (.str (jn far.m.hx p 3 5),H',fr')∧aget H' 4=some (.cells false (c8 p)):=by
 have hl:∀ l ∈ [far.m.hx (UInt64.ofInt (p 3)),far.m.hx (UInt64.ofInt (p 4)),far.m.hx (UInt64.ofInt (p 5)),far.m.hx (UInt64.ofInt (p 6)),far.m.hx (UInt64.ofInt (p 7))],l.length≤4:=by
  intro l hl
  simp only [List.mem_cons,List.mem_nil_iff,or_false] at hl
  rcases hl with rfl | rfl | rfl | rfl | rfl <;> exact hx_len _
 exact ansM1 (nA_ps far) (j3_5 far p (Lib.join [far.m.hx (UInt64.ofInt (p 3)),far.m.hx (UInt64.ofInt (p 4)),far.m.hx (UInt64.ofInt (p 5)),far.m.hx (UInt64.ofInt (p 6)),far.m.hx (UInt64.ofInt (p 7))] [58])) (allT_mk (jO_ok (ls:=[far.m.hx (UInt64.ofInt (p 3)),far.m.hx (UInt64.ofInt (p 4)),far.m.hx (UInt64.ofInt (p 5)),far.m.hx (UInt64.ofInt (p 6)),far.m.hx (UInt64.ofInt (p 7))]) rfl rfl hl (by decide)) (allT_mk (rg_at h 7 (by decide)) (allT_mk (rg_at h 6 (by decide)) (allT_mk (rg_at h 5 (by decide)) (allT_mk (rg_at h 4 (by decide)) (allT_mk (rg_at h 3 (by decide)) rfl))))))
theorem jr2_6:∃ H' fr',run1 Tryd.prog (nA far) (mask 60) 200 60 [.slice 4 2 6 1] (H4 p) 5=some (.str (jn far.m.hx p 2 6),H',fr')∧aget H' 4=some (.cells false (c8 p)):=by
 have hl:∀ l ∈ [far.m.hx (UInt64.ofInt (p 2)),far.m.hx (UInt64.ofInt (p 3)),far.m.hx (UInt64.ofInt (p 4)),far.m.hx (UInt64.ofInt (p 5)),far.m.hx (UInt64.ofInt (p 6)),far.m.hx (UInt64.ofInt (p 7))],l.length≤4:=by
  intro l hl
  simp only [List.mem_cons,List.mem_nil_iff,or_false] at hl
  rcases hl with rfl | rfl | rfl | rfl | rfl | rfl <;> exact hx_len _
 exact ansM1 (nA_ps far) (j2_6 far p (Lib.join [far.m.hx (UInt64.ofInt (p 2)),far.m.hx (UInt64.ofInt (p 3)),far.m.hx (UInt64.ofInt (p 4)),far.m.hx (UInt64.ofInt (p 5)),far.m.hx (UInt64.ofInt (p 6)),far.m.hx (UInt64.ofInt (p 7))] [58])) (allT_mk (jO_ok (ls:=[far.m.hx (UInt64.ofInt (p 2)),far.m.hx (UInt64.ofInt (p 3)),far.m.hx (UInt64.ofInt (p 4)),far.m.hx (UInt64.ofInt (p 5)),far.m.hx (UInt64.ofInt (p 6)),far.m.hx (UInt64.ofInt (p 7))]) rfl rfl hl (by decide)) (allT_mk (rg_at h 7 (by decide)) (allT_mk (rg_at h 6 (by decide)) (allT_mk (rg_at h 5 (by decide)) (allT_mk (rg_at h 4 (by decide)) (allT_mk (rg_at h 3 (by decide)) (allT_mk (rg_at h 2 (by decide)) rfl)))))))
theorem jr1_7:∃ H' fr',run1 Tryd.prog (nA far) (mask 60) 200 60 [.slice 4 1 7 1] (H4 p) 5=some (.str (jn far.m.hx p 1 7),H',fr')∧aget H' 4=some (.cells false (c8 p)):=by
 have hl:∀ l ∈ [far.m.hx (UInt64.ofInt (p 1)),far.m.hx (UInt64.ofInt (p 2)),far.m.hx (UInt64.ofInt (p 3)),far.m.hx (UInt64.ofInt (p 4)),far.m.hx (UInt64.ofInt (p 5)),far.m.hx (UInt64.ofInt (p 6)),far.m.hx (UInt64.ofInt (p 7))],l.length≤4:=by
  intro l hl
  simp only [List.mem_cons,List.mem_nil_iff,or_false] at hl
  rcases hl with rfl | rfl | rfl | rfl | rfl | rfl | rfl <;> exact hx_len _
 exact ansM1 (nA_ps far) (j1_7 far p (Lib.join [far.m.hx (UInt64.ofInt (p 1)),far.m.hx (UInt64.ofInt (p 2)),far.m.hx (UInt64.ofInt (p 3)),far.m.hx (UInt64.ofInt (p 4)),far.m.hx (UInt64.ofInt (p 5)),far.m.hx (UInt64.ofInt (p 6)),far.m.hx (UInt64.ofInt (p 7))] [58])) (allT_mk (jO_ok (ls:=[far.m.hx (UInt64.ofInt (p 1)),far.m.hx (UInt64.ofInt (p 2)),far.m.hx (UInt64.ofInt (p 3)),far.m.hx (UInt64.ofInt (p 4)),far.m.hx (UInt64.ofInt (p 5)),far.m.hx (UInt64.ofInt (p 6)),far.m.hx (UInt64.ofInt (p 7))]) rfl rfl hl (by decide)) (allT_mk (rg_at h 7 (by decide)) (allT_mk (rg_at h 6 (by decide)) (allT_mk (rg_at h 5 (by decide)) (allT_mk (rg_at h 4 (by decide)) (allT_mk (rg_at h 3 (by decide)) (allT_mk (rg_at h 2 (by decide)) (allT_mk (rg_at h 1 (by decide)) rfl))))))))
end
def pf (p0 p1 p2 p3 p4 p5 p6 p7:Int) (i:Nat):Int:=match i with
 | 0=>p0 | 1=>p1 | 2=>p2 | 3=>p3 | 4=>p4 | 5=>p5 | 6=>p6 | _=>p7
def okP (off len:Nat):Bool:=cond (Nat.beq off 0) (Nat.ble len 8) (Nat.beq (off+len) 8)
def v60 (hx:UInt64→List UInt8) (off len:Nat):List AVal→Option AVal
 | [.int .u16 p0,.int .u16 p1,.int .u16 p2,.int .u16 p3,.int .u16 p4,.int .u16 p5,.int .u16 p6,.int .u16 p7]=>cond (rg (pf p0 p1 p2 p3 p4 p5 p6 p7) && okP off len) (some (.str (jn hx (pf p0 p1 p2 p3 p4 p5 p6 p7) off len))) none
 | _=>none
def k60 (φ:Fa):List AVal→Option EffA
 | [.slice n off len 1]=>some (nbE n (v60 φ.m.hx off len))
 | _=>none
theorem pair_ok {p:Nat→Int}(h:rg p=true){off len:Nat}(hp:okP off len=true):∃ H' fr',run1 Tryd.prog (nA far) (mask 60) 200 60 [.slice 4 off len 1] (H4 p) 5=some (.str (jn far.m.hx p off len),H',fr')∧aget H' 4=some (.cells false (c8 p)):=by
 unfold okP at hp
 cases hb:Nat.beq off 0 with
 | true =>
  rw [hb,cond_true] at hp
  have:=Nat.eq_of_beq_eq_true hb
  have h8:=Nat.le_of_ble_eq_true hp
  subst this
  have:len=0 ∨ len=1 ∨ len=2 ∨ len=3 ∨ len=4 ∨ len=5 ∨ len=6 ∨ len=7 ∨ len=8:=by omega
  rcases this with rfl | rfl | rfl | rfl | rfl | rfl | rfl | rfl | rfl
  ·exact jr0_0 h
  ·exact jr0_1 h
  ·exact jr0_2 h
  ·exact jr0_3 h
  ·exact jr0_4 h
  ·exact jr0_5 h
  ·exact jr0_6 h
  ·exact jr0_7 h
  ·exact jr0_8 h
 | false =>
  rw [hb,cond_false] at hp
  have h8:=Nat.eq_of_beq_eq_true hp
  have h0:off ≠ 0:=fun e=>by rw [e] at hb; cases hb
  have:off=8∧len=0 ∨ off=7∧len=1 ∨ off=6∧len=2 ∨ off=5∧len=3 ∨ off=4∧len=4 ∨ off=3∧len=5 ∨ off=2∧len=6 ∨ off=1∧len=7:=by omega
  rcases this with ⟨rfl,rfl⟩ | ⟨rfl,rfl⟩ | ⟨rfl,rfl⟩ | ⟨rfl,rfl⟩ | ⟨rfl,rfl⟩ | ⟨rfl,rfl⟩ | ⟨rfl,rfl⟩ | ⟨rfl,rfl⟩
  ·exact jr8_0 h
  ·exact jr7_1 h
  ·exact jr6_2 h
  ·exact jr5_3 h
  ·exact jr4_4 h
  ·exact jr3_5 h
  ·exact jr2_6 h
  ·exact jr1_7 h
theorem k60_ok:CSOk Tryd.prog (csOne 60 (k60 far)):=csOne_ok fun args e he=>by
 unfold k60 at he
 split at he
 ·rename_i n off len
  cases he
  refine callOk_nb nA_ok (cargs:=[.slice 4 off len 1]) rfl fun c x hx => ?_
  unfold v60 at hx
  split at hx
  ·rename_i p0 p1 p2 p3 p4 p5 p6 p7
   cases hb:(rg (pf p0 p1 p2 p3 p4 p5 p6 p7) && okP off len) with
   | false=>rw [hb] at hx; cases hx
   | true =>
    rw [hb] at hx
    cases hx
    rw [Bool.and_eq_true] at hb
    obtain ⟨H',fr',r1,r2⟩:=pair_ok hb.1 hb.2
    exact ⟨rfl,rfl,_,_,H',fr',r1,r2⟩
  ·cases hx
 ·cases he
end Go.Proofs.YthlemfnkmpikjaaDoor
namespace Go.Msg
inductive Fd where
 | F | T | I | P | C | B | V | X | E | K | N | D | S
structure Ms where
 ty:UInt8
 fr:List UInt8
 tt:List UInt8
 ix:UInt32
 pe:UInt32
 co:UInt64
 ba:UInt64
 ve:UInt64
 tx:List UInt8
 v6:Bool
 hi:UInt64
 lo:UInt64
 po:Int
 cd:Int
 te:List UInt8
 da:List UInt8
 sg:List UInt8
def zeroM:Ms:=⟨0,[],[],0,0,0,0,0,[],false,0,0,0,0,[],[],[]⟩
structure Cdc where
 be2:Int→List UInt8
 rd2:List UInt8→Int
 be4:UInt32→List UInt8
 rd4:List UInt8→UInt32
 be8:UInt64→List UInt8
 rd8:List UInt8→UInt64
structure CdcOk (c:Cdc):Prop where
 l2:∀ x,(c.be2 x).length=2
 b2:∀ x,0≤x→x < 65536→c.rd2 (c.be2 x)=x
 r2:∀ l,l.length=2→c.be2 (c.rd2 l)=l∧0≤c.rd2 l∧c.rd2 l < 65536
 l4:∀ x,(c.be4 x).length=4
 b4:∀ x,c.rd4 (c.be4 x)=x
 r4:∀ l,l.length=4→c.be4 (c.rd4 l)=l
 l8:∀ x,(c.be8 x).length=8
 b8:∀ x,c.rd8 (c.be8 x)=x
 r8:∀ l,l.length=8→c.be8 (c.rd8 l)=l
def fds:Nat→List Fd
 | 1=>[.F,.T,.N]
 | 2=>[.F,.V,.E]
 | 3=>[.F,.V]
 | 4=>[.V,.D,.S]
 | 5=>[.B,.V,.D,.S]
 | 6=>[.K]
 | 7=>[.X]
 | 8=>[.X,.E]
 | 9=>[.F,.D]
 | 10=>[.F,.D]
 | 11=>[.F]
 | 12=>[.F,.X]
 | 13=>[.D]
 | 14=>[.T,.D]
 | 15=>[.F,.D]
 | 16=>[.T]
 | 17=>[.I,.D]
 | 18=>[.I,.P,.D]
 | 19=>[.P,.C,.D]
 | 20=>[.F,.X]
 | 21=>[.X,.E]
 | _=>[]
def sameF (a b:Ms):Fd→Prop
 | .F=>a.fr=b.fr
 | .T=>a.tt=b.tt
 | .I=>a.ix=b.ix
 | .P=>a.pe=b.pe
 | .C=>a.co=b.co
 | .B=>a.ba=b.ba
 | .V=>a.ve=b.ve
 | .X=>a.tx=b.tx
 | .E=>a.v6=b.v6∧a.hi=b.hi∧a.lo=b.lo∧a.po=b.po
 | .K=>a.cd=b.cd
 | .N=>a.te=b.te
 | .D=>a.da=b.da
 | .S=>a.sg=b.sg
theorem sameF_rfl (a:Ms) (f:Fd):sameF a a f:=by cases f <;> simp [sameF]
theorem sameF.trans {a b c:Ms}{f:Fd}(h:sameF a b f) (k:sameF b c f):sameF a c f:=by
 cases f <;> simp only [sameF] at * <;> first | exact h.trans k | exact ⟨h.1.trans k.1,h.2.1.trans k.2.1,h.2.2.1.trans k.2.2.1,h.2.2.2.trans k.2.2.2⟩
theorem sameF.symm {a b:Ms}{f:Fd}(h:sameF a b f):sameF b a f:=by
 cases f <;> simp only [sameF] at * <;> first | exact h.symm | exact ⟨h.1.symm,h.2.1.symm,h.2.2.1.symm,h.2.2.2.symm⟩
theorem same_ext {a b:Ms}(ht:a.ty=b.ty) (h:∀ f,sameF a b f):a=b:=by
 obtain ⟨e1,e2,e3,e4⟩:=h .E
 have f1:=h .F
 have f2:=h .T
 have f3:=h .I
 have f4:=h .P
 have f5:=h .C
 have f6:=h .B
 have f7:=h .V
 have f8:=h .X
 have f9:=h .K
 have f10:=h .N
 have f11:=h .D
 have f12:=h .S
 simp only [sameF] at f1 f2 f3 f4 f5 f6 f7 f8 f9 f10 f11 f12
 cases a
 cases b
 simp only [Ms.mk.injEq]
 simp only at *
 exact ⟨ht,f1,f2,f3,f4,f5,f6,f7,f8,e1,e2,e3,e4,f9,f10,f11,f12⟩
section
variable (c:Cdc)
def encF (m:Ms):Fd→List UInt8
 | .F=>m.fr
 | .T=>m.tt
 | .I=>c.be4 m.ix
 | .P=>c.be4 m.pe
 | .C=>c.be8 m.co
 | .B=>c.be8 m.ba
 | .V=>c.be8 m.ve
 | .X=>m.tx
 | .E=>cond m.v6 (6::(c.be8 m.hi++c.be8 m.lo)) (4::c.be4 m.lo.toUInt32)++c.be2 m.po
 | .K=>c.be2 m.cd
 | .N=>c.be2 (m.te.length:Int)++m.te
 | .D=>c.be2 (m.da.length:Int)++m.da
 | .S=>m.sg
def good (m:Ms):Fd→Prop
 | .F=>m.fr.length=32
 | .T=>m.tt.length=32
 | .X=>m.tx.length=16
 | .S=>m.sg.length=64
 | .E=>(m.v6=true ∨ m.hi=0∧m.lo.toUInt32.toUInt64=m.lo)∧0≤m.po∧m.po < 65536
 | .K=>0≤m.cd∧m.cd < 65536
 | .N=>m.te.length≤64
 | .D=>m.da.length≤32768
 | _=>True
def takeF (n:Nat) (s:List UInt8) (m:Ms) (g:List UInt8→Ms):Int × Ms × List UInt8:=cond (Nat.ble n s.length) (0,g (s.take n),s.drop n) (7,m,s)
def textF (most:Int) (s:List UInt8) (m:Ms) (g:List UInt8→Ms):Int × Ms × List UInt8:=
 cond (Nat.ble 2 s.length) (cond (decide (most < c.rd2 (s.take 2))) (4,m,s) (cond (Nat.ble (c.rd2 (s.take 2)).toNat (s.drop 2).length) (0,g ((s.drop 2).take (c.rd2 (s.take 2)).toNat),(s.drop 2).drop (c.rd2 (s.take 2)).toNat) (7,m,s))) (7,m,s)
def endF (s:List UInt8) (m:Ms):Int × Ms × List UInt8:=
 match s with
 | []=>(7,m,s)
 | v::s'=>cond (v == 4) (cond (Nat.ble 6 s'.length) (0,{ m with lo:=(c.rd4 (s'.take 4)).toUInt64,po:=c.rd2 ((s'.drop 4).take 2) },s'.drop 6) (7,m,s))
   (cond (v == 6) (cond (Nat.ble 18 s'.length) (0,{ m with v6:=true,hi:=c.rd8 (s'.take 8),lo:=c.rd8 ((s'.drop 8).take 8),po:=c.rd2 ((s'.drop 16).take 2) },s'.drop 18) (7,m,s)) (8,m,s))
def decF (f:Fd) (s:List UInt8) (m:Ms):Int × Ms × List UInt8:=
 match f with
 | .F=>takeF 32 s m fun l => { m with fr:=l }
 | .T=>takeF 32 s m fun l => { m with tt:=l }
 | .I=>takeF 4 s m fun l => { m with ix:=c.rd4 l }
 | .P=>takeF 4 s m fun l => { m with pe:=c.rd4 l }
 | .C=>takeF 8 s m fun l => { m with co:=c.rd8 l }
 | .B=>takeF 8 s m fun l => { m with ba:=c.rd8 l }
 | .V=>takeF 8 s m fun l => { m with ve:=c.rd8 l }
 | .X=>takeF 16 s m fun l => { m with tx:=l }
 | .E=>endF c s m
 | .K=>takeF 2 s m fun l => { m with cd:=c.rd2 l }
 | .N=>textF c 64 s m fun l => { m with te:=l }
 | .D=>textF c 32768 s m fun l => { m with da:=l }
 | .S=>takeF 64 s m fun l => { m with sg:=l }
def decG:List Fd→List UInt8→Ms→Int × Ms × List UInt8
 | [],s,m=>(0,m,s)
 | f::fs,s,m=>cond (decide ((decF c f s m).1=0)) (decG fs (decF c f s m).2.2 (decF c f s m).2.1) (decF c f s m)
def enc (m:Ms):List UInt8:=m.ty::(fds m.ty.toNat).flatMap (encF c m)
def endM (r:Int × Ms × List UInt8):Ms × Int:=cond (decide (r.1=0)) (cond r.2.2.isEmpty (r.2.1,0) (zeroM,8)) (zeroM,r.1)
def dec:List UInt8→Ms × Int
 | []=>(zeroM,7)
 | t::s=>cond (fds t.toNat).isEmpty (zeroM,150) (endM (decG c (fds t.toNat) s { zeroM with ty:=t }))
variable {c:Cdc}(h:CdcOk c)
theorem take_left {l r:List UInt8}{n:Nat}(hl:l.length=n):(l++r).take n=l∧(l++r).drop n=r:=by
 subst hl
 simp
theorem takeF_ok {n:Nat}{l r:List UInt8}(hl:l.length=n) (m:Ms) (g:List UInt8→Ms):takeF n (l++r) m g=(0,g l,r):=by
 obtain ⟨a,b⟩:=take_left (r:=r) hl
 unfold takeF
 rw [a,b,Nat.ble_eq_true_of_le (by rw [List.length_append]; omega)]
 rfl
include h
theorem textF_ok {most:Nat}{l r:List UInt8}(hl:l.length≤most) (hm:most < 65536) (m:Ms) (g:List UInt8→Ms):textF c most ((c.be2 (l.length:Int)++l)++r) m g=(0,g l,r):=by
 obtain ⟨a,b⟩:=take_left (r:=l++r) (h.l2 (l.length:Int))
 obtain ⟨a2,b2⟩:=take_left (l:=l) (r:=r) rfl
 unfold textF
 rw [List.append_assoc,a,b,h.b2 _ (by omega) (by omega),Int.toNat_natCast,a2,b2,Nat.ble_eq_true_of_le (by rw [List.length_append,h.l2]; omega),Nat.ble_eq_true_of_le (by rw [List.length_append]; omega),decide_eq_false (by omega)]
 rfl
theorem decF_enc {m m0:Ms}{f:Fd}(hg:good m f) (h0:f=.E→m0.v6=false∧m0.hi=0) (r:List UInt8) :
  ∃ m1,decF c f (encF c m f++r) m0=(0,m1,r)∧m1.ty=m0.ty∧sameF m1 m f∧∀ g,g ≠ f→sameF m1 m0 g:=by
 have oth:∀ (m1:Ms) (f:Fd),(∀ g,g ≠ f→sameF m1 m0 g)→(∀ g,g ≠ f→sameF m1 m0 g):=fun _ _ h=>h
 cases f
 case E =>
  obtain ⟨z1,z2⟩:=h0 rfl
  obtain ⟨ha,p1,p2⟩:=hg
  have e2:=h.b2 m.po p1 p2
  cases hv:m.v6 with
  | true =>
   obtain ⟨a1,b1⟩:=take_left (r:=c.be8 m.lo++(c.be2 m.po++r)) (h.l8 m.hi)
   obtain ⟨a2,b2⟩:=take_left (r:=c.be2 m.po++r) (h.l8 m.lo)
   obtain ⟨a3,b3⟩:=take_left (r:=r) (h.l2 m.po)
   refine ⟨{ m0 with v6:=true,hi:=m.hi,lo:=m.lo,po:=m.po },?_,rfl,⟨hv.symm,rfl,rfl,rfl⟩,fun g hn=>by cases g <;> first | exact absurd rfl hn | exact (rfl:_=_) | exact ⟨rfl,rfl,rfl,rfl⟩⟩
   simp only [decF,encF,hv,cond_true,List.cons_append,List.append_assoc,endF]
   have e16:(c.be8 m.hi++(c.be8 m.lo++(c.be2 m.po++r))).drop 16=c.be2 m.po++r:=by
    rw [show (16:Nat)=8+8 from rfl,← List.drop_drop,b1,b2]
   have e18:(c.be8 m.hi++(c.be8 m.lo++(c.be2 m.po++r))).drop 18=r:=by
    rw [show (18:Nat)=16+2 from rfl,← List.drop_drop,e16,b3]
   rw [show ((6:UInt8) == 4)=false from rfl,cond_false,a1,b1,a2,e16,e18,a3,h.b8,h.b8,e2,Nat.ble_eq_true_of_le (by simp only [List.length_append,h.l8,h.l2]; omega)]
   rfl
  | false =>
   obtain ⟨w1,w2⟩:=ha.resolve_left (by rw [hv]; exact Bool.false_ne_true)
   obtain ⟨a1,b1⟩:=take_left (r:=c.be2 m.po++r) (h.l4 m.lo.toUInt32)
   obtain ⟨a3,b3⟩:=take_left (r:=r) (h.l2 m.po)
   refine ⟨{ m0 with lo:=m.lo,po:=m.po },?_,rfl,⟨z1.trans hv.symm,z2.trans w1.symm,rfl,rfl⟩,fun g hn=>by cases g <;> first | exact absurd rfl hn | exact (rfl:_=_) | exact ⟨rfl,rfl,rfl,rfl⟩⟩
   simp only [decF,encF,hv,cond_false,List.cons_append,List.append_assoc,endF]
   have e6:(c.be4 m.lo.toUInt32++(c.be2 m.po++r)).drop 6=r:=by
    rw [show (6:Nat)=4+2 from rfl,← List.drop_drop,b1,b3]
   rw [a1,b1,e6,a3,h.b4,w2,e2,Nat.ble_eq_true_of_le (by simp only [List.length_append,h.l4,h.l2]; omega)]
   rfl
 case F=>exact ⟨{ m0 with fr:=m.fr },takeF_ok hg m0 (fun l => { m0 with fr:=l }),rfl,rfl,fun g hn=>by cases g <;> first | exact absurd rfl hn | exact (rfl:_=_) | exact ⟨rfl,rfl,rfl,rfl⟩⟩
 case T=>exact ⟨{ m0 with tt:=m.tt },takeF_ok hg m0 (fun l => { m0 with tt:=l }),rfl,rfl,fun g hn=>by cases g <;> first | exact absurd rfl hn | exact (rfl:_=_) | exact ⟨rfl,rfl,rfl,rfl⟩⟩
 case X=>exact ⟨{ m0 with tx:=m.tx },takeF_ok hg m0 (fun l => { m0 with tx:=l }),rfl,rfl,fun g hn=>by cases g <;> first | exact absurd rfl hn | exact (rfl:_=_) | exact ⟨rfl,rfl,rfl,rfl⟩⟩
 case S=>exact ⟨{ m0 with sg:=m.sg },takeF_ok hg m0 (fun l => { m0 with sg:=l }),rfl,rfl,fun g hn=>by cases g <;> first | exact absurd rfl hn | exact (rfl:_=_) | exact ⟨rfl,rfl,rfl,rfl⟩⟩
 case I=>exact ⟨{ m0 with ix:=c.rd4 (c.be4 m.ix) },takeF_ok (h.l4 _) m0 (fun l => { m0 with ix:=c.rd4 l }),rfl,h.b4 _,fun g hn=>by cases g <;> first | exact absurd rfl hn | exact (rfl:_=_) | exact ⟨rfl,rfl,rfl,rfl⟩⟩
 case P=>exact ⟨{ m0 with pe:=c.rd4 (c.be4 m.pe) },takeF_ok (h.l4 _) m0 (fun l => { m0 with pe:=c.rd4 l }),rfl,h.b4 _,fun g hn=>by cases g <;> first | exact absurd rfl hn | exact (rfl:_=_) | exact ⟨rfl,rfl,rfl,rfl⟩⟩
 case C=>exact ⟨{ m0 with co:=c.rd8 (c.be8 m.co) },takeF_ok (h.l8 _) m0 (fun l => { m0 with co:=c.rd8 l }),rfl,h.b8 _,fun g hn=>by cases g <;> first | exact absurd rfl hn | exact (rfl:_=_) | exact ⟨rfl,rfl,rfl,rfl⟩⟩
 case B=>exact ⟨{ m0 with ba:=c.rd8 (c.be8 m.ba) },takeF_ok (h.l8 _) m0 (fun l => { m0 with ba:=c.rd8 l }),rfl,h.b8 _,fun g hn=>by cases g <;> first | exact absurd rfl hn | exact (rfl:_=_) | exact ⟨rfl,rfl,rfl,rfl⟩⟩
 case V=>exact ⟨{ m0 with ve:=c.rd8 (c.be8 m.ve) },takeF_ok (h.l8 _) m0 (fun l => { m0 with ve:=c.rd8 l }),rfl,h.b8 _,fun g hn=>by cases g <;> first | exact absurd rfl hn | exact (rfl:_=_) | exact ⟨rfl,rfl,rfl,rfl⟩⟩
 case K=>exact ⟨{ m0 with cd:=c.rd2 (c.be2 m.cd) },takeF_ok (h.l2 _) m0 (fun l => { m0 with cd:=c.rd2 l }),rfl,h.b2 _ hg.1 hg.2,fun g hn=>by cases g <;> first | exact absurd rfl hn | exact (rfl:_=_) | exact ⟨rfl,rfl,rfl,rfl⟩⟩
 case N=>exact ⟨{ m0 with te:=m.te },textF_ok h (most:=64) hg (by decide) m0 (fun l => { m0 with te:=l }),rfl,rfl,fun g hn=>by cases g <;> first | exact absurd rfl hn | exact (rfl:_=_) | exact ⟨rfl,rfl,rfl,rfl⟩⟩
 case D=>exact ⟨{ m0 with da:=m.da },textF_ok h (most:=32768) hg (by decide) m0 (fun l => { m0 with da:=l }),rfl,rfl,fun g hn=>by cases g <;> first | exact absurd rfl hn | exact (rfl:_=_) | exact ⟨rfl,rfl,rfl,rfl⟩⟩
theorem decG_enc {m:Ms}:∀ (fs:List Fd) (m0:Ms) (r:List UInt8),fs.Nodup→(∀ f ∈ fs,good m f)→(.E ∈ fs→m0.v6=false∧m0.hi=0) →
  ∃ m1,decG c fs (fs.flatMap (encF c m)++r) m0=(0,m1,r)∧m1.ty=m0.ty∧(∀ f ∈ fs,sameF m1 m f)∧∀ g,g ∉ fs→sameF m1 m0 g
 | [],m0,r,_,_,_=>⟨m0,rfl,rfl,(fun f hf=>nomatch hf),fun g _=>sameF_rfl _ _⟩
 | f::fs,m0,r,hn,hg,h0=>by
  obtain ⟨hf,hn'⟩:=List.nodup_cons.1 hn
  obtain ⟨m1,e1,t1,s1,o1⟩:=decF_enc h (m0:=m0) (hg f (List.mem_cons_self ..)) (fun e=>h0 (by rw [e]; exact List.mem_cons_self ..)) (fs.flatMap (encF c m)++r)
  obtain ⟨m2,e2,t2,s2,o2⟩:=decG_enc fs m1 r hn' (fun f' hf'=>hg f' (List.mem_cons_of_mem _ hf')) (fun he=>by
   obtain ⟨z1,z2⟩:=h0 (List.mem_cons_of_mem _ he)
   have:=o1 .E (fun e=>hf (by rw [← e]; exact he))
   exact ⟨this.1.trans z1,this.2.1.trans z2⟩)
  refine ⟨m2,?_,t2.trans t1,fun f' hf' => ?_,fun g hgn => ?_⟩
  ·simp only [decG,List.flatMap_cons,List.append_assoc,e1,decide_true,cond_true]
   exact e2
  ·rcases List.mem_cons.1 hf' with rfl | hf'
   ·exact (o2 _ hf).trans s1
   ·exact s2 _ hf'
  ·rw [List.mem_cons,not_or] at hgn
   exact (o2 g hgn.2).trans (o1 g hgn.1)
theorem dec_enc {m:Ms}(hne:(fds m.ty.toNat).isEmpty=false) (hn:(fds m.ty.toNat).Nodup) (hg:∀ f ∈ fds m.ty.toNat,good m f) (ha:∀ f,f ∉ fds m.ty.toNat→sameF m zeroM f) (r:List UInt8) :
  dec c (enc c m++r)=cond r.isEmpty (m,0) (zeroM,8):=by
 obtain ⟨m1,e1,t1,s1,o1⟩:=decG_enc h (fds m.ty.toNat) { zeroM with ty:=m.ty } r hn hg (fun _=>⟨rfl,rfl⟩)
 have e:m1=m:=same_ext t1 fun f=>by
  by_cases hf:f ∈ fds m.ty.toNat
  ·exact s1 f hf
  ·refine (o1 f hf).trans ?_
   have:=(ha f hf).symm
   cases f <;> exact this
 subst e
 simp only [enc,List.cons_append,dec,hne,cond_false,e1,endM,decide_true,cond_true]
omit h in
theorem takeF_back {n:Nat}{s:List UInt8}{m m1:Ms}{g:List UInt8→Ms}{s1:List UInt8}(e:takeF n s m g=(0,m1,s1)):∃ l,l.length=n∧s=l++s1∧m1=g l:=by
 unfold takeF at e
 cases hb:Nat.ble n s.length with
 | false =>
  rw [hb,cond_false] at e
  injection e with a _
  exact absurd a (by decide)
 | true =>
  rw [hb,cond_true] at e
  injection e with _ e
  injection e with e1 e2
  have:=Nat.le_of_ble_eq_true hb
  exact ⟨s.take n,by rw [List.length_take]; omega,by rw [← e2,List.take_append_drop],e1.symm⟩
theorem textF_back {most:Nat}{s:List UInt8}{m m1:Ms}{g:List UInt8→Ms}{s1:List UInt8}(e:textF c most s m g=(0,m1,s1)):∃ l,l.length≤most∧s=(c.be2 (l.length:Int)++l)++s1∧m1=g l:=by
 unfold textF at e
 cases hb:Nat.ble 2 s.length with
 | false =>
  rw [hb,cond_false] at e
  injection e with a _
  exact absurd a (by decide)
 | true =>
  rw [hb,cond_true] at e
  have h2:=Nat.le_of_ble_eq_true hb
  obtain ⟨r1,r2,r3⟩:=h.r2 (s.take 2) (by rw [List.length_take]; omega)
  cases hm:decide ((most:Int) < c.rd2 (s.take 2)) with
  | true =>
   rw [hm,cond_true] at e
   injection e with a _
   exact absurd a (by decide)
  | false =>
   rw [hm,cond_false] at e
   have hm':=of_decide_eq_false hm
   generalize c.rd2 (s.take 2)=n at *
   cases hl:Nat.ble n.toNat (s.drop 2).length with
   | false =>
    rw [hl,cond_false] at e
    injection e with a _
    exact absurd a (by decide)
   | true =>
    rw [hl,cond_true] at e
    injection e with _ e
    injection e with e1 e2
    have hl':=Nat.le_of_ble_eq_true hl
    refine ⟨(s.drop 2).take n.toNat,by rw [List.length_take]; omega,?_,e1.symm⟩
    have el:((((s.drop 2).take n.toNat).length:Nat):Int)=n:=by rw [List.length_take,Nat.min_eq_left hl']; omega
    rw [el,r1,← e2,List.append_assoc,List.take_append_drop,List.take_append_drop]
theorem decF_back {f:Fd}{s s1:List UInt8}{m0 m1:Ms}(h0:f=.E→m0.v6=false∧m0.hi=0) (hu:∀ x:UInt32,x.toUInt64.toUInt32=x) (e:decF c f s m0=(0,m1,s1)) :
  s=encF c m1 f++s1∧good m1 f∧m1.ty=m0.ty∧∀ g,g ≠ f→sameF m1 m0 g:=by
 cases f
 case E =>
  obtain ⟨z1,z2⟩:=h0 rfl
  simp only [decF,endF] at e
  split at e
  ·injection e with a _
   exact absurd a (by decide)
  ·rename_i v s'
   by_cases h4:v=4
   ·subst h4
    rw [show ((4:UInt8) == 4)=true from rfl,cond_true] at e
    cases hb:Nat.ble 6 s'.length with
    | false =>
     rw [hb,cond_false] at e
     injection e with a _
     exact absurd a (by decide)
    | true =>
     have hl:=Nat.le_of_ble_eq_true hb
     rw [hb,cond_true] at e
     injection e with _ e
     injection e with e1 e2
     subst e1
     obtain ⟨r1,r2,r3⟩:=h.r2 ((s'.drop 4).take 2) (by rw [List.length_take,List.length_drop]; omega)
     have r4:=h.r4 (s'.take 4) (by rw [List.length_take]; omega)
     refine ⟨?_,⟨Or.inr ⟨z2,by simp only [hu]⟩,r2,r3⟩,rfl,fun g hn=>by cases g <;> first | exact absurd rfl hn | exact (rfl:_=_) | exact ⟨rfl,rfl,rfl,rfl⟩⟩
     simp only [encF,z1,cond_false,hu,r4,r1,List.cons_append,List.append_assoc,← e2]
     have e3:(s'.drop 4).take 2++s'.drop 6=s'.drop 4:=by
      rw [show (6:Nat)=4+2 from rfl,← List.drop_drop,List.take_append_drop]
     rw [e3,List.take_append_drop]
   ·have n4:(v == 4)=false:=by simp only [beq_eq_false_iff_ne,ne_eq]; exact h4
    rw [n4,cond_false] at e
    by_cases h6:v=6
    ·subst h6
     rw [show ((6:UInt8) == 6)=true from rfl,cond_true] at e
     cases hb:Nat.ble 18 s'.length with
     | false =>
      rw [hb,cond_false] at e
      injection e with a _
      exact absurd a (by decide)
     | true =>
      have hl:=Nat.le_of_ble_eq_true hb
      rw [hb,cond_true] at e
      injection e with _ e
      injection e with e1 e2
      subst e1
      obtain ⟨r1,r2,r3⟩:=h.r2 ((s'.drop 16).take 2) (by rw [List.length_take,List.length_drop]; omega)
      have r8:=h.r8 (s'.take 8) (by rw [List.length_take]; omega)
      have r8':=h.r8 ((s'.drop 8).take 8) (by rw [List.length_take,List.length_drop]; omega)
      refine ⟨?_,⟨Or.inl rfl,r2,r3⟩,rfl,fun g hn=>by cases g <;> first | exact absurd rfl hn | exact (rfl:_=_) | exact ⟨rfl,rfl,rfl,rfl⟩⟩
      simp only [encF,cond_true,r8,r8',r1,List.cons_append,List.append_assoc,← e2]
      have e3:(s'.drop 16).take 2++s'.drop 18=s'.drop 16:=by
       rw [show (18:Nat)=16+2 from rfl,← List.drop_drop,List.take_append_drop]
      have e4:(s'.drop 8).take 8++s'.drop 16=s'.drop 8:=by
       rw [show (16:Nat)=8+8 from rfl,← List.drop_drop,List.take_append_drop]
      rw [e3,e4,List.take_append_drop]
    ·have n6:(v == 6)=false:=by simp only [beq_eq_false_iff_ne,ne_eq]; exact h6
     rw [n6,cond_false] at e
     injection e with a _
     exact absurd a (by decide)
 case F =>
  simp only [decF] at e
  obtain ⟨l,hl,rfl,rfl⟩:=takeF_back e
  exact ⟨rfl,hl,rfl,fun g hn=>by cases g <;> first | exact absurd rfl hn | exact (rfl:_=_) | exact ⟨rfl,rfl,rfl,rfl⟩⟩
 case T =>
  simp only [decF] at e
  obtain ⟨l,hl,rfl,rfl⟩:=takeF_back e
  exact ⟨rfl,hl,rfl,fun g hn=>by cases g <;> first | exact absurd rfl hn | exact (rfl:_=_) | exact ⟨rfl,rfl,rfl,rfl⟩⟩
 case X =>
  simp only [decF] at e
  obtain ⟨l,hl,rfl,rfl⟩:=takeF_back e
  exact ⟨rfl,hl,rfl,fun g hn=>by cases g <;> first | exact absurd rfl hn | exact (rfl:_=_) | exact ⟨rfl,rfl,rfl,rfl⟩⟩
 case S =>
  simp only [decF] at e
  obtain ⟨l,hl,rfl,rfl⟩:=takeF_back e
  exact ⟨rfl,hl,rfl,fun g hn=>by cases g <;> first | exact absurd rfl hn | exact (rfl:_=_) | exact ⟨rfl,rfl,rfl,rfl⟩⟩
 case I =>
  simp only [decF] at e
  obtain ⟨l,hl,rfl,rfl⟩:=takeF_back e
  exact ⟨by simp only [encF,h.r4 l hl],trivial,rfl,fun g hn=>by cases g <;> first | exact absurd rfl hn | exact (rfl:_=_) | exact ⟨rfl,rfl,rfl,rfl⟩⟩
 case P =>
  simp only [decF] at e
  obtain ⟨l,hl,rfl,rfl⟩:=takeF_back e
  exact ⟨by simp only [encF,h.r4 l hl],trivial,rfl,fun g hn=>by cases g <;> first | exact absurd rfl hn | exact (rfl:_=_) | exact ⟨rfl,rfl,rfl,rfl⟩⟩
 case C =>
  simp only [decF] at e
  obtain ⟨l,hl,rfl,rfl⟩:=takeF_back e
  exact ⟨by simp only [encF,h.r8 l hl],trivial,rfl,fun g hn=>by cases g <;> first | exact absurd rfl hn | exact (rfl:_=_) | exact ⟨rfl,rfl,rfl,rfl⟩⟩
 case B =>
  simp only [decF] at e
  obtain ⟨l,hl,rfl,rfl⟩:=takeF_back e
  exact ⟨by simp only [encF,h.r8 l hl],trivial,rfl,fun g hn=>by cases g <;> first | exact absurd rfl hn | exact (rfl:_=_) | exact ⟨rfl,rfl,rfl,rfl⟩⟩
 case V =>
  simp only [decF] at e
  obtain ⟨l,hl,rfl,rfl⟩:=takeF_back e
  exact ⟨by simp only [encF,h.r8 l hl],trivial,rfl,fun g hn=>by cases g <;> first | exact absurd rfl hn | exact (rfl:_=_) | exact ⟨rfl,rfl,rfl,rfl⟩⟩
 case K =>
  simp only [decF] at e
  obtain ⟨l,hl,rfl,rfl⟩:=takeF_back e
  obtain ⟨r1,r2,r3⟩:=h.r2 l hl
  exact ⟨by simp only [encF,r1],⟨r2,r3⟩,rfl,fun g hn=>by cases g <;> first | exact absurd rfl hn | exact (rfl:_=_) | exact ⟨rfl,rfl,rfl,rfl⟩⟩
 case N =>
  simp only [decF] at e
  obtain ⟨l,hl,rfl,rfl⟩:=textF_back h (most:=64) e
  exact ⟨rfl,hl,rfl,fun g hn=>by cases g <;> first | exact absurd rfl hn | exact (rfl:_=_) | exact ⟨rfl,rfl,rfl,rfl⟩⟩
 case D =>
  simp only [decF] at e
  obtain ⟨l,hl,rfl,rfl⟩:=textF_back h (most:=32768) e
  exact ⟨rfl,hl,rfl,fun g hn=>by cases g <;> first | exact absurd rfl hn | exact (rfl:_=_) | exact ⟨rfl,rfl,rfl,rfl⟩⟩
omit h in
theorem encF_same {a b:Ms}{f:Fd}(h:sameF a b f):encF c a f=encF c b f∧(good a f ↔ good b f):=by
 cases f <;> simp only [sameF] at h
 case E =>
  obtain ⟨e1,e2,e3,e4⟩:=h
  simp only [encF,good,e1,e2,e3,e4,and_self]
 all_goals simp only [encF,good,h,and_self]
theorem decG_back (hu:∀ x:UInt32,x.toUInt64.toUInt32=x):∀ (fs:List Fd) (m0 x:Ms) (s r:List UInt8),fs.Nodup→(.E ∈ fs→m0.v6=false∧m0.hi=0)→decG c fs s m0=(0,x,r) →
  s=fs.flatMap (encF c x)++r∧(∀ f ∈ fs,good x f)∧x.ty=m0.ty∧∀ g,g ∉ fs→sameF x m0 g
 | [],m0,x,s,r,_,_,e=>by
  simp only [decG,Prod.mk.injEq,true_and] at e
  obtain ⟨rfl,rfl⟩:=e
  exact ⟨rfl,(fun f hf=>nomatch hf),rfl,fun g _=>sameF_rfl _ _⟩
 | f::fs,m0,x,s,r,hn,h0,e=>by
  obtain ⟨hf,hn'⟩:=List.nodup_cons.1 hn
  simp only [decG] at e
  cases hd:decide ((decF c f s m0).1=0) with
  | false =>
   rw [hd,cond_false] at e
   have:=of_decide_eq_false hd
   rw [e] at this
   exact absurd rfl this
  | true =>
   rw [hd,cond_true] at e
   have hd':=of_decide_eq_true hd
   rcases hr:decF c f s m0 with ⟨e0,m1,s1⟩
   rw [hr] at e hd'
   simp only at e hd'
   subst hd'
   obtain ⟨a1,a2,a3,a4⟩:=decF_back h (fun e=>h0 (by rw [e]; exact List.mem_cons_self ..)) hu hr
   obtain ⟨b1,b2,b3,b4⟩:=decG_back hu fs m1 x s1 r hn' (fun he=>by
    obtain ⟨z1,z2⟩:=h0 (List.mem_cons_of_mem _ he)
    have:=a4 .E (fun e=>hf (by rw [← e]; exact he))
    exact ⟨this.1.trans z1,this.2.1.trans z2⟩) e
   have sf:=b4 f hf
   refine ⟨?_,fun f' hf' => ?_,b3.trans a3,fun g hg => ?_⟩
   ·rw [a1,b1,← (encF_same (c:=c) sf).1,List.flatMap_cons,List.append_assoc]
   ·rcases List.mem_cons.1 hf' with rfl | hf'
    ·exact (encF_same (c:=c) sf).2.2 a2
    ·exact b2 _ hf'
   ·rw [List.mem_cons,not_or] at hg
    exact (b4 g hg.2).trans (a4 g hg.1)
theorem dec_back (hu:∀ x:UInt32,x.toUInt64.toUInt32=x) (hnd:∀ t:UInt8,(fds t.toNat).Nodup){s:List UInt8}{x:Ms}(e:dec c s=(x,0)) :
  (fds x.ty.toNat).isEmpty=false∧(∀ f ∈ fds x.ty.toNat,good x f)∧(∀ f,f ∉ fds x.ty.toNat→sameF x zeroM f)∧enc c x=s:=by
 cases s with
 | nil=>cases e
 | cons t s =>
  simp only [dec] at e
  cases hi:(fds t.toNat).isEmpty with
  | true =>
   rw [hi,cond_true] at e
   injection e with _ a
   exact absurd a (by decide)
  | false =>
   rw [hi,cond_false] at e
   rcases hr:decG c (fds t.toNat) s { zeroM with ty:=t } with ⟨e0,m1,r⟩
   rw [hr] at e
   simp only [endM] at e
   cases hd:decide (e0=0) with
   | false =>
    rw [hd,cond_false] at e
    injection e with _ a
    exact absurd a (of_decide_eq_false hd)
   | true =>
    rw [hd,cond_true] at e
    have hd':=of_decide_eq_true hd
    subst hd'
    cases r with
    | cons y r =>
     injection e with _ a
     exact absurd a (by decide)
    | nil =>
     injection e with a _
     subst a
     obtain ⟨b1,b2,b3,b4⟩:=decG_back h hu (fds t.toNat) _ m1 s [] (hnd t) (fun _=>⟨rfl,rfl⟩) hr
     have ht:m1.ty=t:=b3
     rw [ht]
     refine ⟨hi,b2,fun f hf => ?_,?_⟩
     ·have:=b4 f hf
      cases f <;> exact this
     ·unfold enc
      rw [ht,b1,List.append_nil]
end
end Go.Msg
