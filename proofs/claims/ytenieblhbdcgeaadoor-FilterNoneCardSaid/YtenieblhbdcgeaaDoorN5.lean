/- Texts Eng25, Eng26, Eng23, Eng27, Eng24, Eng28, Eng30, Eng31, Eng38, Eng39, Eng40, Eng41, Eng48, Eng60, Eng71, Eng20, Eng29, Fl0, FlJ: what they show that this claim uses. -/
import Derived.Test.YtenieblhbdcgeaaDoorN4
import Derived.WalkKit
import Derived.ProofKit
import Derived.OpenShut
import Derived.ShutString
import Derived.ChangeSame
import Derived.Deep.Slices
import Derived.WideKeyArgs
import Derived.Test.YtenieblhbdcgeaaDoorProg
import Derived.Test.YtenieblhbdcgeaaDoorRows
import Derived.LaidMore
import Derived.Stop.Joined
set_option maxRecDepth 100000
set_option maxHeartbeats 1000000
set_option linter.unusedVariables false
set_option linter.unusedSimpArgs false
namespace Go.Eng
open Go
def posN (n:Nat):List Nat→Nat→Option Nat
 | [],_=>none
 | k::l,i=>cond (Nat.beq k n) (some i) (posN n l (i+1))
theorem posN_get {n:Nat}:∀ {l:List Nat}{i j:Nat},posN n l i=some j→i≤j∧l[j - i]? = some n
 | [],i,j,h=>by cases h
 | k::l,i,j,h=>by
  simp only [posN] at h
  rcases beq_cases k n with ⟨he,hb⟩ | ⟨he,hb⟩ <;> rw [hb] at h <;> simp only [cond_true,cond_false] at h
  ·cases h; subst he; simp
  ·obtain ⟨h1,h2⟩:=posN_get h
   refine ⟨by omega,?_⟩
   rw [show j - i=(j - (i+1))+1 by omega]
   simpa using h2
def sigC (G:Nat) (ns:List Nat) (σ:Sig):Sig:=fun m=>if m < G then σ m else match ns[m - G]? with
 | some n=>σ n
 | none=>none
theorem sigC_at {G:Nat}{ns:List Nat}{σ:Sig}{i n:Nat}(h:ns[i]? = some n):sigC G ns σ (G+i)=σ n:=by
 unfold sigC
 rw [if_neg (by omega),show G+i - G=i by omega,h]
def globA (η:Nat→Option AObj):Nat→Nat→HL
 | 0,_=>[]
 | k+1,i=>match η i with
  | some (.cells true c)=>cond (ltL 0 c) ((i,.cells true c)::globA η k (i+1)) (globA η k (i+1))
  | _=>globA η k (i+1)
def nodupB:List Nat→Bool
 | []=>true
 | n::l=>cond (l.all fun k => !Nat.beq n k) (nodupB l) false
theorem nodupB_ok:∀ {l:List Nat},nodupB l=true→l.Nodup
 | [],_=>List.nodup_nil
 | n::l,h=>by
  simp only [nodupB] at h
  cases hb:(l.all fun k => !Nat.beq n k) <;> rw [hb] at h <;> simp only [cond_true,cond_false] at h
  ·cases h
  ·refine List.nodup_cons.2 ⟨fun hm => ?_,nodupB_ok h⟩
   have:=List.all_eq_true.1 hb n hm
   simp at this
theorem globA_get {η:Nat→Option AObj}:∀ {k i:Nat} m o,aget (globA η k i) m=some o→i≤m∧m < i+k∧η m=some o∧∃ c,o=.cells true c∧ltL 0 c=true
 | 0,i,m,o,hm=>by simp [globA,aget] at hm
 | k+1,i,m,o,hm=>by
  have rest:aget (globA η k (i+1)) m=some o→i≤m∧m < i+(k+1)∧η m=some o∧∃ c,o=.cells true c∧ltL 0 c=true:=fun h=>by
   obtain ⟨a1,a2,a3⟩:=globA_get m o h
   exact ⟨by omega,by omega,a3⟩
  simp only [globA] at hm
  split at hm
  ·rename_i c hc
   cases hl:ltL 0 c <;> rw [hl] at hm <;> simp only [cond_true,cond_false] at hm
   ·exact rest hm
   ·simp only [aget] at hm
    rcases beq_cases i m with ⟨he,hb⟩ | ⟨he,hb⟩ <;> rw [hb] at hm <;> simp only [cond_true,cond_false] at hm
    ·cases hm; subst he
     exact ⟨Nat.le_refl i,by omega,hc,c,rfl,hl⟩
    ·exact rest hm
  ·exact rest hm
end Go.Eng
namespace Go.Eng
open Go
inductive RN (ρ:Nat→Nat→Prop):AVal→AVal→Prop where
 | same {v:AVal} (h:ltV 0 v=true):RN ρ v v
 | ptr {k n off:Nat} (h:ρ k n):RN ρ (.ptr k off) (.ptr n off)
 | slice {k n off len esz:Nat} (h:ρ k n):RN ρ (.slice k off len esz) (.slice n off len esz)
 | map {k n:Nat} (h:ρ k n):RN ρ (.map k) (.map n)
 | fn {f:FuncId} {c c':List AVal} (hs:c.length=c'.length) (h:∀ (i:Nat) v v',c[i]? = some v→c'[i]? = some v'→RN ρ v v'):RN ρ (.fn f c) (.fn f c')
 | iface {t:TypeId} {v v':AVal} (h:RN ρ v v'):RN ρ (.iface t v) (.iface t v')
 | agg {c c':List AVal} (hs:c.length=c'.length) (h:∀ (i:Nat) v v',c[i]? = some v→c'[i]? = some v'→RN ρ v v'):RN ρ (.agg c) (.agg c')
 | tup {c c':List AVal} (hs:c.length=c'.length) (h:∀ (i:Nat) v v',c[i]? = some v→c'[i]? = some v'→RN ρ v v'):RN ρ (.tup c) (.tup c')
 | tp {k n:Nat} {t:TypeId} {b:Bool} (h:ρ k n):RN ρ (.tp k t b) (.tp n t b)
 | mth {f:FuncId} {k n off:Nat} (h:ρ k n):RN ρ (.mth f k off) (.mth f n off)
def RL (ρ:Nat→Nat→Prop) (c c':List AVal):Prop:=c.length=c'.length∧∀ (i:Nat) v v',c[i]? = some v→c'[i]? = some v'→RN ρ v v'
theorem RL.nil (ρ:Nat→Nat→Prop):RL ρ [] []:=⟨rfl,fun i v v' h=>by simp at h⟩
theorem RL.cons {ρ:Nat→Nat→Prop}{v v':AVal}{c c':List AVal}(h:RN ρ v v') (hc:RL ρ c c'):RL ρ (v::c) (v'::c'):=by
 refine ⟨by simp [hc.1],fun i u u' h1 h2 => ?_⟩
 cases i with
 | zero=>simp at h1 h2; subst h1; subst h2; exact h
 | succ i=>exact hc.2 i u u' (by simpa using h1) (by simpa using h2)
theorem ltV_of_ltS48 {v:AVal}(h:ltS 0 v=true):ltV 0 v=true:=by
 cases v with
 | agg l=>cases l with
  | nil=>rfl
  | cons x l=>cases h
 | tup l=>cases l with
  | nil=>rfl
  | cons x l=>cases h
 | fn f l=>cases l with
  | nil=>rfl
  | cons x l=>cases h
 | iface t v=>cases h
 | _=>exact h
theorem partner {c c':List AVal}(hs:c.length=c'.length){i:Nat}{x:AVal}(h:c'[i]? = some x):∃ y,c[i]? = some y:=
 ⟨_,List.getElem?_eq_getElem (by rw [hs]; exact (List.getElem?_eq_some_iff.1 h).1)⟩
theorem RL.same {ρ:Nat→Nat→Prop}{c:List AVal}(h:ltL 0 c=true):RL ρ c c:=
 ⟨rfl,fun i v v' h1 h2=>by
  rw [h1] at h2
  cases h2
  exact .same (ltV_of_ltS48 (ltL_mem h v (List.mem_of_getElem? h1)))⟩
theorem RN.aggL {ρ:Nat→Nat→Prop}{c c':List AVal}(h:RL ρ c c'):RN ρ (.agg c) (.agg c'):=.agg h.1 h.2
theorem RN.tupL {ρ:Nat→Nat→Prop}{c c':List AVal}(h:RL ρ c c'):RN ρ (.tup c) (.tup c'):=.tup h.1 h.2
theorem RN.fnL {ρ:Nat→Nat→Prop}{f:FuncId}{c c':List AVal}(h:RL ρ c c'):RN ρ (.fn f c) (.fn f c'):=.fn h.1 h.2
def Keeps2 (ρ:Nat→Nat→Prop) (σ σ':Sig):Prop:=∀ k n,ρ k n→∀ p,σ k=some p→σ' n=some p
theorem RN.vr {ρ:Nat→Nat→Prop}{σ σ':Sig}(hk:Keeps2 ρ σ σ'){c a:AVal}(h:RN ρ c a):∀ {v:Value},VR σ c v→VR σ' a v:=by
 induction h with
 | same h=>intro v hv; exact (ltV_ok h hv).mono fun n p hp=>by simp [cut] at hp
 | ptr h=>intro v hv; cases hv with | ptr hp=>exact .ptr (hk _ _ h _ hp)
 | slice h=>intro v hv; cases hv with | slice hp a b c=>exact .slice (hk _ _ h _ hp) a b c
 | map h=>intro v hv; cases hv with | map hp=>exact .map (hk _ _ h _ hp)
 | mth h=>intro v hv; cases hv with | mth hp=>exact .mth (hk _ _ h _ hp)
 | tp h =>
  intro v hv
  cases hv with
  | tp0 hp a b c=>exact .tp0 (hk _ _ h _ hp) a b c
  | tp1 hp a b c=>exact .tp1 (hk _ _ h _ hp) a b c
 | fn hs h ih =>
  intro v hv
  cases hv with
  | fn a b =>
   refine .fn (hs ▸ a) fun i x x' h1 h2 => ?_
   obtain ⟨y,hy⟩:=partner hs h1
   exact ih i y x hy h1 (b i y x' hy h2)
 | iface h ih=>intro v hv; cases hv with | iface hp=>exact .iface (ih hp)
 | agg hs h ih =>
  intro v hv
  cases hv with
  | agg a b =>
   refine .agg (hs ▸ a) fun i x x' h1 h2 => ?_
   obtain ⟨y,hy⟩:=partner hs h1
   exact ih i y x hy h1 (b i y x' hy h2)
 | tup hs h ih =>
  intro v hv
  cases hv with
  | tup a b =>
   refine .tup (hs ▸ a) fun i x x' h1 h2 => ?_
   obtain ⟨y,hy⟩:=partner hs h1
   exact ih i y x hy h1 (b i y x' hy h2)
theorem RN.vr' {ρ:Nat→Nat→Prop}{σ σ':Sig}(hk:Keeps2 (fun k n=>ρ n k) σ σ'){c a:AVal}(h:RN ρ c a):∀ {v:Value},VR σ a v→VR σ' c v:=by
 induction h with
 | same h=>intro v hv; exact (ltV_ok h hv).mono fun n p hp=>by simp [cut] at hp
 | ptr h=>intro v hv; cases hv with | ptr hp=>exact .ptr (hk _ _ h _ hp)
 | slice h=>intro v hv; cases hv with | slice hp a b c=>exact .slice (hk _ _ h _ hp) a b c
 | map h=>intro v hv; cases hv with | map hp=>exact .map (hk _ _ h _ hp)
 | mth h=>intro v hv; cases hv with | mth hp=>exact .mth (hk _ _ h _ hp)
 | tp h =>
  intro v hv
  cases hv with
  | tp0 hp a b c=>exact .tp0 (hk _ _ h _ hp) a b c
  | tp1 hp a b c=>exact .tp1 (hk _ _ h _ hp) a b c
 | fn hs h ih =>
  intro v hv
  cases hv with
  | fn a b =>
   refine .fn (hs.symm ▸ a) fun i x x' h1 h2 => ?_
   obtain ⟨y,hy⟩:=partner hs.symm h1
   exact ih i x y h1 hy (b i y x' hy h2)
 | iface h ih=>intro v hv; cases hv with | iface hp=>exact .iface (ih hp)
 | agg hs h ih =>
  intro v hv
  cases hv with
  | agg a b =>
   refine .agg (hs.symm ▸ a) fun i x x' h1 h2 => ?_
   obtain ⟨y,hy⟩:=partner hs.symm h1
   exact ih i x y h1 hy (b i y x' hy h2)
 | tup hs h ih =>
  intro v hv
  cases hv with
  | tup a b =>
   refine .tup (hs.symm ▸ a) fun i x x' h1 h2 => ?_
   obtain ⟨y,hy⟩:=partner hs.symm h1
   exact ih i x y h1 hy (b i y x' hy h2)
def RO (ρ:Nat→Nat→Prop) (o o':AObj):Prop:=(∃ ro c c',o=.cells ro c∧o'=.cells ro c'∧RL ρ c c') ∨ ∃ c c',o=.mp c∧o'=.mp c'∧RL ρ c c'
theorem RO.orel {ρ:Nat→Nat→Prop}{σ σ':Sig}(hk:Keeps2 ρ σ σ'){o o':AObj}(h:RO ρ o o'){w:World}{p:Place}(ho:ORel σ w p o):ORel σ' w p o':=by
 rcases h with ⟨ro,c,c',rfl,rfl,hl⟩ | ⟨c,c',rfl,rfl,hl⟩
 ·obtain ⟨d,t,fz,h1,h2,h3,h4⟩:=ho
  refine ⟨d,t,fz,h1,h2,fun i v hv => ?_,h4⟩
  obtain ⟨y,hy⟩:∃ y,c[i]? = some y:=⟨_,List.getElem?_eq_getElem (by rw [hl.1]; exact (List.getElem?_eq_some_iff.1 hv).1)⟩
  obtain ⟨v',a,b⟩:=h3 i y hy
  exact ⟨v',a,(hl.2 i y v hy hv).vr hk b⟩
 ·obtain ⟨en,clk,h1,h2⟩:=ho
  refine ⟨en,clk,h1,by rw [← hl.1]; exact h2.1,fun i v v' hv hv' => ?_⟩
  obtain ⟨y,hy⟩:∃ y,c[i]? = some y:=⟨_,List.getElem?_eq_getElem (by rw [hl.1]; exact (List.getElem?_eq_some_iff.1 hv).1)⟩
  exact (hl.2 i y v hy hv).vr hk (h2.2 i y v' hy hv')
theorem RO.orel' {ρ:Nat→Nat→Prop}{σ σ':Sig}(hk:Keeps2 (fun k n=>ρ n k) σ σ'){o o':AObj}(h:RO ρ o o'){w:World}{p:Place}(ho:ORel σ w p o'):ORel σ' w p o:=by
 rcases h with ⟨ro,c,c',rfl,rfl,hl⟩ | ⟨c,c',rfl,rfl,hl⟩
 ·obtain ⟨d,t,fz,h1,h2,h3,h4⟩:=ho
  refine ⟨d,t,fz,h1,h2,fun i v hv => ?_,h4⟩
  obtain ⟨y,hy⟩:∃ y,c'[i]? = some y:=⟨_,List.getElem?_eq_getElem (by rw [← hl.1]; exact (List.getElem?_eq_some_iff.1 hv).1)⟩
  obtain ⟨v',a,b⟩:=h3 i y hy
  exact ⟨v',a,(hl.2 i v y hv hy).vr' hk b⟩
 ·obtain ⟨en,clk,h1,h2⟩:=ho
  refine ⟨en,clk,h1,by rw [hl.1]; exact h2.1,fun i v v' hv hv' => ?_⟩
  obtain ⟨y,hy⟩:∃ y,c'[i]? = some y:=⟨_,List.getElem?_eq_getElem (by rw [← hl.1]; exact (List.getElem?_eq_some_iff.1 hv).1)⟩
  exact (hl.2 i v y hv hy).vr' hk (h2.2 i y v' hy hv')
theorem RO.ro {ρ:Nat→Nat→Prop}{o o':AObj}(h:RO ρ o o'):o.ro=o'.ro:=by
 rcases h with ⟨ro,c,c',rfl,rfl,_⟩ | ⟨c,c',rfl,rfl,_⟩ <;> rfl
theorem appU_at:∀ {us:List (Nat × Option AObj)}{H:HL}{m:Nat},(us.map (·.1)).Nodup→(∃ x,(m,x) ∈ us∧aget (appU H us) m=x) ∨ ((∀ x,(m,x) ∉ us)∧aget (appU H us) m=aget H m)
 | [],H,m,_=>.inr ⟨fun x h=>(by cases h),rfl⟩
 | (k,x)::us,H,m,hn=>by
  simp only [List.map_cons,List.nodup_cons] at hn
  have hstep:∀ H1:HL,(aget H1 k=x)→(∀ j,j ≠ k→aget H1 j=aget H j)→appU H ((k,x)::us)=appU H1 us→(∃ x',(m,x') ∈ (k,x)::us∧aget (appU H ((k,x)::us)) m=x') ∨ ((∀ x',(m,x') ∉ (k,x)::us)∧aget (appU H ((k,x)::us)) m=aget H m):=fun H1 e1 e2 e3=>by
   rw [e3]
   rcases appU_at (us:=us) (H:=H1) (m:=m) hn.2 with ⟨x',h1,h2⟩ | ⟨h1,h2⟩
   ·exact .inl ⟨x',List.mem_cons_of_mem _ h1,h2⟩
   ·by_cases c:m=k
    ·subst c
     exact .inl ⟨x,List.mem_cons_self ..,by rw [h2,e1]⟩
    ·refine .inr ⟨fun x' h => ?_,by rw [h2,e2 m c]⟩
     rcases List.mem_cons.1 h with h | h
     ·cases h; exact c rfl
     ·exact h1 x' h
  cases x with
  | some o=>exact hstep (aset H k o) (by rw [aget_aset_fun,upd_same]) (fun j hj=>by rw [aget_aset_fun,upd_other _ _ (Ne.symm hj)]) rfl
  | none=>exact hstep (adel H k) (by rw [aget_adel,if_pos rfl]) (fun j hj=>by rw [aget_adel,if_neg (Ne.symm hj)]) rfl
def ρ0 (G:Nat) (ns:List Nat) (k n:Nat):Prop:=(k < G∧n=k) ∨ ∃ i,k=G+i∧ns[i]? = some n
def ρ1 (G:Nat) (ns ks:List Nat) (base:Nat) (k n:Nat):Prop:=ρ0 G ns k n ∨ ∃ j,ks[j]? = some k∧n=base+j
def Known (η:Nat→Option AObj) (args:List AVal) (n:Nat):Prop:=(∃ o,η n=some o) ∨ (∃ (m:Nat) (fz:Bool) (c:List AVal) (i:Nat),η m=some (.cells fz c)∧((∃ off len esz,c[i]? = some (AVal.slice n off len esz)) ∨ ∃ off,c[i]? = some (AVal.ptr n off))) ∨ (∃ (i:Nat) (off:Nat),args[i]? = some (AVal.ptr n off)) ∨ ∃ (i off len esz:Nat),args[i]? = some (AVal.slice n off len esz)
structure Deep (P:Program) (cs:CS) (f:FuncId) (args:List AVal) (base:Nat) (η:Nat→Option AObj) (v:AVal) (us:List (Nat × Option AObj)) where
 nn:Nat
 F:Nat
 ns:List Nat
 ks:List Nat
 cargs:List AVal
 Hc:HL
 fr:Nat
 v0:AVal
 H':HL
 fr':Nat
 hns:ns.Nodup
 hη:∀ n,n ∈ ns→Known η args n
 hargs:RL (ρ0 P.globals.size ns) cargs args
 hblk:∀ k o,aget Hc k=some o→∃ n o',ρ0 P.globals.size ns k n∧η n=some o'∧RO (ρ0 P.globals.size ns) o o'∧(k < P.globals.size→o.ro=true)
 hfr:P.globals.size+ns.length≤fr
 hrun:run1 P cs nn F f cargs Hc fr=some (v0,H',fr')
 hks:ks.Nodup
 hks8:ks.length≤8
 hkfr:∀ k,k ∈ ks→fr≤k
 hv:RN (ρ1 P.globals.size ns ks base) v0 v
 hnd:(us.map (·.1)).Nodup
 hus:∀ m x,(m,x) ∈ us→(∃ i,ns[i]? = some m∧(x=none ∨ ∃ o o',x=some o'∧aget H' (P.globals.size+i)=some o∧o.ro=false∧RO (ρ1 P.globals.size ns ks base) o o')) ∨
  ∃ j k o o',m=base+j∧ks[j]? = some k∧x=some o'∧aget H' k=some o∧o.ro=false∧RO (ρ1 P.globals.size ns ks base) o o'
 hall:∀ i n o,ns[i]? = some n→aget Hc (P.globals.size+i)=some o→o.ro=false→∃ x,(n,x) ∈ us
theorem inj_of_nodup {l:List Nat}(h:l.Nodup){i j n:Nat}(hi:l[i]? = some n) (hj:l[j]? = some n):i=j:=by
 obtain ⟨a,ea⟩:=List.getElem?_eq_some_iff.1 hi
 obtain ⟨b,eb⟩:=List.getElem?_eq_some_iff.1 hj
 exact (List.getElem_inj h).1 (ea.trans eb.symm)
theorem callOk_deep {P:Program}{cs:CS}(hcs:CSOk P cs) (hm:P.follows .mixedOrders=true){f:FuncId}{args:List AVal}{K:Nat→(Nat→Option AObj)→Option (AVal × List (Nat × Option AObj))}
  (h:∀ base η v us,K base η=some (v,us)→Nonempty (Deep P cs f args base η v us)):CallOk P f args (.eff K):=by
 intro σ args' H w base v H0 hl hg hH happ hfree
 simp only [EffA.app] at happ
 cases hK:K base (aget H) with
 | none=>rw [hK] at happ; cases happ
 | some r =>
 obtain ⟨v1,us⟩:=r
 rw [hK] at happ
 simp only [Option.some.injEq,Prod.mk.injEq] at happ
 obtain ⟨rfl,rfl⟩:=happ
 obtain ⟨D⟩:=h base (aget H) v1 us hK
 obtain ⟨nn,F,ns,ks,cargs,Hc,fr,v0,H',fr',hns,hη,hargs,hblk,hfr,hrun,hks,hks8,hkfr,hv,hnd,hus,hall⟩:=D
 obtain ⟨fn,body,hf,hb,hrunF⟩:=run1_some hrun
 obtain ⟨G,hG⟩:∃ G,G=P.globals.size:=⟨_,rfl⟩
 rw [← hG] at hargs hblk hfr hv hus hall
 -- the callee's names
 obtain ⟨σc,hσc⟩:∃ σc,σc=sigC G ns σ:=⟨_,rfl⟩
 have c1:∀ k,k < G→σc k=σ k:=fun k hk=>by rw [hσc]; unfold sigC; rw [if_pos hk]
 have c2:∀ i n,ns[i]? = some n→σc (G+i)=σ n:=fun i n hi=>by rw [hσc]; exact sigC_at hi
 have hin:Keeps2 (fun n k=>ρ0 G ns k n) σ σc:=fun n k hk p hp=>by
  rcases hk with ⟨a,rfl⟩ | ⟨i,rfl,hi⟩
  ·rw [c1 _ a]; exact hp
  ·rw [c2 i n hi]; exact hp
 have hgc:GRel P σc:=fun g hgl=>by
  obtain ⟨sz,hs⟩:=hg g hgl
  exact ⟨sz,by rw [c1 g (by omega)]; exact hs⟩
 have hfrc:Fresh σc fr:=fun m hm'=>by
  rw [hσc]
  unfold sigC
  rw [if_neg (by omega),List.getElem?_eq_none (by omega)]
 have hlc:LR σc cargs args':=⟨hargs.1.trans hl.1,fun i u u' h1 h2=>by
  obtain ⟨y,hy⟩:=partner hargs.1.symm h1
  exact (hargs.2 i u y h1 hy).vr' hin (hl.2 i y u' hy h2)⟩
 have hdef:∀ n,n ∈ ns→∃ p,σ n=some p:=fun n hn=>by
  rcases hη n hn with ⟨o,ho⟩ | ⟨m,fz,c,i,ho,hc⟩ | ⟨i,off,ha⟩ | ⟨i,off,len,esz,ha⟩
  ·obtain ⟨p,hp,_⟩:=hH.obj n o ho
   exact ⟨p,hp⟩
  ·obtain ⟨p,hp,d,t,fz,h1,h2,h3,h4⟩:=hH.obj m _ ho
   rcases hc with ⟨off,len,esz,hc⟩ | ⟨off,hc⟩
   ·obtain ⟨v',a,b⟩:=h3 i _ hc
    cases b with
    | slice hs=>exact ⟨_,hs⟩
   ·obtain ⟨v',a,b⟩:=h3 i _ hc
    cases b with
    | ptr hs=>exact ⟨_,hs⟩
  ·obtain ⟨v',hv'⟩:∃ v',args'[i]? = some v':=⟨_,Array.getElem?_eq_getElem (by rw [← hl.1]; exact (List.getElem?_eq_some_iff.1 ha).1)⟩
   cases hl.2 i _ v' ha hv' with
   | ptr hs=>exact ⟨_,hs⟩
  ·obtain ⟨v',hv'⟩:∃ v',args'[i]? = some v':=⟨_,Array.getElem?_eq_getElem (by rw [← hl.1]; exact (List.getElem?_eq_some_iff.1 ha).1)⟩
   cases hl.2 i _ v' ha hv' with
   | slice hs=>exact ⟨_,hs⟩
 have hHc:HRel σc (aget Hc) w:=by
  refine ⟨fun k o hk => ?_,fun k k' o o' q q' h1 h2 hq hq' he => ?_⟩
  ·obtain ⟨n,o',hr0,ho',hro,_⟩:=hblk k o hk
   obtain ⟨p,hp,hor⟩:=hH.obj n o' ho'
   exact ⟨p,hin n k hr0 p hp,hro.orel' hin hor⟩
  ·obtain ⟨n,u,r1,hu,hro,t1⟩:=hblk k o h1
   obtain ⟨n',u',r2,hu',hro',t2⟩:=hblk k' o' h2
   obtain ⟨p,hp,_⟩:=hH.obj n u hu
   obtain ⟨p',hp',_⟩:=hH.obj n' u' hu'
   have ep:q=p:=by have:=hin n k r1 p hp; rw [hq] at this; exact Option.some.inj this
   have ep':q'=p':=by have:=hin n' k' r2 p' hp'; rw [hq'] at this; exact Option.some.inj this
   subst ep ep'
   rcases hH.inj n n' u u' q q' hu hu' hp hp' he with e | ⟨e1,e2⟩
   ·subst e
    rw [hu] at hu'
    cases hu'
    have both:o.ro=o'.ro:=hro.ro.trans hro'.ro.symm
    rcases r1 with ⟨a1,b1⟩ | ⟨i,b1,hi⟩ <;> rcases r2 with ⟨a2,b2⟩ | ⟨i',b2,hi'⟩
    ·exact .inl (b1.symm.trans b2)
    ·have:=t1 a1
     exact .inr ⟨this,both ▸ this⟩
    ·have:=t2 a2
     exact .inr ⟨both.trans this,this⟩
    ·subst b1 b2
     exact .inl (by rw [inj_of_nodup hns hi hi'])
   ·exact .inr ⟨by rw [hro.ro]; exact e1,by rw [hro'.ro]; exact e2⟩
 refine (runF_ok hcs hm hf hb hrunF hlc hHc hgc hfrc).mono fun r w' hrw => ?_
 obtain ⟨σ',v',rfl,g1,g2,g3,g4⟩:=hrw
 -- the caller's names behind the call
 obtain ⟨σ2,hσ2⟩:∃ σ2:Sig,σ2=fun m=>if base≤m∧m < base+8 then (match ks[m - base]? with | some k=>σ' k | none=>none) else σ m:=⟨_,rfl⟩
 have s1:∀ j k,ks[j]? = some k→σ2 (base+j)=σ' k:=fun j k hj=>by
  have:j < ks.length:=(List.getElem?_eq_some_iff.1 hj).1
  rw [hσ2]
  show (if base≤base+j∧base+j < base+8 then _ else _)=_
  rw [if_pos (by omega),Nat.add_sub_cancel_left,hj]
 have s2:∀ m,(m < base ∨ base+8≤m)→σ2 m=σ m:=fun m hm'=>by
  rw [hσ2]
  show (if base≤m∧m < base+8 then _ else _)=_
  rw [if_neg (by omega)]
 have hfr0:∀ m p,σ m=some p→m < base ∨ base+8≤m:=fun m p hp=>by
  by_cases c:base≤m∧m < base+8
  ·have:=hfree (m - base) (by omega)
   rw [show base+(m - base)=m by omega,hp] at this
   cases this
  ·omega
 have s3:∀ m p,σ m=some p→σ2 m=some p:=fun m p hp=>by rw [s2 m (hfr0 m p hp)]; exact hp
 have hout0:∀ k n,ρ0 G ns k n→σ' k=σ2 n:=fun k n hk=>by
  rcases hk with ⟨a,rfl⟩ | ⟨i,rfl,hi⟩
  ·obtain ⟨sz,hs⟩:=hg n (by omega)
   rw [s3 _ _ hs]
   exact g3.ext _ _ (by rw [c1 _ a]; exact hs)
  ·obtain ⟨p,hp⟩:=hdef n (List.mem_of_getElem? hi)
   rw [s3 _ _ hp]
   exact g3.ext _ _ (by rw [c2 i n hi]; exact hp)
 have hout:Keeps2 (ρ1 G ns ks base) σ' σ2:=fun k n hk p hp=>by
  rcases hk with hk | ⟨j,hj,rfl⟩
  ·rw [← hout0 k n hk]; exact hp
  ·rw [s1 j k hj]; exact hp
 -- what the callee may write,the caller may
 have hown:∀ b,Own σc (aget Hc) b→∃ i n o p,ns[i]? = some n∧(∃ x,(n,x) ∈ us)∧aget H n=some o∧o.ro=false∧σ n=some p∧p.blk=b:=fun b ⟨k,o,p,a1,a2,a3,a4⟩=>by
  obtain ⟨n,o',hr0,ho',hro,ht⟩:=hblk k o a1
  rcases hr0 with ⟨hk,_⟩ | ⟨i,rfl,hi⟩
  ·rw [ht hk] at a2
   cases a2
  ·rw [c2 i n hi] at a3
   exact ⟨i,n,o',p,hi,hall i n o hi a1 a2,ho',by rw [← hro.ro]; exact a2,a3,a4⟩
 have hnot:∀ m o p,aget H m=some o→σ m=some p→(∀ x,(m,x) ∉ us) → ¬ Own σc (aget Hc) p.blk:=fun m o p hm' hp hno ho=>by
  obtain ⟨i,n,o',p',a1,⟨x,a2⟩,a3,a4,a5,a6⟩:=hown _ ho
  rcases hH.inj m n o o' p p' hm' a3 hp a5 a6.symm with e | ⟨_,e⟩
  ·subst e; exact hno x a2
  ·rw [a4] at e; cases e
 -- the blocks behind the call
 have key:∀ m x,(m,some x) ∈ us→∃ k o p,aget H' k=some o∧o.ro=false∧x.ro=false∧σ' k=some p∧σ2 m=some p∧RO (ρ1 G ns ks base) o x∧ρ1 G ns ks base k m:=fun m x hx=>by
  rcases hus m _ hx with ⟨i,hi,h1⟩ | ⟨j,k,o,o',rfl,hj,e,a1,a2,a3⟩
  ·rcases h1 with h1 | ⟨o,o',e,a1,a2,a3⟩
   ·cases h1
   ·cases e
    obtain ⟨p,hp,_⟩:=g2.obj _ o a1
    have h0:ρ0 G ns (G+i) m:=.inr ⟨i,rfl,hi⟩
    exact ⟨_,o,p,a1,a2,by rw [← a3.ro]; exact a2,hp,by rw [← hout0 _ _ h0]; exact hp,a3,.inl h0⟩
  ·cases e
   obtain ⟨p,hp,_⟩:=g2.obj _ o a1
   exact ⟨k,o,p,a1,a2,by rw [← a3.ro]; exact a2,hp,by rw [s1 j k hj]; exact hp,a3,.inr ⟨j,hj,rfl⟩⟩
 have parts:∀ m o,aget (appU H us) m=some o→((m,some o) ∈ us) ∨ ((∀ x,(m,x) ∉ us)∧aget H m=some o):=fun m o hm'=>by
  rcases appU_at (H:=H) (m:=m) hnd with ⟨x,a,b⟩ | ⟨a,b⟩
  ·rw [b] at hm'; subst hm'; exact .inl a
  ·rw [b] at hm'; exact .inr ⟨a,hm'⟩
 have names:∀ m x,(m,some x) ∈ us→∃ k o p,aget H' k=some o∧o.ro=false∧σ' k=some p∧σ2 m=some p∧((∃ i,k=G+i∧ns[i]? = some m) ∨ ∃ j,ks[j]? = some k∧m=base+j):=fun m x hx=>by
  rcases hus m _ hx with ⟨i,hi,h1⟩ | ⟨j,k,o,o',rfl,hj,e,a1,a2,a3⟩
  ·rcases h1 with h1 | ⟨o,o',e,a1,a2,a3⟩
   ·cases h1
   ·cases e
    obtain ⟨p,hp,_⟩:=g2.obj _ o a1
    have h0:ρ0 G ns (G+i) m:=.inr ⟨i,rfl,hi⟩
    exact ⟨_,o,p,a1,a2,hp,by rw [← hout0 _ _ h0]; exact hp,.inl ⟨i,rfl,hi⟩⟩
  ·obtain ⟨p,hp,_⟩:=g2.obj _ o a1
   exact ⟨k,o,p,a1,a2,hp,by rw [s1 j k hj]; exact hp,.inr ⟨j,hj,rfl⟩⟩
 have final:HRel σ2 (aget (appU H us)) w':=by
  refine ⟨fun m o hm' => ?_,fun m m' o o' q q' h1 h2 hq hq' he => ?_⟩
  ·rcases parts m o hm' with hx | ⟨hno,ho⟩
   ·obtain ⟨k,u,p,a1,a2,a3,a4,a5,a6,a7⟩:=key m o hx
    obtain ⟨p',hp',hor⟩:=g2.obj k u a1
    rw [a4] at hp'
    cases hp'
    exact ⟨p,a5,a6.orel hout hor⟩
   ·obtain ⟨p,hp,hor⟩:=hH.obj m o ho
    have hsame:=(g3.old p.blk hor.lt (hnot m o p ho hp hno)).1
    exact ⟨p,s3 m p hp,hor.mono (fun n q hq=>s3 n q hq) hsame⟩
  ·rcases parts m o h1 with hx | ⟨hno,ho⟩ <;> rcases parts m' o' h2 with hx' | ⟨hno',ho'⟩
   ·obtain ⟨k,u,p,a1,a2,a4,a5,a7⟩:=names m o hx
    obtain ⟨k',u',p',b1,b2,b4,b5,b7⟩:=names m' o' hx'
    have eq1:=Option.some.inj (a5.symm.trans hq)
    subst eq1
    have eq2:=Option.some.inj (b5.symm.trans hq')
    subst eq2
    rcases g2.inj k k' u u' p p' a1 b1 a4 b4 he with e | ⟨e,_⟩
    ·subst e
     left
     rcases a7 with ⟨i,e1,i1⟩ | ⟨j,j1,rfl⟩ <;> rcases b7 with ⟨i',e1',i1'⟩ | ⟨j',j1',rfl⟩
     ·have:i=i':=by omega
      subst this
      rw [i1] at i1'
      cases i1'; rfl
     ·have h3:=hkfr k (List.mem_of_getElem? j1')
      have h4:=(List.getElem?_eq_some_iff.1 i1).1
      omega
     ·have h3:=hkfr k (List.mem_of_getElem? j1)
      have h4:=(List.getElem?_eq_some_iff.1 i1').1
      omega
     ·rw [inj_of_nodup hks j1 j1']
    ·rw [a2] at e; cases e
   ·obtain ⟨k,u,p,a1,a2,a4,a5,a7⟩:=names m o hx
    have eq1:=Option.some.inj (a5.symm.trans hq)
    subst eq1
    obtain ⟨p',hp',hor⟩:=hH.obj m' o' ho'
    have eq2:=Option.some.inj ((s3 m' p' hp').symm.trans hq')
    subst eq2
    exact absurd ⟨k,u,p,a1,a2,a4,he⟩ (g3.old p'.blk hor.lt (hnot m' o' p' ho' hp' hno')).2
   ·obtain ⟨k,u,p,a1,a2,a4,a5,a7⟩:=names m' o' hx'
    have eq1:=Option.some.inj (a5.symm.trans hq')
    subst eq1
    obtain ⟨p',hp',hor⟩:=hH.obj m o ho
    have eq2:=Option.some.inj ((s3 m p' hp').symm.trans hq)
    subst eq2
    exact absurd ⟨k,u,p,a1,a2,a4,he.symm⟩ (g3.old p'.blk hor.lt (hnot m o p' ho hp' hno)).2
   ·obtain ⟨p,hp,_⟩:=hH.obj m o ho
    obtain ⟨p',hp',_⟩:=hH.obj m' o' ho'
    have eq1:=Option.some.inj ((s3 m p hp).symm.trans hq)
    have eq2:=Option.some.inj ((s3 m' p' hp').symm.trans hq')
    subst eq1
    subst eq2
    exact hH.inj m m' o o' p p' ho ho' hp hp' he
 have hown2:∀ b,¬ Own σ (aget H) b → ¬ Own σc (aget Hc) b:=fun b hb ho=>by
  obtain ⟨i,n,o,p,a1,a2,a3,a4,a5,a6⟩:=hown b ho
  exact hb ⟨n,o,p,a3,a4,a5,a6⟩
 refine ⟨σ2,v',rfl,hv.vr hout g1,final,⟨fun n p hp=>s3 n p hp,g3.size,g3.os,g3.output,g3.tape,fun b hb hno => ?_⟩,fun n hn=>s2 n hn⟩
 obtain ⟨e1,e2⟩:=g3.old b hb (hown2 b hno)
 refine ⟨e1,fun ⟨m,o,p,a1,a2,a3,a4⟩ => ?_⟩
 rcases parts m o a1 with hx | ⟨hno',ho⟩
 ·obtain ⟨k,u,q,b1,b2,b4,b5,_⟩:=names m o hx
  have eq1:=Option.some.inj (b5.symm.trans a3)
  subst eq1
  exact e2 ⟨k,u,q,b1,b2,b4,a4⟩
 ·obtain ⟨q,hq,_⟩:=hH.obj m o ho
  have eq1:=Option.some.inj ((s3 m q hq).symm.trans a3)
  subst eq1
  exact hno ⟨m,o,q,ho,a2,hq,a4⟩
end Go.Eng
namespace Go.Eng
open Go
theorem posN0 {n i:Nat}{ns:List Nat}(h:posN n ns 0=some i):ns[i]? = some n:=by
 have:=(posN_get h).2
 simpa using this
def addN:List Nat→List Nat→List Nat
 | seen,[]=>seen
 | seen,n::l=>addN (cond (seen.any (Nat.beq n)) seen (seen++[n])) l
end Go.Eng
namespace Go.Eng
open Go
def rnL (h:AVal→Option AVal):List AVal→Option (List AVal)
 | []=>some []
 | v::l=>match h v,rnL h l with
  | some a,some b=>some (a::b)
  | _,_=>none
def rnV (g:Nat→Option Nat):Nat→AVal→Option AVal
 | 0,v=>cond (ltV 0 v) (some v) none
 | d+1,v=>match v with
  | .ptr n off=>match g n with
   | some m=>some (.ptr m off)
   | none=>none
  | .slice n off len esz=>match g n with
   | some m=>some (.slice m off len esz)
   | none=>none
  | .map n=>match g n with
   | some m=>some (.map m)
   | none=>none
  | .mth f n off=>match g n with
   | some m=>some (.mth f m off)
   | none=>none
  | .fn f c=>match rnL (rnV g d) c with
   | some c=>some (.fn f c)
   | none=>none
  | .agg c=>match rnL (rnV g d) c with
   | some c=>some (.agg c)
   | none=>none
  | .tup c=>match rnL (rnV g d) c with
   | some c=>some (.tup c)
   | none=>none
  | .iface t v=>match rnV g d v with
   | some v=>some (.iface t v)
   | none=>none
  | v=>cond (ltV 0 v) (some v) none
theorem rnL_ok {h:AVal→Option AVal}{ρ:Nat→Nat→Prop}(hh:∀ v v',h v=some v'→RN ρ v v'):∀ {l l':List AVal},rnL h l=some l'→RL ρ l l'
 | [],l',e=>by cases e; exact RL.nil _
 | v::l,l',e=>by
  simp only [rnL] at e
  split at e
  ·rename_i a b h1 h2
   cases e
   exact RL.cons (hh v a h1) (rnL_ok hh h2)
  ·cases e
theorem rnV_ok {g:Nat→Option Nat}{ρ:Nat→Nat→Prop}(hg:∀ n m,g n=some m→ρ n m):∀ (d:Nat) (v v':AVal),rnV g d v=some v'→RN ρ v v'
 | 0,v,v',e=>by
  simp only [rnV] at e
  cases hb:ltV 0 v <;> rw [hb] at e
  ·cases e
  ·cases e
   exact .same hb
 | d+1,v,v',e=>by
  have ih:=rnV_ok hg d
  simp only [rnV] at e
  split at e
  ·split at e
   ·rename_i m hm; cases e; exact .ptr (hg _ _ hm)
   ·cases e
  ·split at e
   ·rename_i m hm; cases e; exact .slice (hg _ _ hm)
   ·cases e
  ·split at e
   ·rename_i m hm; cases e; exact .map (hg _ _ hm)
   ·cases e
  ·split at e
   ·rename_i m hm; cases e; exact .mth (hg _ _ hm)
   ·cases e
  ·split at e
   ·rename_i c hc; cases e; exact .fnL (rnL_ok ih hc)
   ·cases e
  ·split at e
   ·rename_i c hc; cases e; exact .aggL (rnL_ok ih hc)
   ·cases e
  ·split at e
   ·rename_i c hc; cases e; exact .tupL (rnL_ok ih hc)
   ·cases e
  ·split at e
   ·rename_i c hc; cases e; exact .iface (ih _ _ hc)
   ·cases e
  ·cases hb:ltV 0 v <;> rw [hb] at e
   ·cases e
   ·cases e
    exact .same hb
theorem RN.flip {ρ:Nat→Nat→Prop}{v v':AVal}(h:RN ρ v v'):RN (fun a b=>ρ b a) v' v:=by
 induction h with
 | same h=>exact .same h
 | ptr h=>exact .ptr h
 | slice h=>exact .slice h
 | map h=>exact .map h
 | fn hs _ ih=>exact .fn hs.symm fun i v v' h1 h2=>ih i v' v h2 h1
 | iface _ ih=>exact .iface ih
 | agg hs _ ih=>exact .agg hs.symm fun i v v' h1 h2=>ih i v' v h2 h1
 | tup hs _ ih=>exact .tup hs.symm fun i v v' h1 h2=>ih i v' v h2 h1
 | tp h=>exact .tp h
 | mth h=>exact .mth h
theorem RL.flip {ρ:Nat→Nat→Prop}{l l':List AVal}(h:RL ρ l l'):RL (fun a b=>ρ b a) l' l:=⟨h.1.symm,fun i v v' h1 h2=>(h.2 i v' v h2 h1).flip⟩
def nmG:Nat→AVal→List Nat
 | 0,_=>[]
 | d+1,v=>match v with
  | .ptr n _=>[n]
  | .slice n _ _ _=>[n]
  | .map n=>[n]
  | .mth _ n _=>[n]
  | .fn _ c=>c.flatMap (nmG d)
  | .agg c=>c.flatMap (nmG d)
  | .tup c=>c.flatMap (nmG d)
  | .iface _ v=>nmG d v
  | _=>[]
def leadG (η:Nat→Option AObj) (n:Nat):List Nat:=match η n with
 | some (.cells _ c)=>c.flatMap (nmG 4)
 | some (.mp c)=>c.flatMap (nmG 4)
 | none=>[]
def reachG (η:Nat→Option AObj):Nat→List Nat→List Nat
 | 0,a=>a
 | k+1,a=>cond (Nat.beq (addN a (a.flatMap (leadG η))).length a.length) a (reachG η k (addN a (a.flatMap (leadG η))))
def inG (G:Nat) (ns:List Nat) (n:Nat):Option Nat:=cond (Nat.ble (n+1) G) (some n) (match posN n ns 0 with
 | some i=>some (G+i)
 | none=>none)
def outG (G fr base:Nat) (ns ks:List Nat) (k:Nat):Option Nat:=cond (Nat.ble (k+1) G) (some k) (cond (Nat.ble fr k) (match posN k ks 0 with
 | some j=>some (base+j)
 | none=>none) (ns[k - G]?))
theorem inG_ok {G:Nat}{ns:List Nat}{n k:Nat}(h:inG G ns n=some k):ρ0 G ns k n:=by
 unfold inG at h
 cases hb:Nat.ble (n+1) G <;> rw [hb] at h <;> simp only [cond_true,cond_false] at h
 ·split at h
  ·rename_i i hi
   cases h
   exact .inr ⟨i,rfl,posN0 hi⟩
  ·cases h
 ·cases h
  exact .inl ⟨Nat.le_of_ble_eq_true hb,rfl⟩
theorem outG_ok {G fr base:Nat}{ns ks:List Nat}{k n:Nat}(h:outG G fr base ns ks k=some n):ρ1 G ns ks base k n:=by
 unfold outG at h
 cases hb:Nat.ble (k+1) G <;> rw [hb] at h <;> simp only [cond_true,cond_false] at h
 ·have hk:G≤k:=by
   rcases Nat.lt_or_ge k G with h1 | h1
   ·rw [Nat.ble_eq_true_of_le h1] at hb; cases hb
   ·exact h1
  cases hf:Nat.ble fr k <;> rw [hf] at h <;> simp only [cond_true,cond_false] at h
  ·exact .inl (.inr ⟨k - G,by omega,h⟩)
  ·split at h
   ·rename_i j hj
    cases h
    exact .inr ⟨j,posN0 hj,rfl⟩
   ·cases h
 ·cases h
  exact .inl (.inl ⟨Nat.le_of_ble_eq_true hb,rfl⟩)
def rnO (h:AVal→Option AVal):AObj→Option AObj
 | .cells ro c=>match rnL h c with
  | some c'=>some (.cells ro c')
  | none=>none
 | .mp c=>match rnL h c with
  | some c'=>some (.mp c')
  | none=>none
theorem rnO_ok {h:AVal→Option AVal}{ρ:Nat→Nat→Prop}(hh:∀ v v',h v=some v'→RN ρ v v'){o o':AObj}(e:rnO h o=some o'):RO ρ o o':=by
 unfold rnO at e
 split at e
 ·split at e
  ·rename_i c' hc
   cases e
   exact .inl ⟨_,_,_,rfl,rfl,rnL_ok hh hc⟩
  ·cases e
 ·split at e
  ·rename_i c' hc
   cases e
   exact .inr ⟨_,_,rfl,rfl,rnL_ok hh hc⟩
  ·cases e
theorem RO.flip {ρ:Nat→Nat→Prop}{o o':AObj}(h:RO ρ o o'):RO (fun a b=>ρ b a) o' o:=by
 rcases h with ⟨ro,c,c',rfl,rfl,h⟩ | ⟨c,c',rfl,rfl,h⟩
 ·exact .inl ⟨ro,c',c,rfl,rfl,h.flip⟩
 ·exact .inr ⟨c',c,rfl,rfl,h.flip⟩
def blG (G:Nat) (h:AVal→Option AVal) (η:Nat→Option AObj):List Nat→Nat→Option HL
 | [],_=>some []
 | n::l,i=>match η n,blG G h η l (i+1) with
  | some o,some H=>match rnO h o with
   | some o'=>some ((G+i,o')::H)
   | none=>none
  | _,_=>none
theorem blG_ok {G:Nat}{h:AVal→Option AVal}{η:Nat→Option AObj}:∀ {l:List Nat}{i:Nat}{H:HL},blG G h η l i=some H →
  (∀ k o,aget H k=some o→∃ (j n:Nat) (o0:AObj),k=G+(i+j)∧l[j]? = some n∧η n=some o0∧rnO h o0=some o)∧∀ (j n:Nat),l[j]? = some n→∃ o,η n=some o
 | [],i,H,e=>by
  cases e
  exact ⟨(fun k o hk=>by cases hk),(fun j n hj=>by simp at hj)⟩
 | n::l,i,H,e=>by
  simp only [blG] at e
  split at e
  ·rename_i o H1 hn h1
   split at e
   ·rename_i o' ho
    cases e
    obtain ⟨a,b⟩:=blG_ok h1
    refine ⟨fun k o2 hk => ?_,fun j m hj => ?_⟩
    ·simp only [aget] at hk
     rcases beq_cases (G+i) k with ⟨e,hb⟩ | ⟨e,hb⟩ <;> rw [hb] at hk
     ·simp only [cond_true,Option.some.injEq] at hk
      subst hk
      exact ⟨0,n,o,by omega,rfl,hn,ho⟩
     ·simp only [cond_false] at hk
      obtain ⟨j,m,o0,e1,e2,e3,e4⟩:=a k o2 hk
      exact ⟨j+1,m,o0,by omega,by simpa using e2,e3,e4⟩
    ·cases j with
     | zero=>simp at hj; subst hj; exact ⟨o,hn⟩
     | succ j=>exact b j m (by simpa using hj)
   ·cases e
  ·cases e
def bkG (G:Nat) (h:AVal→Option AVal) (Hc H':HL):List Nat→Nat→Option (List (Nat × Option AObj))
 | [],_=>some []
 | n::l,i=>match bkG G h Hc H' l (i+1) with
  | none=>none
  | some us=>match aget Hc (G+i) with
   | some (.cells true _)=>some us
   | _=>match aget H' (G+i) with
    | none=>some ((n,none)::us)
    | some o=>cond o.ro none (match rnO h o with
     | some o'=>some ((n,some o')::us)
     | none=>none)
theorem bkG_ok {G:Nat}{h:AVal→Option AVal}{Hc H':HL}:∀ {l:List Nat}{i:Nat}{us:List (Nat × Option AObj)},bkG G h Hc H' l i=some us →
  (∀ m x,(m,x) ∈ us→∃ j,l[j]? = some m∧(x=none ∨ ∃ o o',x=some o'∧aget H' (G+(i+j))=some o∧o.ro=false∧rnO h o=some o')) ∧
  ∀ j n o,l[j]? = some n→aget Hc (G+(i+j))=some o→o.ro=false→∃ x,(n,x) ∈ us
 | [],i,us,e=>by
  cases e
  exact ⟨(fun m x hm=>by cases hm),(fun j n o hj=>by simp at hj)⟩
 | n::l,i,us,e=>by
  simp only [bkG] at e
  split at e
  ·cases e
  ·rename_i us1 h1
   obtain ⟨a,b⟩:=bkG_ok h1
   have a':∀ m x,(m,x) ∈ us1→∃ j,(n::l)[j]? = some m∧(x=none ∨ ∃ o o',x=some o'∧aget H' (G+(i+j))=some o∧o.ro=false∧rnO h o=some o'):=fun m x hm=>by
    obtain ⟨j,e1,e2⟩:=a m x hm
    exact ⟨j+1,by simpa using e1,by rw [show i+(j+1)=i+1+j by omega]; exact e2⟩
   have b':∀ j m o,(n::l)[j+1]? = some m→aget Hc (G+(i+(j+1)))=some o→o.ro=false→∃ x,(m,x) ∈ us1:=fun j m o e1 e2 e3=>b j m o (by simpa using e1) (by rw [show i+1+j=i+(j+1) by omega]; exact e2) e3
   split at e
   ·rename_i c0 hc0
    cases e
    refine ⟨a',fun j m o e1 e2 e3 => ?_⟩
    cases j with
    | zero =>
     rw [Nat.add_zero,hc0] at e2
     cases e2
     cases e3
    | succ j=>exact b' j m o e1 e2 e3
   ·split at e
    ·rename_i hn
     cases e
     refine ⟨fun m x hm => ?_,fun j m o e1 e2 e3 => ?_⟩
     ·rcases List.mem_cons.1 hm with e | hm
      ·cases e
       exact ⟨0,rfl,.inl rfl⟩
      ·exact a' m x hm
     ·cases j with
      | zero=>simp at e1; subst e1; exact ⟨none,List.mem_cons_self ..⟩
      | succ j =>
       obtain ⟨x,hx⟩:=b' j m o e1 e2 e3
       exact ⟨x,List.mem_cons_of_mem _ hx⟩
    ·rename_i o1 ho1
     cases hro:o1.ro with
     | true=>rw [hro] at e; cases e
     | false =>
      rw [hro,cond_false] at e
      split at e
      ·rename_i o1' hr
       cases e
       refine ⟨fun m x hm => ?_,fun j m o e1 e2 e3 => ?_⟩
       ·rcases List.mem_cons.1 hm with e | hm
        ·cases e
         exact ⟨0,rfl,.inr ⟨o1,o1',rfl,ho1,hro,hr⟩⟩
        ·exact a' m x hm
       ·cases j with
        | zero=>simp at e1; subst e1; exact ⟨_,List.mem_cons_self ..⟩
        | succ j =>
         obtain ⟨x,hx⟩:=b' j m o e1 e2 e3
         exact ⟨x,List.mem_cons_of_mem _ hx⟩
      ·cases e
def nwG (base:Nat) (h:AVal→Option AVal) (H':HL):List Nat→Nat→Option (List (Nat × Option AObj))
 | [],_=>some []
 | k::l,j=>match aget H' k,nwG base h H' l (j+1) with
  | some o,some us=>cond o.ro none (match rnO h o with
   | some o'=>some ((base+j,some o')::us)
   | none=>none)
  | _,_=>none
theorem nwG_ok {base:Nat}{h:AVal→Option AVal}{H':HL}:∀ {l:List Nat}{i:Nat}{us:List (Nat × Option AObj)},nwG base h H' l i=some us →
  ∀ m x,(m,x) ∈ us→∃ j k o o',m=base+(i+j)∧l[j]? = some k∧x=some o'∧aget H' k=some o∧o.ro=false∧rnO h o=some o'
 | [],i,us,e=>by
  cases e
  exact fun m x hm=>by cases hm
 | k::l,i,us,e=>by
  simp only [nwG] at e
  split at e
  ·rename_i o us1 ho h1
   cases hro:o.ro with
   | true=>rw [hro] at e; cases e
   | false =>
    rw [hro,cond_false] at e
    split at e
    ·rename_i o' hr
     cases e
     intro m x hm
     rcases List.mem_cons.1 hm with e | hm
     ·cases e
      exact ⟨0,k,o,o',by omega,rfl,rfl,ho,hro,hr⟩
     ·obtain ⟨j,k',o2,o2',e1,e2,e3,e4,e5,e6⟩:=nwG_ok h1 m x hm
      exact ⟨j+1,k',o2,o2',by omega,by simpa using e2,e3,e4,e5,e6⟩
    ·cases e
  ·cases e
def nsG (G:Nat) (η:Nat→Option AObj) (args:List AVal):List Nat:=(reachG η 8 (addN [] (args.flatMap (nmG 4)))).filter (Nat.ble G)
def ksG (G m:Nat) (H':HL) (v:AVal):List Nat:=(reachG (aget H') 8 (addN [] ((List.range' G m)++nmG 4 v))).filter (Nat.ble (G+m))
def inlGK (P:Program) (cs:CS) (nn F:Nat) (f:FuncId) (args:List AVal) (ns:List Nat) (base:Nat) (η:Nat→Option AObj):Option (AVal × List (Nat × Option AObj)):=
 match cond (nodupB ns) (rnL (rnV (inG P.globals.size ns) 4) args) none with
 | none=>none
 | some cargs=>match blG P.globals.size (rnV (inG P.globals.size ns) 4) η ns 0 with
  | none=>none
  | some Hc=>match run1 P cs nn F f cargs (globA η P.globals.size 0++Hc) (P.globals.size+ns.length) with
   | none=>none
   | some (v0,H',_)=>match rnV (outG P.globals.size (P.globals.size+ns.length) base ns (ksG P.globals.size ns.length H' v0)) 4 v0,
     bkG P.globals.size (rnV (outG P.globals.size (P.globals.size+ns.length) base ns (ksG P.globals.size ns.length H' v0)) 4) (globA η P.globals.size 0++Hc) H' ns 0,
     nwG base (rnV (outG P.globals.size (P.globals.size+ns.length) base ns (ksG P.globals.size ns.length H' v0)) 4) H' (ksG P.globals.size ns.length H' v0) 0 with
    | some v,some us,some vs=>cond (nodupB (ksG P.globals.size ns.length H' v0) && Nat.ble (ksG P.globals.size ns.length H' v0).length 8 && nodupB ((us++vs).map (·.1))) (some (v,us++vs)) none
    | _,_,_=>none
def inlG (P:Program) (cs:CS) (nn F:Nat) (f:FuncId) (args:List AVal):EffA:=.eff fun base η=>inlGK P cs nn F f args (nsG P.globals.size η args) base η
theorem inlGN_ok {P:Program}{cs:CS}(hcs:CSOk P cs) (hm:P.follows .mixedOrders=true){nn F:Nat}{f:FuncId}{args:List AVal}{g:(Nat→Option AObj)→List Nat}(hg:∀ η n,n ∈ g η→P.globals.size≤n):CallOk P f args (.eff fun base η=>inlGK P cs nn F f args (g η) base η):=by
 refine callOk_deep hcs hm fun base η v us hK => ?_
 have hgn:=hg η
 generalize g η=ns at hK hgn
 unfold inlGK at hK
 split at hK
 ·cases hK
 rename_i cargs hc
 cases hnd:nodupB ns with
 | false=>rw [hnd] at hc; cases hc
 | true =>
 rw [hnd,cond_true] at hc
 split at hK
 ·cases hK
 rename_i Hc hH
 split at hK
 ·cases hK
 rename_i v0 H' fr' hr
 generalize hks:ksG P.globals.size ns.length H' v0=ks at hK
 split at hK
 ·rename_i v1 us1 vs1 hv hu hw
  cases hcc:(nodupB ks && Nat.ble ks.length 8 && nodupB ((us1++vs1).map (·.1))) with
  | false=>rw [hcc] at hK; cases hK
  | true =>
   rw [hcc] at hK
   cases hK
   simp only [Bool.and_eq_true] at hcc
   obtain ⟨⟨k1,k2⟩,k3⟩:=hcc
   obtain ⟨b1,b2⟩:=blG_ok hH
   obtain ⟨u1,u2⟩:=bkG_ok hu
   have w1:=nwG_ok hw
   have hin:∀ v v',rnV (inG P.globals.size ns) 4 v=some v'→RN (fun a b=>ρ0 P.globals.size ns b a) v v':=fun v v' h=>rnV_ok (ρ:=fun a b=>ρ0 P.globals.size ns b a) (fun n m hn=>inG_ok hn) 4 v v' h
   have hout:∀ v v',rnV (outG P.globals.size (P.globals.size+ns.length) base ns ks) 4 v=some v'→RN (ρ1 P.globals.size ns ks base) v v':=fun v v' h=>rnV_ok (ρ:=ρ1 P.globals.size ns ks base) (fun n m hn=>outG_ok hn) 4 v v' h
   refine ⟨{ nn:=nn,F:=F,ns:=ns,ks:=ks,cargs:=cargs,Hc:=globA η P.globals.size 0++Hc,fr:=P.globals.size+ns.length,v0:=v0,H':=H',fr':=fr',hns:=nodupB_ok hnd,hη:=fun n hn => ?_,hargs:=(rnL_ok hin hc).flip,hblk:=fun k o hk => ?_,hfr:=Nat.le_refl _,hrun:=hr,hks:=nodupB_ok k1,hks8:=Nat.le_of_ble_eq_true k2,hkfr:=fun k hk => ?_,hv:=hout _ _ hv,hnd:=nodupB_ok k3,hus:=fun m x hm => ?_,hall:=fun i n o hi ho hro => ?_ }⟩
   ·obtain ⟨j,hj⟩:=List.getElem?_of_mem hn
    exact .inl (b2 j n hj)
   ·rcases aget_append hk with h1 | h1
    ·obtain ⟨_,a2,a3,c,rfl,a5⟩:=globA_get k o h1
     exact ⟨k,_,.inl ⟨by omega,rfl⟩,a3,.inl ⟨true,c,c,rfl,rfl,RL.same a5⟩,fun _=>rfl⟩
    ·obtain ⟨j,n,o0,e1,e2,e3,e4⟩:=b1 k o h1
     exact ⟨n,o0,.inr ⟨j,by omega,e2⟩,e3,(rnO_ok hin e4).flip,fun hk=>by omega⟩
   ·rw [← hks] at hk
    unfold ksG at hk
    exact Nat.le_of_ble_eq_true (List.mem_filter.1 hk).2
   ·rcases List.mem_append.1 hm with h1 | h1
    ·obtain ⟨j,e1,e2⟩:=u1 m x h1
     refine .inl ⟨j,e1,?_⟩
     rcases e2 with rfl | ⟨o,o',e3,e4,e5,e6⟩
     ·exact .inl rfl
     ·exact .inr ⟨o,o',e3,by rw [Nat.zero_add] at e4; exact e4,e5,rnO_ok hout e6⟩
    ·obtain ⟨j,k,o,o',e1,e2,e3,e4,e5,e6⟩:=w1 m x h1
     exact .inr ⟨j,k,o,o',by omega,e2,e3,e4,e5,rnO_ok hout e6⟩
   ·obtain ⟨x,hx⟩:=u2 i n o hi (by rw [Nat.zero_add]; exact ho) hro
    exact ⟨x,List.mem_append.2 (.inl hx)⟩
 ·cases hK
theorem inlG_ok {P:Program}{cs:CS}(hcs:CSOk P cs) (hm:P.follows .mixedOrders=true){nn F:Nat}{f:FuncId}{args:List AVal}:CallOk P f args (inlG P cs nn F f args):=
 inlGN_ok hcs hm (g:=fun η=>nsG P.globals.size η args) fun η n hn=>by
  unfold nsG at hn
  exact Nat.le_of_ble_eq_true (List.mem_filter.1 hn).2
def inlGk (P:Program) (cs:CS) (nn F:Nat) (f:FuncId) (args:List AVal) (ks:List Nat):EffA:=
 match ks with
 | []=>inlG P cs nn F f args
 | ks=>.effk ks fun base η=>inlGK P cs nn F f args (nsG P.globals.size η args) base η
theorem inlGk_ok {P:Program}{cs:CS}(hcs:CSOk P cs) (hm:P.follows .mixedOrders=true){nn F:Nat}{f:FuncId}{args:List AVal}{ks:List Nat}:CallOk P f args (inlGk P cs nn F f args ks):=by
 unfold inlGk
 split
 ·exact inlG_ok hcs hm
 ·refine (inlG_ok hcs hm (nn:=nn) (F:=F)).less fun base H r hr => ?_
  obtain ⟨v,H'⟩:=r
  obtain ⟨us,e1,e2,rfl⟩:=effk_app hr
  unfold inlG
  simp only [EffA.app,e1]
def capK (args:List AVal):List Nat:=args.flatMap fun v=>match v with
 | .fn _ c=>c.flatMap (nmG 2)
 | _=>[]
def inlZ (P:Program) (nn:FuncId→Nat) (F:Nat) (pu:FuncId→Bool) (kp:FuncId→List AVal→List Nat) (cs:CS):Nat→CS
 | 0=>cs
 | k+1=>fun f args=>match cs f args with
  | some e=>some e
  | none=>cond (pu f && allV args) (match run1 P (inlZ P nn F pu kp cs k) (nn f) F f args [] P.globals.size with
   | some (v,_,_)=>cond (ltV 0 v) (some (.pure v)) (some (inlG P (inlZ P nn F pu kp cs k) (nn f) F f args))
   | none=>some (inlG P (inlZ P nn F pu kp cs k) (nn f) F f args)) (some (inlGk P (inlZ P nn F pu kp cs k) (nn f) F f args (kp f args)))
theorem inlZ_ok {P:Program}{nn:FuncId→Nat}{F:Nat}{pu:FuncId→Bool}{kp:FuncId→List AVal→List Nat}{cs:CS}(hm:P.follows .mixedOrders=true) (hcs:CSOk P cs):∀ k,CSOk P (inlZ P nn F pu kp cs k)
 | 0=>hcs
 | k+1=>fun f args e he=>by
  have ih:=inlZ_ok hm hcs (nn:=nn) (F:=F) (pu:=pu) (kp:=kp) k
  simp only [inlZ] at he
  split at he
  ·rename_i e1 h1
   cases he
   exact hcs f args _ h1
  ·cases ha:(pu f && allV args) with
   | false =>
    rw [ha,cond_false] at he
    cases he
    exact inlGk_ok ih hm
   | true =>
    rw [ha,cond_true] at he
    rw [Bool.and_eq_true] at ha
    split at he
    ·rename_i v H' fr' hr
     cases hv:ltV 0 v with
     | false =>
      rw [hv,cond_false] at he
      cases he
      exact inlG_ok ih hm
     | true =>
      rw [hv,cond_true] at he
      cases he
      exact callOk_run ih hm hr ha.2 hv
    ·cases he
     exact inlG_ok ih hm
end Go.Eng
namespace Go.Eng
open Go Go.WideShapes Go.ChangeShapes
theorem post_of_grew {H:Type}{enc:TypeId × Value→H}{P:Program}{f:Func}{s:ChangeSpec}{apart fresh handsOn again:Bool}{W W':World}{args:Array Value}{v:Value}{ds gs:List (DataW H)}{before pa pv:List MemPlace}
  (hW:DataW.Whole enc P f.params.toList s.vars apart W args.toList ds gs before)
  (hres:∀ (b:Nat) (sp:Nat→Bool) (hd:Bool),DataW.TrodAll enc P W' b sp hd f.resultTypes.toList (v.resultList f.resultTypes.size) (s.fn H (ds++gs)).results [])
  (hargs:∀ sp:Nat→Bool,(∀ p ∈ before,sp p.block=true)→DataW.TrodAll enc P W' 0 sp true f.params.toList args.toList (s.fn H (ds++gs)).args pa)
  (hvars:∀ sp:Nat→Bool,(∀ p ∈ before,sp p.block=true)→DataW.TrodVars enc P W' sp s.vars (s.fn H (ds++gs)).vars pv)
  (hps:before=pa++pv) (hg:Grew W W')
  (hok:∀ (j:Nat) (t:TypeId) (r:Value),f.resultTypes[j]? = some t→(v.resultList f.resultTypes.size)[j]? = some r→Value.okWide P W' .any 0 t r) :
  s.post enc P f apart fresh handsOn again W args v W':=by
 have hlt:=hW.lt
 have hold:∀ p ∈ before,(fun b=>decide (b < W.heap.size)) p.block=true:=fun p hp=>by simpa using hlt p hp
 refine ⟨ds,gs,before,[],pa,pv,hW,hres _ _ _,hargs _ hold,hvars _ hold,World.keptBut_mono (fun p hp=>hp.elim) hg.1,fun _ => ?_⟩
 obtain ⟨_,_,_,_,_,hz,hn⟩:=hW
 have hmem:∀ p,p ∈ ([]++pa)++pv→p ∈ before:=fun p hp=>by rw [hps]; simpa using hp
 refine ⟨hok,_,_,([]++pa)++pv,⟨[]++pa,pv,trodAll_append (hargs _ (fun _ _=>rfl)) (hres _ _ _),hvars _ (fun _ _=>rfl),rfl,fun b off hp => ?_,fun ha => ?_⟩,fun p hp _ => ?_⟩
 ·have hb:=hmem _ hp
  rw [hg.2.1 ⟨b,off,none⟩ (hlt _ hb)]
  exact hz b off hb
 ·have:=hn ha
  rw [hps] at this
  simpa using this
 ·exact hmem _ hp
theorem wf_le {k:IntKind}{n:Int}(h:(Lit.int k n).wf=true):k.min≤n∧n≤k.max:=by
 simpa only [Lit.wf,Bool.and_eq_true,decide_eq_true_eq] using h
theorem vr_u8 {a:Int}(h:(Lit.int .u8 a).wf=true):∃ x:UInt8,∀ σ,VR σ (.u8 x) (.int .u8 a):=by
 have h':=wf_le h
 have h1:(0:Int)≤a:=h'.1
 have h2:a≤255:=h'.2
 refine ⟨UInt8.ofNat a.toNat,fun σ => ?_⟩
 have e:((UInt8.ofNat a.toNat).toNat:Int)=a:=by rw [UInt8.toNat_ofNat_of_lt' (show a.toNat < 256 by omega)]; omega
 have:=VR.u8 (σ:=σ) (UInt8.ofNat a.toNat)
 rwa [e] at this
theorem vr_u64 {a:Int}(h:(Lit.int .u64 a).wf=true):∃ x:UInt64,∀ σ,VR σ (.u64 x) (.int .u64 a):=by
 have h':=wf_le h
 have h1:(0:Int)≤a:=h'.1
 have h2:a≤18446744073709551615:=h'.2
 refine ⟨UInt64.ofNat a.toNat,fun σ => ?_⟩
 have e:((UInt64.ofNat a.toNat).toNat:Int)=a:=by rw [UInt64.toNat_ofNat_of_lt' (show a.toNat < 18446744073709551616 by omega)]; omega
 have:=VR.u64 (σ:=σ) (UInt64.ofNat a.toNat)
 rwa [e] at this
end Go.Eng
namespace Go.Eng
open Go Go.WideShapes Go.ChangeShapes
inductive Kd where
 | bool
 | int (k:IntKind)
 | str
def HasK:Kd→Value→Prop
 | .bool,v => ∃ b,v=.bool b
 | .int k,v => ∃ n,v=.int k n∧(Lit.int k n).wf=true
 | .str,v => ∃ s:ByteArray,v=.string s∧s.size≤maxLen
def KindsP:List Kd→List Value→Prop
 | [],[]=>True
 | k::ks,v::vs=>HasK k v∧KindsP ks vs
 | _,_=>False
theorem KindsP.append:∀ {ks ks':List Kd}{vs vs':List Value},KindsP ks vs→KindsP ks' vs'→KindsP (ks++ks') (vs++vs')
 | [],_,[],_,_,h=>h
 | k::ks,_,v::vs,_,h,h'=>⟨h.1,h.2.append h'⟩
def kindsFs (rec:TypeId→Option (List Kd)) (P:Program):List Field→Nat→Option (List Kd)
 | [],_=>some []
 | f::l,a=>match rec f.type with
  | some ks=>cond (Nat.beq f.offset a && Nat.beq ks.length (P.cellsOf f.type)) (match kindsFs rec P l (a+ks.length) with
   | some r=>some (ks++r)
   | none=>none) none
  | none=>none
def kindsOf (P:Program):Nat→TypeId→Option (List Kd)
 | 0,_=>none
 | n+1,t=>match P.underlying t with
  | some .bool=>some [.bool]
  | some (.int k)=>some [.int k]
  | some .string=>some [.str]
  | some (.struct fs)=>match kindsFs (kindsOf P n) P fs.toList 0 with
   | some ks=>cond (Nat.beq ks.length (P.cellsOf t)) (some ks) none
   | none=>none
  | _=>none
section
variable {H:Type}{enc:TypeId × Value→H}{P:Program}{w:World}{base:Nat}{spare:Nat→Bool}{held:Bool}
theorem kindsFs_ok {rec:TypeId→Option (List Kd)}{m:Nat}{cs:List Value}(hr:∀ t ks cs' x,rec t=some ks→DataW.trod enc P w base spare held m t cs'=some x→KindsP ks cs') :
  ∀ (l:List Field) (a:Nat) (ks:List Kd),kindsFs rec P l a=some ks→a+ks.length≤cs.length→(∀ f ∈ l,∃ x,DataW.trod enc P w base spare held m f.type ((cs.drop f.offset).take (P.cellsOf f.type))=some x)→KindsP ks ((cs.drop a).take ks.length)
 | [],a,ks,h,_,_=>by
  cases h
  rw [List.length_nil,List.take_zero]; trivial
 | f::l,a,ks,h,hle,hx=>by
  unfold kindsFs at h
  split at h
  ·rename_i k1 hk1
   cases hc:(Nat.beq f.offset a && Nat.beq k1.length (P.cellsOf f.type)) with
   | false=>rw [hc] at h; cases h
   | true =>
    rw [hc,cond_true] at h
    simp only [Bool.and_eq_true] at hc
    have e1:=Nat.eq_of_beq_eq_true hc.1
    have e2:=Nat.eq_of_beq_eq_true hc.2
    split at h
    ·rename_i r hr2
     cases h
     obtain ⟨x,hx1⟩:=hx f (List.mem_cons_self ..)
     have h1:=hr _ _ _ _ hk1 hx1
     rw [e1,← e2] at h1
     rw [List.length_append] at hle
     have h2:=kindsFs_ok hr l (a+k1.length) r hr2 (by omega) (fun g hg=>hx g (List.mem_cons_of_mem _ hg))
     have:=h1.append h2
     rw [List.length_append,List.take_add]
     rw [List.drop_drop]
     exact this
    ·cases h
  ·cases h
theorem kindsOf_ok:∀ (n:Nat) (t:TypeId) (ks:List Kd),kindsOf P n t=some ks→∀ (m:Nat) (cs:List Value) (x:DataW H × List MemPlace),DataW.trod enc P w base spare held m t cs=some x→KindsP ks cs
 | 0,_,_,h,_,_,_,_=>by cases h
 | n+1,t,ks,h,m,cs,x,hx=>by
  unfold kindsOf at h
  split at h
  ·rename_i ht
   cases h
   obtain ⟨b,rfl,_⟩:=DataW.trod_bool ht hx
   exact ⟨⟨b,rfl⟩,trivial⟩
  ·rename_i k ht
   cases h
   obtain ⟨z,rfl,_,hz⟩:=DataW.trod_int ht hx
   exact ⟨⟨z,rfl,hz⟩,trivial⟩
  ·rename_i ht
   cases h
   obtain ⟨s,rfl,_,hs⟩:=DataW.trod_string ht hx
   exact ⟨⟨s,rfl,hs⟩,trivial⟩
  ·rename_i fs ht
   split at h
   ·rename_i ks' hk
    cases hc:Nat.beq ks'.length (P.cellsOf t) with
    | false=>rw [hc] at h; cases h
    | true =>
     rw [hc] at h
     cases h
     have e:=Nat.eq_of_beq_eq_true hc
     obtain ⟨xs,m',rfl,_,hl,hxl,hf⟩:=DataW.trod_struct ht hx
     have:=kindsFs_ok (cs:=cs) (m:=m') (fun t ks cs' x h1 h2=>kindsOf_ok n t ks h1 m' cs' x h2) fs.toList 0 _ hk (by omega) (fun f hmem=>by
      obtain ⟨i,hi⟩:=List.getElem?_of_mem hmem
      have hi2:fs[i]? = some f:=by simpa using hi
      have:=hf i f hi2
      have hlt:i < xs.length:=by rw [hxl]; exact (Array.getElem?_eq_some_iff.1 hi2).1
      exact ⟨xs[i],by rw [this]; simp [hlt]⟩)
     rw [List.drop_zero,e,← hl,List.take_length] at this
     exact this
   ·cases h
  ·cases h
end
theorem KindsP.cons {k:Kd}{ks:List Kd}{cs:List Value}(h:KindsP (k::ks) cs):∃ v vs,cs=v::vs∧HasK k v∧KindsP ks vs:=by
 cases cs with
 | nil=>exact h.elim
 | cons v vs=>exact ⟨v,vs,rfl,h.1,h.2⟩
theorem KindsP.none {cs:List Value}(h:KindsP [] cs):cs=[]:=by
 cases cs with
 | nil=>rfl
 | cons v vs=>exact h.elim
inductive VRs:List AVal→List Value→Prop where
 | nil:VRs [] []
 | cons {u v us vs} (h:∀ σ,VR σ u v) (t:VRs us vs):VRs (u::us) (v::vs)
theorem VRs.get {us:List AVal}{vs:List Value}(h:VRs us vs):∀ (j:Nat) u v,us[j]? = some u→vs[j]? = some v→∀ σ,VR σ u v:=by
 induction h with
 | nil=>intro j u v hj; simp at hj
 | cons h t ih =>
  intro j u v h1 h2 σ
  cases j with
  | zero=>simp at h1 h2; subst h1 h2; exact h σ
  | succ j=>exact ih j u v (by simpa using h1) (by simpa using h2) σ
def Still (W w':World):Prop:=∀ b,b < W.heap.size→w'.heap[b]? = W.heap[b]?
theorem hrel_ro {σ:Sig}{H:Heap}{w:World}(h:∀ n o,H n=some o→o.ro=true∧∃ p,σ n=some p∧ORel σ w p o):HRel σ H w:=
 ⟨fun n o hn=>(h n o hn).2,fun n m o o' p q hn hm _ _ _=>.inr ⟨(h n o hn).1,(h m o' hm).1⟩⟩
theorem law_calls_H {P:Program}{cs:CS}(hcs:CSOk P cs) (hm:P.follows .mixedOrders=true){nn F:Nat}{f:FuncId}{args:List AVal}{H:HL}{fr:Nat}(h:(run1 P cs nn F f args H fr).map (·.1)=some (.bool true))
  {σ:Sig} {args':Array Value} {w:World} (hro:∀ n o,aget H n=some o→o.ro=true∧∃ p,σ n=some p∧ORel σ w p o) (hg:GRel P σ) (hfr:Fresh σ fr) (hl:LR σ args args') :
  Calls P f args' w fun r w'=>r=.returned (.bool true)∧Grew w w'∧Still w w':=by
 obtain ⟨r,hr,hrv⟩:=optMap h
 obtain ⟨v,H',fr'⟩:=r
 obtain ⟨fn,c,hf,hb,hrun⟩:=run1_some hr
 refine (runF_ok hcs hm hf hb hrun hl (hrel_ro hro) hg hfr).mono fun r w' ⟨σ',v',h1,h2,_,h4,_⟩ => ?_
 have hv:v=.bool true:=hrv
 subst hv
 cases h2
 have hs:Still w w':=fun b hb=>(h4.old b hb (by
  rintro ⟨n,o,p,g1,g2,_⟩
  rw [(hro n o g1).1] at g2
  cases g2)).1
 exact ⟨h1,grew_of h4.os h4.output h4.size hs,hs⟩
theorem args_stay {H:Type}{enc:TypeId × Value→H}{P:Program}(hl:laidOutB P=true){W W':World}(hs:Still W W') :
  ∀ {ts:List TypeId} {vs:List Value} {ds:List (DataW H)} {ps:List MemPlace},(ts.all fun t=>P.readableRec t && decide (t < P.types.size))=true→DataW.TrodAll enc P W 0 (fun _=>true) true ts vs ds ps→(∀ p ∈ ps,p.block < W.heap.size) →
  ∀ sp:Nat→Bool,(∀ p ∈ ps,sp p.block=true)→DataW.TrodAll enc P W' 0 sp true ts vs ds ps
 | [],[],[],_,_,h,_,_,_=>h
 | t::ts,v::vs,d::ds,ps,ht,⟨p,q,h1,h2,e⟩,hlt,sp,hsp=>by
  simp only [List.all_cons,Bool.and_eq_true,decide_eq_true_eq] at ht
  subst e
  have same:∀ x:MemPlace,x.block < W.heap.size→W.sameAt W' x:=fun x hx=>by
   cases x with
   | cell b off =>
    show W'.cell? _=W.cell? _
    unfold World.cell?
    rw [show W'.heap[(⟨b,off,none⟩:Addr).block]? = W.heap[b]? from hs b hx]
   | map b=>exact hs b hx
  exact ⟨p,q,Go.WideElems.Trod_stays hl ht.1.1 ht.1.2 h1 (fun x hx=>same x (hlt x (List.mem_append_left _ hx))) (fun x hx=>hsp x (List.mem_append_left _ hx)),
   args_stay hl hs (by simpa using ht.2) h2 (fun x hx=>hlt x (List.mem_append_right _ hx)) sp (fun x hx=>hsp x (List.mem_append_right _ hx)),rfl⟩
theorem sig0_fresh (P:Program):Fresh (sig0 P) P.globals.size:=fun n hn=>by
 unfold sig0
 rw [if_neg (by omega)]
end Go.Eng
namespace Go.Proofs.YtenieblhbdcgeaaDoor
open Go Go.Eng
def mask:FuncId→Nat:=fun f=>match f with | 2=>0 | 3=>46773939791321307089620048973162336750942233296719 | 4=>22300755873903105649894580267783854664187791 | 5=>1361129488085009328202174898777711312655 | 6=>55 | 7=>65651 | 8=>1048831 | 9=>2097351 | 10=>573 | 11=>83 | 12=>4294968447 | 13=>7 | 14=>4465111 | 15=>30893 | 16=>70368744178235 | 17=>67113175 | 18=>19 | 19=>9444768994673749394557 | 20=>268698327 | 21=>16777559 | 22=>21 | 23=>33571891 | 24=>79238136190322567936261506035 | 25=>16413 | 26=>1005 | 27=>311 | 28=>7 | 29=>65627 | 30=>68719609831 | 31=>2251799813685819 | 32=>59 | 33=>68721573939 | 34=>16781371 | 35=>33571891 | 36=>21 | 37=>21 | 38=>21 | 39=>537399539 | 40=>65567 | 41=>7 | 42=>7 | 43=>543 | 44=>27 | 45=>7 | 46=>19 | 47=>15 | 48=>7 | 49=>575 | 50=>66483 | 51=>31 | 52=>487 | 53=>66483 | 54=>9520611261530279935 | 55=>66483 | 56=>8255 | 57=>19 | 58=>31 | 59=>19 | 60=>7 | 61=>5 | 62=>138351151749653378483 | 63=>2175 | 64=>1005 | 65=>19 | 66=>66483 | 67=>66483 | 68=>5 | 69=>2097283 | 70=>51 | 71=>5 | 72=>5491 | 73=>17188391667 | 74=>524353 | 75=>19 | 76=>21 | 77=>13 | 78=>2923003971560093291123168138537876760321514930163 | 79=>20426010943356750102455122975 | 82=>5 | 83=>16661 | 84=>13 | 85=>5 | 86=>5 | 87=>21 | 88=>21 | 112=>0 | _=>0
theorem hmix:Tryd.prog.follows .mixedOrders=true:=by kernel_rfl
noncomputable def csF:CS:=inlZ Tryd.prog mask 200 (fun _=>true) (fun _ a=>capK a) noCS 8
theorem csF_ok:CSOk Tryd.prog csF:=inlZ_ok hmix (noCS_ok _) 8
def headA9 (p:UInt8) (a:Bool) (b c:UInt64) (d:Bool) (e f:UInt64) (g h:Int) (i j k:UInt8) (l:Int):AVal:=.agg [.u8 p,.bool a,.u64 b,.u64 c,.bool d,.u64 e,.u64 f,.int .u16 g,.int .u16 h,.u8 i,.u8 j,.u8 k,.int .i64 l]
theorem runNone (p:UInt8) (a:Bool) (b c:UInt64) (d:Bool) (e f:UInt64) (g h:Int) (i j k:UInt8) (l:Int) (now:UInt64):(run1 Tryd.prog csF (mask 6) 200 6 [headA9 p a b c d e f g h i j k l,.u64 now] [] 4).map (·.1)=some (.bool true):=by kernel_rfl
end Go.Proofs.YtenieblhbdcgeaaDoor
namespace Go.Proofs.YtenieblhbdcgeaaDoor
open Go Go.Eng Go.ChangeShapes Go.WideShapes Go.ChangeAt Go.RowKit
set_option maxRecDepth 1000000
def laid1 : List (String × DataW Unit) := [("math/bits.deBruijn32tab", Rows.laid_math_bits_deBruijn32tab), ("math/bits.deBruijn64tab", Rows.laid_math_bits_deBruijn64tab), ("internal/strconv.uint64pow10", Rows.laid_internal_strconv_uint64pow10)]
theorem door_met (os:Os) (args:Array Value):laidMetH Tryd.prog laid1 ((World.doorLaid Tryd.prog 400 os).forCall (fun _ _=>0) ⟨#[],args,[]⟩).memory:=
 laidMetH_of_parts3 (fuel:=8) (laidMet_of_run' 8 (by kernel_rfl) (by kernel_rfl)) (by kernel_rfl) (by kernel_rfl)
theorem gl4:Tryd.prog.globals.size=4:=by kernel_rfl
theorem law_calls_0 {cs:CS}(hcs:CSOk Tryd.prog cs){f:FuncId}{args:List AVal}(h:∃ nn F,(run1 Tryd.prog cs nn F f args [] 4).map (·.1)=some (.bool true)){args':Array Value}{W:World}(hl:∀ σ,LR σ args args') :
  Calls Tryd.prog f args' W fun r w'=>r=.returned (.bool true)∧Grew W w'∧Still W w':=by
 obtain ⟨nn,F,h⟩:=h
 exact law_calls_H hcs hmix h (fun n o h=>by simp [aget] at h) (sig0_g Tryd.prog) (gl4 ▸ sig0_fresh Tryd.prog) (hl _)
theorem agg_of {v:Value}{a b:Kd}{ks:List Kd}(h:KindsP (a::b::ks) v.cells.toList):∃ cs,v=.agg cs∧KindsP (a::b::ks) cs.toList:=by
 cases v with
 | agg cs=>exact ⟨cs,rfl,h⟩
 | _=>exact absurd h (by simp [Value.cells,KindsP])
theorem vr_agg {us:List AVal}{cs:Array Value}(h:VRs us cs.toList) (hl:us.length=cs.size) (σ:Sig):VR σ (.agg us) (.agg cs):=
 .agg hl fun i u v h1 h2=>h.get i u v h1 (by simpa using h2) σ
theorem head_arg {v:Value}(h:KindsP [.int .u8,.bool,.int .u64,.int .u64,.bool,.int .u64,.int .u64,.int .u16,.int .u16,.int .u8,.int .u8,.int .u8,.int .i64] v.cells.toList):∃ p a b c d e f g h i j k l,∀ σ,VR σ (headA9 p a b c d e f g h i j k l) v:=by
 obtain ⟨cs,rfl,hk⟩:=agg_of h
 obtain ⟨c0,r0,e0,⟨n0,rfl,w0⟩,k1⟩:=hk.cons
 obtain ⟨c1,r1,e1,⟨n1,rfl⟩,k2⟩:=k1.cons
 obtain ⟨c2,r2,e2,⟨n2,rfl,w2⟩,k3⟩:=k2.cons
 obtain ⟨c3,r3,e3,⟨n3,rfl,w3⟩,k4⟩:=k3.cons
 obtain ⟨c4,r4,e4,⟨n4,rfl⟩,k5⟩:=k4.cons
 obtain ⟨c5,r5,e5,⟨n5,rfl,w5⟩,k6⟩:=k5.cons
 obtain ⟨c6,r6,e6,⟨n6,rfl,w6⟩,k7⟩:=k6.cons
 obtain ⟨c7,r7,e7,⟨n7,rfl,w7⟩,k8⟩:=k7.cons
 obtain ⟨c8,r8,e8,⟨n8,rfl,w8⟩,k9⟩:=k8.cons
 obtain ⟨c9,r9,e9,⟨n9,rfl,w9⟩,k10⟩:=k9.cons
 obtain ⟨c10,r10,e10,⟨n10,rfl,w10⟩,k11⟩:=k10.cons
 obtain ⟨c11,r11,e11,⟨n11,rfl,w11⟩,k12⟩:=k11.cons
 obtain ⟨c12,r12,e12,⟨n12,rfl,w12⟩,k13⟩:=k12.cons
 have e13:=k13.none
 subst e13 e12 e11 e10 e9 e8 e7 e6 e5 e4 e3 e2 e1
 obtain ⟨x0,h0⟩:=vr_u8 w0
 obtain ⟨x2,h2⟩:=vr_u64 w2
 obtain ⟨x3,h3⟩:=vr_u64 w3
 obtain ⟨x5,h5⟩:=vr_u64 w5
 obtain ⟨x6,h6⟩:=vr_u64 w6
 obtain ⟨x9,h9⟩:=vr_u8 w9
 obtain ⟨x10,h10⟩:=vr_u8 w10
 obtain ⟨x11,h11⟩:=vr_u8 w11
 refine ⟨x0,n1,x2,x3,n4,x5,x6,n7,n8,x9,x10,x11,n12,vr_agg ?_ ?_⟩
 ·rw [e0]
  exact (.cons h0 (.cons (fun σ=>.bool _) (.cons h2 (.cons h3 (.cons (fun σ=>.bool _) (.cons h5 (.cons h6 (.cons (fun σ=>.int _ _) (.cons (fun σ=>.int _ _) (.cons h9 (.cons h10 (.cons h11 (.cons (fun σ=>.int _ _) .nil)))))))))))))
 ·rw [← Array.length_toList,e0]
  rfl
end Go.Proofs.YtenieblhbdcgeaaDoor
