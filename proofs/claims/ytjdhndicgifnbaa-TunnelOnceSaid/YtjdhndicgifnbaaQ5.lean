/- Texts Eng49, Eng44, Eng45, TAPl0, Tw1, Tw2, Tw3, Tw4, Tw5, Tw6, TBt1, Bt2, TBt3, TBt4, TBt5, TAChE, TAChS, TACh0: what they show that this claim uses. -/
import Derived.Test.YtjdhndicgifnbaaQ4
import Derived.Test.YtjdhndicgifnbaaChecked
import Derived.Lib.Builder
import Derived.Lib.UnsafeStr
import Derived.WalkSpells
import Derived.WalkKit
import Derived.ProofKit
import Derived.Lib.AppendStr
import Derived.Shelf.RegionOpenPlain
import Derived.LoopN
import Derived.Test.YtjdhndicgifnbaaQ3
set_option maxRecDepth 100000
set_option maxHeartbeats 1000000
set_option linter.unusedVariables false
set_option linter.unusedSimpArgs false
namespace Go.Eng
structure Cls (S:Type) where
 k:Nat
 place:List Nat→S→List (List AVal)
 find:(Nat→Option AObj)→Nat→Option (List Nat × S)
 len:∀ ns s,(place ns s).length=k
 find_ok:∀ {η:Nat→Option AObj} {t:Nat} {ns:List Nat} {s:S},find η t=some (ns,s)→ns.length=k∧ns[0]? = some t∧∀ (i n:Nat) (c:List AVal),ns[i]? = some n→(place ns s)[i]? = some c→η n=some (.cells false c)
def Cls.Rel {S:Type}(C:Cls S) (s:S):Prop:=∀ (ρ:Nat→Nat→Prop) (ns ns':List Nat),ns.length=C.k→ns'.length=C.k→(∀ (i n n':Nat),ns[i]? = some n→ns'[i]? = some n'→ρ n n') →
 ∀ (i:Nat) (c c':List AVal),(C.place ns s)[i]? = some c→(C.place ns' s)[i]? = some c'→RL ρ c c'
def NameV (k:Nat) (v:List Nat→AVal):Prop:=∀ (ρ:Nat→Nat→Prop) (ns ns':List Nat),ns.length=k→ns'.length=k→(∀ (i n n':Nat),ns[i]? = some n→ns'[i]? = some n'→ρ n n')→RN ρ (v ns) (v ns')
theorem NameV.plain {k:Nat}{v:AVal}(h:ltV 0 v=true):NameV k fun _=>v:=fun ρ ns ns' _ _ _=>.same h
def canB (G k:Nat):List Nat:=(List.range k).map (G + ·)
def heapOf:List Nat→List (List AVal)→HL
 | n::ns,c::cs=>(n,.cells false c)::heapOf ns cs
 | _,_=>[]
theorem heapOf_get:∀ {ns:List Nat}{cs:List (List AVal)}{m:Nat}{o:AObj},aget (heapOf ns cs) m=some o→∃ (i:Nat) (c:List AVal),ns[i]? = some m∧cs[i]? = some c∧o=.cells false c
 | [],_,m,o,h=>by simp [heapOf,aget] at h
 | n::ns,[],m,o,h=>by simp [heapOf,aget] at h
 | n::ns,c::cs,m,o,h=>by
  unfold heapOf at h
  by_cases e:n=m
  ·subst e
   have h0:aget ((n,AObj.cells false c)::heapOf ns cs) n=some (.cells false c):=by simp [aget]
   rw [h0] at h
   cases h
   exact ⟨0,c,rfl,rfl,rfl⟩
  ·have h':aget (heapOf ns cs) m=some o:=by
    have h0:aget ((n,AObj.cells false c)::heapOf ns cs) m=aget (heapOf ns cs) m:=by
     have hb:Nat.beq n m=false:=by
      cases hb:Nat.beq n m with
      | false=>rfl
      | true=>exact absurd (Nat.eq_of_beq_eq_true hb) e
     simp only [aget,hb,cond_false]
    rw [← h0]; exact h
   obtain ⟨i,c',h1,h2,h3⟩:=heapOf_get h'
   exact ⟨i+1,c',by simpa using h1,by simpa using h2,h3⟩
def nmC (G kk:Nat):Option Nat→Nat
 | some j=>G+j
 | none=>kk
def nmU (ns:List Nat) (base:Nat):Option Nat→Nat
 | some j=>ns.getD j 0
 | none=>base
def putC:List Nat→List (List AVal)→List (Nat × Option AObj)
 | n::ns,c::cs=>(n,some (.cells false c))::putC ns cs
 | _,_=>[]
theorem putC_mem:∀ {ns:List Nat}{cs:List (List AVal)}{m:Nat}{x:Option AObj},(m,x) ∈ putC ns cs→∃ (i:Nat) (c:List AVal),ns[i]? = some m∧cs[i]? = some c∧x=some (.cells false c)
 | [],_,m,x,h=>by simp [putC] at h
 | n::ns,[],m,x,h=>by simp [putC] at h
 | n::ns,c::cs,m,x,h=>by
  unfold putC at h
  rcases List.mem_cons.1 h with h | h
  ·cases h
   exact ⟨0,c,rfl,rfl,rfl⟩
  ·obtain ⟨i,c',h1,h2,h3⟩:=putC_mem h
   exact ⟨i+1,c',by simpa using h1,by simpa using h2,h3⟩
theorem putC_of:∀ {ns:List Nat}{cs:List (List AVal)}{i m:Nat}{c:List AVal},ns[i]? = some m→cs[i]? = some c→(m,some (.cells false c)) ∈ putC ns cs
 | [],_,i,m,c,h,_=>by simp at h
 | n::ns,[],i,m,c,_,h=>by simp at h
 | n::ns,d::cs,0,m,c,h1,h2=>by
  simp at h1 h2
  subst h1 h2
  exact List.mem_cons_self ..
 | n::ns,d::cs,i+1,m,c,h1,h2=>by
  unfold putC
  exact List.mem_cons_of_mem _ (putC_of (by simpa using h1) (by simpa using h2))
theorem putC_names:∀ {ns:List Nat}{cs:List (List AVal)},ns.length=cs.length→(putC ns cs).map (·.1)=ns
 | [],[],_=>rfl
 | n::ns,c::cs,h=>by
  unfold putC
  rw [List.map_cons,putC_names (by simpa using h)]
def goneJ (k:Nat) (src:List (Option Nat)):List Nat:=(List.range k).filter fun j => !src.contains (some j)
def updE (ns:List Nat) (base:Nat) (src:List (Option Nat)) (cs:List (List AVal)):List (Nat × Option AObj):=
 putC (src.map (nmU ns base)) cs++(goneJ ns.length src).map fun j=>(ns.getD j 0,none)
def methE {S S2:Type}(C:Cls S) (C2:Cls S2) (src:List (Option Nat)) (t:Nat) (val:List Nat→S→AVal) (next:S→S2) (ok:S→Bool):EffA:=.eff fun base η =>
 match C.find η t with
 | some (ns,s)=>cond (nodupB (base::ns) && ok s) (some (val (src.map (nmU ns base)) s,updE ns base src (C2.place (src.map (nmU ns base)) (next s)))) none
 | none=>none
def MethRun {S S2:Type}(P:Program) (cs:CS) (f:FuncId) (C:Cls S) (C2:Cls S2) (src:List (Option Nat)) (xs:List AVal) (s:S) (v:List Nat→AVal) (s2:S2):Prop:=
 ∃ nn F H' fr' kk,run1 P cs nn F f (.ptr P.globals.size 0::xs) (heapOf (canB P.globals.size C.k) (C.place (canB P.globals.size C.k) s)) (P.globals.size+C.k)=some (v (src.map (nmC P.globals.size kk)),H',fr')∧P.globals.size+C.k≤kk ∧
  ∀ (i m:Nat) (c:List AVal),(src.map (nmC P.globals.size kk))[i]? = some m→(C2.place (src.map (nmC P.globals.size kk)) s2)[i]? = some c→aget H' m=some (.cells false c)
theorem canB_get {G k i n:Nat}(h:(canB G k)[i]? = some n):i < k∧n=G+i:=by
 unfold canB at h
 rw [List.getElem?_map] at h
 by_cases hi:i < k
 ·rw [List.getElem?_range hi] at h
  simp at h
  exact ⟨hi,h.symm⟩
 ·rw [List.getElem?_eq_none (by simpa using Nat.le_of_not_lt hi)] at h
  simp at h
theorem canB_len (G k:Nat):(canB G k).length=k:=by simp [canB]
theorem meth_ok {S S2:Type}{P:Program}{cs:CS}(hcs:CSOk P cs) (hm:P.follows .mixedOrders=true){f:FuncId}{C:Cls S}{C2:Cls S2}{src:List (Option Nat)}{t:Nat}{xs:List AVal}{val:List Nat→S→AVal}{next:S→S2}{ok:S→Bool}
  (hk:src.length=C2.k) (hk0:0 < C.k) (hnd:src.Nodup) (hj:∀ j,some j ∈ src→j < C.k) (hx:ltL 0 xs=true)
  (h:∀ s,ok s=true→C.Rel s∧C2.Rel (next s)∧NameV C2.k (fun ns=>val ns s)∧MethRun P cs f C C2 src xs s (fun ns=>val ns s) (next s)):CallOk P f (.ptr t 0::xs) (methE C C2 src t val next ok):=by
 unfold methE
 refine callOk_deep hcs hm fun base η v us hK => ?_
 cases hf:C.find η t with
 | none=>rw [hf] at hK; cases hK
 | some p =>
 obtain ⟨ns,s⟩:=p
 rw [hf] at hK
 simp only at hK
 cases hc:(nodupB (base::ns) && ok s) <;> rw [hc] at hK <;> simp only [cond_true,cond_false] at hK
 ·cases hK
 simp only [Option.some.injEq,Prod.mk.injEq] at hK
 obtain ⟨rfl,rfl⟩:=hK
 rw [Bool.and_eq_true] at hc
 obtain ⟨hn,hok⟩:=hc
 have hnb:=nodupB_ok hn
 rw [List.nodup_cons] at hnb
 obtain ⟨hbn,hns⟩:=hnb
 obtain ⟨f1,f2,f3⟩:=C.find_ok hf
 obtain ⟨hR,hR2,hv,nn,F,H',fr',kk,hrun,hkk,hback⟩:=h s hok
 have hcell:∀ i,i < C.k→∃ n c,ns[i]? = some n∧(C.place ns s)[i]? = some c∧η n=some (.cells false c):=fun i hi=>by
  have e1:i < ns.length:=by rw [f1]; exact hi
  have e2:i < (C.place ns s).length:=by rw [C.len]; exact hi
  exact ⟨_,_,List.getElem?_eq_getElem e1,List.getElem?_eq_getElem e2,f3 _ _ _ (List.getElem?_eq_getElem e1) (List.getElem?_eq_getElem e2)⟩
 have hρ0:∀ (i n n':Nat),(canB P.globals.size C.k)[i]? = some n→ns[i]? = some n'→ρ0 P.globals.size ns n n':=fun i n n' h1 h2=>by
  obtain ⟨hi,rfl⟩:=canB_get h1
  exact .inr ⟨i,rfl,h2⟩
 have hname:∀ (i m m':Nat),(src.map (nmC P.globals.size kk))[i]? = some m→(src.map (nmU ns base))[i]? = some m'→ρ1 P.globals.size ns [kk] base m m':=fun i m m' h1 h2=>by
  rw [List.getElem?_map] at h1 h2
  cases hs:src[i]? with
  | none=>rw [hs] at h1; simp at h1
  | some o =>
   rw [hs] at h1 h2
   simp only [Option.map_some,Option.some.injEq] at h1 h2
   cases o with
   | none =>
    subst h1 h2
    exact .inr ⟨0,rfl,rfl⟩
   | some j =>
    have hjk:=hj j (List.mem_of_getElem? hs)
    subst h1 h2
    have e1:j < ns.length:=by rw [f1]; exact hjk
    refine .inl (.inr ⟨j,rfl,?_⟩)
    show ns[j]? = some (ns.getD j 0)
    rw [List.getD_eq_getElem?_getD,List.getElem?_eq_getElem e1]; rfl
 have hl1:(src.map (nmU ns base)).length=(C2.place (src.map (nmU ns base)) (next s)).length:=by rw [List.length_map,C2.len,hk]
 have hnmU:∀ o,o ∈ src→(o=none∧nmU ns base o=base) ∨ ∃ j,o=some j∧j < ns.length∧ns[j]? = some (nmU ns base o):=fun o ho=>by
  cases o with
  | none=>exact .inl ⟨rfl,rfl⟩
  | some j =>
   have e1:j < ns.length:=by rw [f1]; exact hj j ho
   exact .inr ⟨j,rfl,e1,by show ns[j]? = some (ns.getD j 0); rw [List.getD_eq_getElem?_getD,List.getElem?_eq_getElem e1]; rfl⟩
 have hinjU:∀ o o',o ∈ src→o' ∈ src→nmU ns base o=nmU ns base o'→o=o':=fun o o' h1 h2 e=>by
  rcases hnmU o h1 with ⟨rfl,e1⟩ | ⟨j,rfl,e1,e2⟩ <;> rcases hnmU o' h2 with ⟨rfl,e3⟩ | ⟨j',rfl,e3,e4⟩
  ·rfl
  ·rw [← e,e1] at e4
   exact absurd (List.mem_of_getElem? e4) hbn
  ·rw [e,e3] at e2
   exact absurd (List.mem_of_getElem? e2) hbn
  ·rw [e] at e2
   rw [inj_of_nodup hns e2 e4]
 have hnd1:(src.map (nmU ns base)).Nodup:=by
  have:List.Pairwise (fun a b=>nmU ns base a ≠ nmU ns base b) src:=by
   have:=List.Pairwise.and_mem.1 hnd
   exact this.imp fun ⟨h1,h2,h3⟩ e=>h3 (hinjU _ _ h1 h2 e)
  exact List.pairwise_map.2 this
 have hgone:∀ j,j ∈ goneJ ns.length src→j < ns.length∧some j ∉ src:=fun j hjm=>by
  unfold goneJ at hjm
  rw [List.mem_filter] at hjm
  refine ⟨List.mem_range.1 hjm.1,fun hm => ?_⟩
  have:=hjm.2
  simp [hm] at this
 have hgoneN:∀ j,j < ns.length→ns[j]? = some (ns.getD j 0):=fun j e1=>by
  rw [List.getD_eq_getElem?_getD,List.getElem?_eq_getElem e1]; rfl
 refine ⟨⟨nn,F,ns,[kk],.ptr P.globals.size 0::xs,_,P.globals.size+C.k,val (src.map (nmC P.globals.size kk)) s,H',fr',hns,?_,?_,?_,?_,hrun,?_,?_,?_,hv _ _ _ (by rw [List.length_map,hk]) (by rw [List.length_map,hk]) hname,?_,?_,?_⟩⟩
 ·intro n hn
  obtain ⟨i,hi,rfl⟩:=List.getElem_of_mem hn
  obtain ⟨n,c,e1,e2,e3⟩:=hcell i (by rw [← f1]; exact hi)
  rw [List.getElem?_eq_getElem hi] at e1
  cases e1
  exact .inl ⟨_,e3⟩
 ·exact .cons (.ptr (.inr ⟨0,rfl,f2⟩)) (.same hx)
 ·intro k o ho
  obtain ⟨i,c,h1,h2,rfl⟩:=heapOf_get ho
  obtain ⟨hi,rfl⟩:=canB_get h1
  obtain ⟨n,c',e1,e2,e3⟩:=hcell i hi
  exact ⟨i,n,_,rfl,e1,e3,false,c,c',rfl,rfl,hR _ _ _ (canB_len _ _) f1 hρ0 i c c' h2 e2⟩
 ·rw [f1]; exact Nat.le_refl _
 ·simp
 ·simp
 ·intro k hk
  simp at hk
  subst hk
  exact hkk
 ·unfold updE
  rw [List.map_append,putC_names hl1,List.map_map]
  refine List.nodup_append.2 ⟨hnd1,?_,?_⟩
  ·have hg:(goneJ ns.length src).Nodup:=by unfold goneJ; exact List.Pairwise.filter _ List.nodup_range
   have:List.Pairwise (fun a b=>ns.getD a 0 ≠ ns.getD b 0) (goneJ ns.length src):=by
    have:=List.Pairwise.and_mem.1 hg
    refine this.imp fun ⟨h1,h2,h3⟩ e=>h3 ?_
    have e1:=hgoneN _ (hgone _ h1).1
    have e2:=hgoneN _ (hgone _ h2).1
    rw [e] at e1
    exact inj_of_nodup hns e1 e2
   exact List.pairwise_map.2 this
  ·intro a ha b hb e
   subst e
   rw [List.mem_map] at ha hb
   obtain ⟨o,ho,rfl⟩:=ha
   obtain ⟨j,hjm,hje⟩:=hb
   obtain ⟨g1,g2⟩:=hgone j hjm
   have e1:=hgoneN j g1
   simp only [Function.comp] at hje
   rw [hje] at e1
   rcases hnmU o ho with ⟨rfl,e2⟩ | ⟨j',rfl,e2,e3⟩
   ·rw [e2] at e1
    exact hbn (List.mem_of_getElem? e1)
   ·rw [inj_of_nodup hns e1 e3] at g2
    exact g2 ho
 ·intro m x hmx
  unfold updE at hmx
  rcases List.mem_append.1 hmx with hmx | hmx
  ·obtain ⟨i,c,h1,h2,rfl⟩:=putC_mem hmx
   have hi:i < C2.k:=by
    have:=(List.getElem?_eq_some_iff.1 h2).1
    rwa [C2.len] at this
   have e1:i < (src.map (nmC P.globals.size kk)).length:=by rw [List.length_map,hk]; exact hi
   have e2:i < (C2.place (src.map (nmC P.globals.size kk)) (next s)).length:=by rw [C2.len]; exact hi
   have hb:=hback i _ _ (List.getElem?_eq_getElem e1) (List.getElem?_eq_getElem e2)
   have hRO:RO (ρ1 P.globals.size ns [kk] base) (.cells false (C2.place (src.map (nmC P.globals.size kk)) (next s))[i]) (.cells false c):=
    ⟨false,_,_,rfl,rfl,hR2 _ _ _ (by rw [List.length_map,hk]) (by rw [List.length_map,hk]) hname i _ _ (List.getElem?_eq_getElem e2) h2⟩
   have e3:i < src.length:=by rw [hk]; exact hi
   rw [List.getElem?_map,List.getElem?_eq_getElem e3] at h1
   simp only [Option.map_some,Option.some.injEq] at h1
   rw [List.getElem_map] at hb
   have hmem:src[i] ∈ src:=List.getElem_mem e3
   rcases hnmU _ hmem with ⟨g1,g2⟩ | ⟨j,g1,g2,g3⟩
   ·rw [g2] at h1
    rw [g1] at hb
    exact .inr ⟨0,kk,_,_,h1.symm,rfl,rfl,hb,rfl,hRO⟩
   ·rw [h1] at g3
    rw [g1] at hb
    exact .inl ⟨j,g3,.inr ⟨_,_,rfl,hb,rfl,hRO⟩⟩
  ·rw [List.mem_map] at hmx
   obtain ⟨j,hjm,he⟩:=hmx
   simp only [Prod.mk.injEq] at he
   obtain ⟨rfl,rfl⟩:=he
   exact .inl ⟨j,hgoneN j (hgone j hjm).1,.inl rfl⟩
 ·intro i n o hi ho hro
  have hik:i < ns.length:=(List.getElem?_eq_some_iff.1 hi).1
  unfold updE
  by_cases hin:some i ∈ src
  ·obtain ⟨q,hq,hqe⟩:=List.getElem_of_mem hin
   have e2:q < (C2.place (src.map (nmU ns base)) (next s)).length:=by rw [C2.len,← hk]; exact hq
   refine ⟨_,List.mem_append.2 (.inl (putC_of (i:=q) ?_ (List.getElem?_eq_getElem e2)))⟩
   rw [List.getElem?_map,List.getElem?_eq_getElem hq,hqe]
   show some (ns.getD i 0)=some n
   rw [← hgoneN i hik,hi]
  ·refine ⟨none,List.mem_append.2 (.inr (List.mem_map.2 ⟨i,?_,?_⟩))⟩
   ·unfold goneJ
    rw [List.mem_filter]
    exact ⟨List.mem_range.2 hik,by simp [hin]⟩
   ·have:=hgoneN i hik
    rw [hi] at this
    simp only [Option.some.injEq] at this
    rw [← this]
theorem methE_app {S S2:Type}{C:Cls S}{C2:Cls S2}{src:List (Option Nat)}{t:Nat}{val:List Nat→S→AVal}{next:S→S2}{ok:S→Bool}{H:HL}{base:Nat}{ns:List Nat}{s:S}
  (hf:C.find (aget H) t=some (ns,s)) (hn:nodupB (base::ns)=true) (ho:ok s=true) :
  (methE C C2 src t val next ok).app base H=some (val (src.map (nmU ns base)) s,appU H (updE ns base src (C2.place (src.map (nmU ns base)) (next s)))):=by
 unfold methE
 simp only [EffA.app,hf,hn,ho,Bool.and_self,cond_true]
def ansM (ns:List Nat) (x:Option ((AVal × HL × Nat) × List Bool)):Option (AVal × List (Option AObj) × List Bool):=
 match x with
 | some ((v,H,_),ob)=>some (v,ns.map (aget H),ob)
 | none=>none
theorem methRun_of {S S2:Type}{P:Program}{ps:PS}{cs:CS}(hps:PSOk ps cs){G:Nat}(hG:P.globals.size=G){f:FuncId}{C:Cls S}{C2:Cls S2}{src:List (Option Nat)}{xs:List AVal}{s:S}{v:List Nat→AVal}{s2:S2}
  {sy:List Nat} {os:List Bool} {vs:List AVal} {nn F:Nat} {ob:List Bool} (kk:Nat)
  (h:ansM (src.map (nmC G kk)) (run1O P ps cs sy os vs nn F f (.ptr G 0::xs) (heapOf (canB G C.k) (C.place (canB G C.k) s)) (G+C.k))=some (v (src.map (nmC G kk)),(C2.place (src.map (nmC G kk)) s2).map fun c=>some (.cells false c),ob))
  (ha:allT ob=true) (hkk:Nat.ble (G+C.k) kk=true):MethRun P cs f C C2 src xs s v s2:=by
 subst hG
 unfold ansM at h
 split at h
 ·rename_i v' H' fr' ob' hr
  simp only [Option.some.injEq,Prod.mk.injEq] at h
  obtain ⟨rfl,h2,rfl⟩:=h
  refine ⟨nn,F,H',fr',kk,run1O_ok hps hr ha,Nat.le_of_ble_eq_true hkk,fun i m c h1 h3 => ?_⟩
  have e:=congrArg (fun l=>l[i]?) h2
  simp only [List.getElem?_map] at e
  rw [List.getElem?_map] at h1
  cases hs:src[i]? with
  | none=>rw [hs] at h1; simp at h1
  | some o =>
   rw [hs] at h1
   simp only [Option.map_some,Option.some.injEq] at h1
   rw [hs,h3] at e
   simp only [Option.map_some,Option.some.injEq] at e
   rw [← h1]
   exact e
 ·cases h
def unU:List AVal→Option (List UInt64)
 | []=>some []
 | .u64 x::l=>match unU l with
  | some r=>some (x::r)
  | none=>none
 | _::_=>none
theorem unU_map:∀ L:List UInt64,unU (L.map .u64)=some L
 | []=>rfl
 | x::L=>by rw [List.map_cons,unU,unU_map L]
theorem unU_some:∀ {l:List AVal}{L:List UInt64},unU l=some L→l=L.map .u64
 | [],L,h=>by cases h; rfl
 | .u64 x::l,L,h=>by
  have e:unU (.u64 x::l)=(match unU l with
   | some r=>some (x::r)
   | none=>none):=rfl
  rw [e] at h
  cases hu:unU l with
  | none=>rw [hu] at h; cases h
  | some r =>
   rw [hu] at h
   cases h
   rw [unU_some hu]; rfl
 | .u8 _::_,_,h | .u32 _::_,_,h | .bool _::_,_,h | .b64 _::_,_,h | .int _ _::_,_,h | .str _::_,_,h | .nilPtr::_,_,h | .ptr _ _::_,_,h | .nilSlice::_,_,h | .slice _ _ _ _::_,_,h
 | .nilMap::_,_,h | .map _::_,_,h | .nilFunc::_,_,h | .fn _ _::_,_,h | .nilIface::_,_,h | .iface _ _::_,_,h | .agg _::_,_,h | .tup _::_,_,h | .tp _ _ _::_,_,h=>by cases h
end Go.Eng
namespace Go.Eng
open Go
def headX (dl:List Nat) (P:Program) (bs:Nat) (s0 s:SA):Option (SA × List Bool):=
 match renAllx dl P bs (pairsT s0.fr 0 s0.T s.T) s [] with
 | some (r,ob)=>some (⟨reshape s0.T r.T,reshapeH s0.H r.H++extraH s0.H s0.fr r.H,s0.fr⟩,ob)
 | none=>none
theorem headX_ok {dl:List Nat}{P:Program}{bs:Nat}{s0 s s1:SA}{ob:List Bool}(h:headX dl P bs s0 s=some (s1,ob)) (ha:allT ob=true) (ho:okS P s1=true):headA P bs s0 s=s1:=by
 unfold headX at h
 split at h
 ·rename_i r ob' hr
  simp only [Option.some.injEq,Prod.mk.injEq] at h
  obtain ⟨h1,rfl⟩:=h
  obtain ⟨e1,_⟩:=renAllx_ok hr ha
  refine headS_eq ?_ ho
  unfold headS
  simp only
  rw [e1]
  exact h1
 ·cases h
theorem round_of44 {P:Program}{cs:CS}{nt nn F bs:Nat}{b:Code}{s0 s s1 s2:SA}{dl:List Nat}{ob:List Bool}(he:evS P cs nt nn F bs (pieces b) s=some (.normal,s1)) (hh:headX dl P bs s0 s1=some (s2,ob)) (ha:allT ob=true) (ho:okS P s2=true) :
  roundA (evC P cs nt nn F bs b) (headA P bs s0) s=some s2:=by
 simp only [roundA,evC_pieces,he,headX_ok hh ha ho]
end Go.Eng
namespace Go.Eng
open Go
theorem plus1 {i:Nat}(h:i < 1000):eqS (.int .i64 (IntKind.wrap .i64 ((i:Int)+1))) (.int .i64 ((i+1:Nat):Int))=true:=eqS_i64 (by rw [wrapI _ (by omega) (by omega)]; omega)
theorem like_u {n i:Nat}{x:Nat→UInt64}(h:i < n):likeA ((cellsU n x).getD 0 (.bool false)) ((cellsU n x).getD ((i:Int).toNat * 1) (.bool false))=.u64 (x i):=by
 have e:(i:Int).toNat * 1=i:=by simp
 rw [e,getD_cellsU x h,getD_cellsU x (by omega:0 < n)]; rfl
theorem blt_i {i k:Nat}(h:i < k):Nat.blt ((i:Int).toNat * 1) k=true:=by simp [h]
theorem ble_i {i k:Nat}(h:i < k):Nat.ble (0+(i:Int).toNat * 1+1) k=true:=by simp; omega
theorem ltL_U (n k:Nat) (f:Nat→UInt64):ltL k (cellsU n f)=true:=by
 have:cellsU n f=((List.range n).map f).map .u64:=by simp [cellsU]
 rw [this]; exact ltL_u64 ..
theorem ltL_B (n k:Nat) (f:Nat→UInt8):ltL k (cellsB n f)=true:=by
 have:cellsB n f=((List.range n).map f).map .u8:=by simp [cellsB]
 rw [this]; exact ltL_u8 ..
theorem nat0 (i:Nat):decide (0≤(i:Int))=true:=by simp
def shAllB (c:List AVal):Bool:=match shB c.length c with
 | some []=>true
 | _=>false
theorem shAllB_ok {c:List AVal}(h:shAllB c=true):c=cellsB c.length (gB c):=by
 unfold shAllB at h
 split at h
 ·rename_i hs
  have:=shB_ok hs
  rwa [List.append_nil] at this
 ·cases h
theorem ltLm (k:Nat) (c:List UInt8):ltL k (c.map AVal.u8)=true:=ltL_u8 ..
theorem gB_map (c:List UInt8) (i:Nat):gB (c.map .u8) i=c.getD i 0:=by
 unfold gB
 rw [List.getElem?_map,List.getD_eq_getElem?_getD]
 cases c[i]? <;> rfl
theorem shAllB_map (c:List UInt8):shAllB (c.map AVal.u8)=true:=by
 have:∀ (l:List UInt8),shB (l.map AVal.u8).length (l.map AVal.u8)=some []:=by
  intro l
  induction l with
  | nil=>rfl
  | cons x l ih=>simp only [List.map_cons,List.length_cons,shB]; exact ih
 unfold shAllB
 rw [this]
theorem run_of {x:Option (AVal × HL × Nat)}{v:AVal}(h:x.map (·.1)=some v):∃ H' fr',x=some (v,H',fr'):=by
 cases x with
 | none=>cases h
 | some r =>
  obtain ⟨a,b,c⟩:=r
  simp only [Option.map_some,Option.some.injEq] at h
  subst h
  exact ⟨b,c,rfl⟩
def aggU (k:Nat):AVal→Option (Nat→UInt64)
 | .agg a=>match shU k a with
  | some []=>some (gU a)
  | _=>none
 | _=>none
theorem aggU_ok {k:Nat}{v:AVal}{a:Nat→UInt64}(h:aggU k v=some a):v=.agg (cellsU k a):=by
 unfold aggU at h
 split at h
 ·split at h
  ·rename_i hs
   cases h
   have:=shU_ok hs
   rw [List.append_nil] at this
   exact congrArg AVal.agg this
  ·cases h
 ·cases h
theorem shl_nat (x:UInt64) (k:Nat) (hk:k < 64) (h:x.toNat * 2 ^ k < 2 ^ 64):(shl_u64 x k).toNat=x.toNat * 2 ^ k:=by
 unfold shl_u64
 rw [Nat.ble_eq_true_of_le (show k≤63 by omega),cond_true,UInt64.toNat_shiftLeft,UInt64.toNat_ofNat',Nat.mod_eq_of_lt (show k < 2 ^ 64 by omega),Nat.mod_eq_of_lt hk,Nat.shiftLeft_eq,Nat.mod_eq_of_lt h]
theorem shr_nat (x:UInt64) (k:Nat) (hk:k < 64):(shr_u64 x k).toNat=x.toNat / 2 ^ k:=by
 unfold shr_u64
 rw [Nat.ble_eq_true_of_le (show k≤63 by omega),cond_true,UInt64.toNat_shiftRight,UInt64.toNat_ofNat',Nat.mod_eq_of_lt (show k < 2 ^ 64 by omega),Nat.mod_eq_of_lt hk,Nat.shiftRight_eq_div_pow]
end Go.Eng
namespace Go.Eng
open Go
end Go.Eng
namespace Go.Proofs.Ytjdhndicgifnbaa.Pol
open Go Go.Eng
def mask:FuncId→Nat:=fun f=>match f with | 2=>0 | 3=>365375409332725729947371552983878617215964020575 | 4=>784639213866387133023247008434189312784631789478851116831 | 5=>655347 | 6=>5070602410431437552423287133175 | 7=>4125 | 8=>35184372399935 | 9=>137438961631 | 10=>16778143 | 11=>730751515566397369200144221885464436550869712891 | 12=>19 | 13=>19 | 14=>19 | 15=>19 | 16=>5 | 17=>21 | 18=>2077 | 19=>562950221861831 | 20=>1125968626401039 | 21=>17 | 22=>8563 | 23=>4398046841723 | 24=>34359747783 | 25=>187 | 26=>30893 | 27=>1 | 28=>22397447421778042106060090491909247527140382423674543333598762184500590803345907219399002409819466366967 | 29=>33571891 | 30=>525 | 31=>7 | 32=>11 | 33=>7 | 34=>70369851475911 | 35=>17593268178703 | 36=>5 | 37=>1043 | 38=>4303411983 | 39=>5 | 40=>140737505133811 | 41=>144115222574037775 | 42=>1033053696924754020339 | 43=>5 | 44=>27 | 45=>7 | 46=>65735 | 47=>537399539 | 48=>1087 | 49=>5 | 50=>16781363 | 51=>33571015 | 52=>70368744194163 | 53=>67125491 | 54=>268436551 | 55=>8423183 | 56=>5 | 57=>140806744703219 | 58=>8796244086543 | 59=>1075 | 60=>609885634319 | 61=>528143 | 62=>125 | 63=>5 | 64=>51 | 65=>14451 | 66=>66483 | 67=>15 | 68=>262411 | 69=>19 | 70=>283602206479 | 71=>783 | 72=>157 | 73=>4157 | 74=>19 | 75=>127 | 76=>4551 | 77=>309513344275821599845253107 | 78=>2013 | 79=>590296091842272313287 | 80=>39614081552298092776981266419 | 81=>5 | 82=>269353199 | 83=>928456800891898357834874823 | 84=>281475043836915 | 85=>95 | 86=>511 | 87=>4313087 | 88=>34359787583 | 89=>51 | 90=>51 | 91=>5 | 92=>5 | 93=>1087 | 94=>9671406628976826459979775 | 95=>4503599627442175 | 96=>2147516543 | 97=>116767 | 98=>1073742391 | 99=>524353 | 100=>51 | _=>0
theorem hmix:Try.prog.follows .mixedOrders=true:=by kernel_rfl
def bodyOf (f:Func):Code:=f.body.getD .skip
theorem gl:Try.prog.globals.size=0:=by kernel_rfl
end Go.Proofs.Ytjdhndicgifnbaa.Pol
namespace Go.Proofs.Ytjdhndicgifnbaa.Tun
open Go Go.Eng Go.Proofs.Ytjdhndicgifnbaa
abbrev mask:=Pol.mask
theorem hmix:Try.prog.follows .mixedOrders=true:=Pol.hmix
theorem gl:Try.prog.globals.size=0:=Pol.gl
structure Wn where
 sz:UInt64
 L:List UInt64
 hi:UInt64
 any:Bool
def wPlace (ns:List Nat) (s:Wn):List (List AVal):=[[.u64 s.sz,.slice (ns.getD 1 0) 0 s.L.length 1,.u64 s.hi,.bool s.any],s.L.map .u64]
def wFind (η:Nat→Option AObj) (w:Nat):Option (List Nat × Wn):=
 match η w with
 | some (.cells false [.u64 sz,.slice b 0 q 1,.u64 hi,.bool any])=>match η b with
  | some (.cells false l)=>match unU l with
   | some L=>cond (Nat.beq q L.length) (some ([w,b],⟨sz,L,hi,any⟩)) none
   | none=>none
  | _=>none
 | _=>none
theorem wFind_ok {η:Nat→Option AObj}{t:Nat}{ns:List Nat}{s:Wn}(h:wFind η t=some (ns,s)):ns.length=2∧ns[0]? = some t∧∀ (i n:Nat) (c:List AVal),ns[i]? = some n→(wPlace ns s)[i]? = some c→η n=some (.cells false c):=by
 unfold wFind at h
 split at h
 ·rename_i sz b q hi any h0
  split at h
  ·rename_i l h1
   split at h
   ·rename_i L hu
    cases hq:Nat.beq q L.length <;> rw [hq] at h <;> simp only [cond_true,cond_false] at h
    ·cases h
    ·simp only [Option.some.injEq,Prod.mk.injEq] at h
     obtain ⟨rfl,rfl⟩:=h
     have hq:=Nat.eq_of_beq_eq_true hq
     subst hq
     refine ⟨rfl,rfl,fun i n c e1 e2 => ?_⟩
     match i,e1,e2 with
     | 0,e1,e2=>cases e1; cases e2; exact h0
     | 1,e1,e2=>cases e1; cases e2; rw [h1,unU_some hu]
     | i+2,e1,e2=>simp at e1
   ·cases h
  ·cases h
 ·cases h
def clsW:Cls Wn:=⟨2,wPlace,wFind,fun _ _=>rfl,wFind_ok⟩
theorem at1 {ns:List Nat}{i:Nat}(h:i < ns.length):ns[i]? = some (ns.getD i 0):=by
 rw [List.getD_eq_getElem?_getD,List.getElem?_eq_getElem h]; rfl
theorem relW (s:Wn):clsW.Rel s:=fun ρ ns ns' h1 h2 hρ i c c' e1 e2=>by
 have k1:ρ (ns.getD 1 0) (ns'.getD 1 0):=hρ 1 _ _ (at1 (by rw [h1]; decide)) (at1 (by rw [h2]; decide))
 match i,e1,e2 with
 | 0,e1,e2 =>
  cases e1; cases e2
  exact .cons (.same rfl) (.cons (.slice k1) (.cons (.same rfl) (.cons (.same rfl) (.nil _))))
 | 1,e1,e2 =>
  cases e1; cases e2
  exact .same (ltL_u64 0 s.L)
 | i+2,e1,e2=>simp [clsW,wPlace] at e1
theorem wFind_at {H:HL}{w b:Nat}{s:Wn}(h0:aget H w=some (.cells false [.u64 s.sz,.slice b 0 s.L.length 1,.u64 s.hi,.bool s.any])) (h1:aget H b=some (.cells false (s.L.map .u64))):wFind (aget H) w=some ([w,b],s):=by
 unfold wFind
 rw [h0]
 simp only [h1,unU_map]
 have:Nat.beq s.L.length s.L.length=true:=Nat.beq_refl _
 rw [this]
 rfl
def hW (w b:Nat) (s:Wn):HL:=[(w,.cells false [.u64 s.sz,.slice b 0 s.L.length 1,.u64 s.hi,.bool s.any]),(b,.cells false (s.L.map .u64))]
def oW (b:Nat) (s:Wn):List (Option AObj):=[some (.cells false [.u64 s.sz,.slice b 0 s.L.length 1,.u64 s.hi,.bool s.any]),some (.cells false (s.L.map .u64))]
def srcW:List (Option Nat):=[some 0,some 1]
def bitI (n sz:UInt64):Nat:=0+((Int.toNat ((UInt64.toNat (n % sz / 64):Nat):Int)) * 1)
def bitM (n sz:UInt64):UInt64:=shl_u64 1 (UInt64.toNat (n % sz % 64))
def bitO (n:UInt64) (s:Wn):List Bool:=[decide (0≤((UInt64.toNat (n % s.sz / 64):Nat):Int)) && decide (((UInt64.toNat (n % s.sz / 64):Nat):Int) < (s.L.length:Int)),!(s.sz == 0)]
theorem w64 (s:Wn) (n:UInt64):ansM [0,1] (run1O Try.prog noPS noCS [11,18] [] [] (mask 64) 100 64 [.ptr 0 0,.u64 n] (hW 0 1 s) 2)=some (.tup [.ptr 1 (bitI n s.sz),.u64 (bitM n s.sz)],oW 1 s,bitO n s):=by kernel_rfl
def v64 (n:UInt64) (ns:List Nat) (s:Wn):AVal:=.tup [.ptr (ns.getD 1 0) (bitI n s.sz),.u64 (bitM n s.sz)]
def g64:List AVal→Option EffA
 | [.ptr w 0,.u64 n]=>some (methE clsW clsW srcW w (v64 n) id fun s=>allT (bitO n s))
 | _=>none
theorem g64_ok:CSOk Try.prog (csOne 64 g64):=csOne_ok fun args e he=>by
 unfold g64 at he
 split at he
 ·rename_i w n
  cases he
  refine meth_ok (noCS_ok _) hmix rfl (by decide) (by decide) (by intro j hj; simp [srcW] at hj; show j < 2; omega) rfl fun s hs=>⟨relW s,relW s,?_,?_⟩
  ·intro ρ ns ns' l1 l2 hρ
   exact .tupL (.cons (.ptr (hρ 1 _ _ (at1 (by rw [l1]; decide)) (at1 (by rw [l2]; decide)))) (.cons (.same rfl) (.nil _)))
  ·exact methRun_of (noPS_ok _) gl 2 (w64 s n) hs rfl
 ·cases he
end Go.Proofs.Ytjdhndicgifnbaa.Tun
namespace Go.Proofs.Ytjdhndicgifnbaa.Tun
open Go Go.Eng Go.Proofs.Ytjdhndicgifnbaa
noncomputable def mOb (e:EffA) (base:Nat) (H:HL) (v:AVal) (H':HL):Bool:=decP (e.app base H=some (v,H'))
theorem mW {val:List Nat→Wn→AVal}{next:Wn→Wn}{ok:Wn→Bool}{s:Wn}{base:Nat}(hb:nodupB [base,0,1]=true) (ho:ok s=true):mOb (methE clsW clsW srcW 0 val next ok) base (hW 0 1 s) (val [0,1] s) (hW 0 1 (next s))=true:=by
 refine decP_of ?_
 rw [methE_app (C:=clsW) (C2:=clsW) (ns:=[0,1]) (s:=s) (wFind_at (w:=0) (b:=1) rfl rfl) hb ho]
 rfl
def okW (s:Wn):Bool:=!(s.sz == 0) && decide (s.sz.toNat≤64 * s.L.length)
theorem okW_parts {s:Wn}(h:okW s=true):s.sz ≠ 0∧0 < s.sz.toNat∧s.sz.toNat≤64 * s.L.length:=by
 unfold okW at h
 simp only [Bool.and_eq_true,Bool.not_eq_true',beq_eq_false_iff_ne,ne_eq,decide_eq_true_eq] at h
 refine ⟨h.1,?_,h.2⟩
 rcases Nat.eq_zero_or_pos s.sz.toNat with e | e
 ·exact absurd (UInt64.toNat_inj.1 (e.trans rfl)) h.1
 ·exact e
theorem bit_lt {s:Wn}(h:okW s=true) (n:UInt64):(n % s.sz / 64).toNat < s.L.length:=by
 obtain ⟨_,h1,h2⟩:=okW_parts h
 rw [UInt64.toNat_div,UInt64.toNat_mod]
 have:=Nat.mod_lt n.toNat h1
 have e:(64:UInt64).toNat=64:=rfl
 rw [e]
 omega
theorem bitO_ok {s:Wn}(h:okW s=true) (n:UInt64):allT (bitO n s)=true:=by
 have h1:=bit_lt h n
 have h2:=(okW_parts h).1
 have e1:(decide (0≤((UInt64.toNat (n % s.sz / 64):Nat):Int)) && decide (((UInt64.toNat (n % s.sz / 64):Nat):Int) < (s.L.length:Int)))=true:=by
  simp only [Bool.and_eq_true,decide_eq_true_eq]; omega
 have e2:(s.sz == 0)=false:=by simpa using h2
 unfold bitO
 simp only [allT,e1,e2,Bool.not_false,cond_true]
theorem bitI_eq (n sz:UInt64):bitI n sz=(n % sz / 64).toNat:=by
 unfold bitI
 rw [Int.toNat_natCast]
 omega
theorem w63 (s:Wn):ansM [0,1] (run1O Try.prog noPS noCS [] [] [] (mask 63) 100 63 [.ptr 0 0] (hW 0 1 s) 2)=some (.bool false,oW 1 s,[]):=by kernel_rfl
theorem w63n:(run1 Try.prog noCS (mask 63) 100 63 [.nilPtr] [] Try.prog.globals.size).map (·.1)=some (.bool true):=by kernel_rfl
def g63:List AVal→Option EffA
 | [.ptr w 0]=>some (methE clsW clsW srcW w (fun _ _=>.bool false) id fun _=>true)
 | [.nilPtr]=>some (.pure (.bool true))
 | _=>none
theorem srcW_lt:∀ j,some j ∈ srcW→j < 2:=by intro j hj; simp [srcW] at hj; omega
theorem g63_ok:CSOk Try.prog (csOne 63 g63):=csOne_ok fun args e he=>by
 unfold g63 at he
 split at he
 ·cases he
  exact meth_ok (noCS_ok _) hmix rfl (by decide) (by decide) srcW_lt rfl fun s hs=>⟨relW s,relW s,.plain rfl,methRun_of (noPS_ok _) gl 2 (w63 s) rfl rfl⟩
 ·cases he
  exact callOk_val (noCS_ok _) hmix w63n rfl rfl
 ·cases he
def csA:CS:=csAlt (csOne 63 g63) (csOne 64 g64)
theorem csA_ok:CSOk Try.prog csA:=csAlt_ok g63_ok g64_ok
def bkW (s:Wn):List AVal:=[.ptr 0 0,.agg [.u64 s.sz,.slice 1 0 s.L.length 1,.u64 s.hi,.bool s.any],.ptr 1 0,.agg (s.L.map .u64)]
noncomputable def o63 (base:Nat) (s:Wn):Bool:=mOb (methE clsW clsW srcW 0 (fun _ _=>.bool false) id fun _=>true) base (hW 0 1 s) (.bool false) (hW 0 1 s)
noncomputable def o64 (base:Nat) (n:UInt64) (s:Wn):Bool:=mOb (methE clsW clsW srcW 0 (v64 n) id fun s=>allT (bitO n s)) base (hW 0 1 s) (.tup [.ptr 1 (bitI n s.sz),.u64 (bitM n s.sz)]) (hW 0 1 s)
theorem o63_ok {base:Nat}(hb:nodupB [base,0,1]=true) (s:Wn):o63 base s=true:=mW (val:=fun _ _=>.bool false) (next:=id) (ok:=fun _=>true) (s:=s) hb rfl
theorem o64_ok {base:Nat}(hb:nodupB [base,0,1]=true){s:Wn}(h:okW s=true) (n:UInt64):o64 base n s=true:=mW (val:=v64 n) (next:=id) (ok:=fun s=>allT (bitO n s)) (s:=s) hb (bitO_ok h n)
def sy40:List Nat:=[300009,22,35,300039,44,47]
section
variable (sz n hi g:UInt64) (L:List UInt64)
theorem w40n:(run1 Try.prog csA (mask 40) 100 40 [.nilPtr,.u64 n] [] Try.prog.globals.size).map (·.1)=some (.int .i64 1):=by kernel_rfl
theorem w40a:ansM [0,1] (run1O Try.prog noPS csA sy40 [] [.bool false,.tup (bkW ⟨sz,L,hi,false⟩)] (mask 40) 100 40 [.ptr 0 0,.u64 n] (hW 0 1 ⟨sz,L,hi,false⟩) 2)=some (.int .i64 0,oW 1 ⟨sz,L,hi,false⟩,[o63 18 ⟨sz,L,hi,false⟩]):=by kernel_rfl
theorem w40b:ansM [0,1] (run1O Try.prog noPS csA sy40 [true] [.bool false,.tup (bkW ⟨sz,L,hi,true⟩)] (mask 40) 100 40 [.ptr 0 0,.u64 n] (hW 0 1 ⟨sz,L,hi,true⟩) 2)=some (.int .i64 0,oW 1 ⟨sz,L,hi,true⟩,[decide (hi < n),o63 18 ⟨sz,L,hi,true⟩]):=by kernel_rfl
theorem w40c:ansM [0,1] (run1O Try.prog noPS csA sy40 [false,true] [.bool false,.tup (bkW ⟨sz,L,hi,true⟩)] (mask 40) 100 40 [.ptr 0 0,.u64 n] (hW 0 1 ⟨sz,L,hi,true⟩) 2)=some (.int .i64 170,oW 1 ⟨sz,L,hi,true⟩,[decide (sz≤hi - n),!decide (hi < n),o63 18 ⟨sz,L,hi,true⟩]):=by kernel_rfl
theorem w40d:ansM [0,1] (run1O Try.prog noPS csA sy40 [false,false,true] [.bool false,.tup (bkW ⟨sz,L,hi,true⟩),.tup [.ptr 1 (bitI n sz),.u64 (bitM n sz)],.tup (bkW ⟨sz,L,hi,true⟩),.u64 g] (mask 40) 100 40 [.ptr 0 0,.u64 n] (hW 0 1 ⟨sz,L,hi,true⟩) 2)=some (.int .i64 9,oW 1 ⟨sz,L,hi,true⟩,
 [(g &&& bitM n sz) != 0,isAt (L.map .u64) (bitI n sz) (.u64 g),o64 258 n ⟨sz,L,hi,true⟩,!decide (sz≤hi - n),!decide (hi < n),o63 18 ⟨sz,L,hi,true⟩]):=by kernel_rfl
theorem w40e:ansM [0,1] (run1O Try.prog noPS csA sy40 [false,false,false] [.bool false,.tup (bkW ⟨sz,L,hi,true⟩),.tup [.ptr 1 (bitI n sz),.u64 (bitM n sz)],.tup (bkW ⟨sz,L,hi,true⟩),.u64 g] (mask 40) 100 40 [.ptr 0 0,.u64 n] (hW 0 1 ⟨sz,L,hi,true⟩) 2)=some (.int .i64 0,oW 1 ⟨sz,L,hi,true⟩,
 [!((g &&& bitM n sz) != 0),isAt (L.map .u64) (bitI n sz) (.u64 g),o64 258 n ⟨sz,L,hi,true⟩,!decide (sz≤hi - n),!decide (hi < n),o63 18 ⟨sz,L,hi,true⟩]):=by kernel_rfl
end
def bitAt (s:Wn) (n:UInt64):Bool:=(s.L.getD (n % s.sz / 64).toNat 0 &&& bitM n s.sz) != 0
def mayW (n:UInt64) (s:Wn):Int:=cond s.any (cond (decide (s.hi < n)) 0 (cond (decide (s.sz≤s.hi - n)) 170 (cond (bitAt s n) 9 0))) 0
def g40:List AVal→Option EffA
 | [.ptr w 0,.u64 n]=>some (methE clsW clsW srcW w (fun _ s=>.int .i64 (mayW n s)) id okW)
 | [.nilPtr,.u64 n]=>some (.pure (.int .i64 1))
 | _=>none
theorem getW {s:Wn}(h:okW s=true) (n:UInt64):isAt (s.L.map .u64) (bitI n s.sz) (.u64 (s.L.getD (n % s.sz / 64).toNat 0))=true:=by
 refine isAt_of ?_ (by simp [eqS])
 rw [bitI_eq,List.getElem?_map,List.getD_eq_getElem?_getD,List.getElem?_eq_getElem (bit_lt h n)]
 rfl
theorem run40 {s:Wn}(h:okW s=true) (n:UInt64):MethRun Try.prog csA 40 clsW clsW srcW [.u64 n] s (fun _=>.int .i64 (mayW n s)) s:=by
 have n1:nodupB [18,0,1]=true:=rfl
 have n2:nodupB [258,0,1]=true:=rfl
 have hg:=getW h n
 obtain ⟨sz,L,hi,any⟩:=s
 cases any with
 | false=>exact methRun_of (noPS_ok _) gl 2 (w40a sz n hi L) (by simp only [allT,o63_ok n1,cond_true]) rfl
 | true =>
  have ob1:=o64_ok n2 h n
  have ob2:=o63_ok n1 (⟨sz,L,hi,true⟩:Wn)
  unfold mayW bitAt
  cases h1:decide (hi < n) with
  | true =>
   simp only [h1,cond_true]
   exact methRun_of (noPS_ok _) gl 2 (w40b sz n hi L) (by simp only [allT,ob2,h1,cond_true]) rfl
  | false =>
   cases h2:decide (sz≤hi - n) with
   | true =>
    simp only [h1,h2,cond_true,cond_false]
    exact methRun_of (noPS_ok _) gl 2 (w40c sz n hi L) (by simp only [allT,ob2,h1,h2,Bool.not_false,cond_true]) rfl
   | false =>
    cases h3:((L.getD (n % sz / 64).toNat 0 &&& bitM n sz) != 0) with
    | true =>
     simp only [h1,h2,h3,cond_true,cond_false]
     exact methRun_of (noPS_ok _) gl 2 (w40d sz n hi (L.getD (n % sz / 64).toNat 0) L) (by simp only [allT,ob1,ob2,h1,h2,h3,hg,Bool.not_false,cond_true]) rfl
    | false =>
     simp only [h1,h2,h3,cond_true,cond_false]
     exact methRun_of (noPS_ok _) gl 2 (w40e sz n hi (L.getD (n % sz / 64).toNat 0) L) (by simp only [allT,ob1,ob2,h1,h2,h3,hg,Bool.not_false,cond_true]) rfl
theorem g40_ok:CSOk Try.prog (csOne 40 g40):=csOne_ok fun args e he=>by
 unfold g40 at he
 split at he
 ·cases he
  exact meth_ok csA_ok hmix rfl (by decide) (by decide) srcW_lt rfl fun s hs=>⟨relW s,relW s,.plain rfl,run40 hs _⟩
 ·cases he
  exact callOk_val csA_ok hmix (w40n _) rfl rfl
 ·cases he
end Go.Proofs.Ytjdhndicgifnbaa.Tun
namespace Go.Proofs.Ytjdhndicgifnbaa.Tun
open Go Go.Eng Go.Proofs.Ytjdhndicgifnbaa
def csB:CS:=csAlt (csOne 40 g40) csA
theorem csB_ok:CSOk Try.prog csB:=csAlt_ok g40_ok csA_ok
def sy42:List Nat:=[100047,300013,15,29,41,61,300093,98,100097,100101]
noncomputable def o40 (base:Nat) (n:UInt64) (s:Wn) (x:Int):Bool:=mOb (methE clsW clsW srcW 0 (fun _ s=>.int .i64 (mayW n s)) id okW) base (hW 0 1 s) (.int .i64 x) (hW 0 1 s)
theorem o40_ok {base:Nat}(hb:nodupB [base,0,1]=true){s:Wn}(h:okW s=true){n:UInt64}{x:Int}(hx:mayW n s=x):o40 base n s x=true:=by
 subst hx
 exact mW (val:=fun _ s=>.int .i64 (mayW n s)) (next:=id) (ok:=okW) (s:=s) hb h
def zL (L:List UInt64):List UInt64:=List.replicate L.length 0
def rawL (L:List UInt64):List AVal:=putA (L.map .u64) 0 (zrow (cellsA (.u64 0)) (L.length * (cellsA (.u64 0)).length))
theorem rawL_eq (L:List UInt64):rawL L=(zL L).map .u64:=by
 unfold rawL zL
 show putA (L.map .u64) 0 (List.replicate (L.length * 1) (.u64 0))=_
 rw [Nat.mul_one,List.map_replicate]
 unfold putA
 simp
theorem zL_len (L:List UInt64):(zL L).length=L.length:=by unfold zL; simp
def hR (sz n:UInt64) (L:List UInt64):HL:=[(0,.cells false [.u64 sz,.slice 1 0 L.length 1,.u64 n,.bool true]),(1,.cells false (rawL L))]
theorem hR_eq (sz n:UInt64) (L:List UInt64):hR sz n L=hW 0 1 ⟨sz,zL L,n,true⟩:=by
 unfold hR hW
 rw [rawL_eq,zL_len]
noncomputable def o64r (base:Nat) (n sz:UInt64) (L:List UInt64):Bool:=mOb (methE clsW clsW srcW 0 (v64 n) id fun s=>allT (bitO n s)) base (hR sz n L) (.tup [.ptr 1 (bitI n sz),.u64 (bitM n sz)]) (hW 0 1 ⟨sz,zL L,n,true⟩)
def clrO (L:List UInt64):Bool:=!(Nat.beq L.length 0) && ((Nat.ble 1 (cellsA (.u64 0)).length && (zrow (cellsA (.u64 0)) (L.length * (cellsA (.u64 0)).length)).all oneA) && Nat.ble (0+L.length * (cellsA (.u64 0)).length) (L.map AVal.u64).length)
def putO (L:List UInt64) (n sz x:UInt64):Bool:=Nat.ble (bitI n sz+(cellsA (.u64 x)).length) (L.map AVal.u64).length
def fin42 (sz hi x:UInt64) (L:List UInt64) (n:UInt64):List (Option AObj):=[some (.cells false [.u64 sz,.slice 1 0 L.length 1,.u64 hi,.bool true]),some (.cells false (putA (L.map .u64) (bitI n sz) (cellsA (.u64 x))))]
section
variable (sz n hi g:UInt64) (L:List UInt64) (x:Int) (any:Bool)
theorem w42e:ansM [0,1] (run1O Try.prog noPS csB sy42 [true] [.int .i64 x,.tup (bkW ⟨sz,L,hi,any⟩)] (mask 42) 100 42 [.ptr 0 0,.u64 n] (hW 0 1 ⟨sz,L,hi,any⟩) 2)=some (.int .i64 x,oW 1 ⟨sz,L,hi,any⟩,[x != 0,o40 26 n ⟨sz,L,hi,any⟩ x]):=by kernel_rfl
theorem w42a:ansM [0,1] (run1O Try.prog noPS csB sy42 [] [.int .i64 0,.tup (bkW ⟨sz,L,hi,false⟩),.tup [.ptr 1 (bitI n sz),.u64 (bitM n sz)],.tup (bkW ⟨sz,zL L,n,true⟩),.u64 0] (mask 42) 100 42 [.ptr 0 0,.u64 n] (hW 0 1 ⟨sz,L,hi,false⟩) 2)=some (.int .i64 0,fin42 sz n (0 ||| bitM n sz) (zL L) n,
 [putO (zL L) n sz (0 ||| bitM n sz),isAt ((zL L).map .u64) (bitI n sz) (.u64 0),o64r 402 n sz L,clrO L,o40 26 n ⟨sz,L,hi,false⟩ 0]):=by kernel_rfl
theorem w42b:ansM [0,1] (run1O Try.prog noPS csB sy42 [false,true,true] [.int .i64 0,.tup (bkW ⟨sz,L,hi,true⟩),.tup [.ptr 1 (bitI n sz),.u64 (bitM n sz)],.tup (bkW ⟨sz,zL L,n,true⟩),.u64 0] (mask 42) 100 42 [.ptr 0 0,.u64 n] (hW 0 1 ⟨sz,L,hi,true⟩) 2)=some (.int .i64 0,fin42 sz n (0 ||| bitM n sz) (zL L) n,
 [putO (zL L) n sz (0 ||| bitM n sz),isAt ((zL L).map .u64) (bitI n sz) (.u64 0),o64r 402 n sz L,clrO L,decide (sz≤n - hi),decide (hi < n),true,o40 26 n ⟨sz,L,hi,true⟩ 0]):=by kernel_rfl
theorem w42c:ansM [0,1] (run1O Try.prog noPS csB sy42 [false,false,false] [.int .i64 0,.tup (bkW ⟨sz,L,hi,true⟩),.tup [.ptr 1 (bitI n sz),.u64 (bitM n sz)],.tup (bkW ⟨sz,L,hi,true⟩),.u64 g] (mask 42) 100 42 [.ptr 0 0,.u64 n] (hW 0 1 ⟨sz,L,hi,true⟩) 2)=some (.int .i64 0,fin42 sz hi (g ||| bitM n sz) L n,
 [putO L n sz (g ||| bitM n sz),isAt (L.map .u64) (bitI n sz) (.u64 g),o64 346 n ⟨sz,L,hi,true⟩,!decide (hi < n),!decide (hi < n),true,o40 26 n ⟨sz,L,hi,true⟩ 0]):=by kernel_rfl
end
def setL (n sz:UInt64) (L:List UInt64):List UInt64:=L.set (n % sz / 64).toNat (L.getD (n % sz / 64).toNat 0 ||| bitM n sz)
theorem setL_len (n sz:UInt64) (L:List UInt64):(setL n sz L).length=L.length:=by unfold setL; simp
theorem fin42_eq {sz hi n:UInt64}{L:List UInt64}(h:okW ⟨sz,L,hi,true⟩=true):fin42 sz hi (L.getD (n % sz / 64).toNat 0 ||| bitM n sz) L n=oW 1 ⟨sz,setL n sz L,hi,true⟩:=by
 have hb:=bit_lt h n
 unfold fin42 oW
 rw [bitI_eq]
 have e:putA (L.map .u64) (n % sz / 64).toNat (cellsA (.u64 (L.getD (n % sz / 64).toNat 0 ||| bitM n sz)))=(setL n sz L).map .u64:=putA_map .u64 L _ _ hb
 rw [e,setL_len]
theorem putO_ok {sz hi n x:UInt64}{L:List UInt64}(h:okW ⟨sz,L,hi,true⟩=true):putO L n sz x=true:=by
 unfold putO
 rw [bitI_eq,List.length_map]
 exact Nat.ble_eq_true_of_le (bit_lt h n)
theorem okW_any {sz hi hi':UInt64}{L L':List UInt64}{a a':Bool}(hl:L'.length=L.length) (h:okW ⟨sz,L,hi,a⟩=true):okW ⟨sz,L',hi',a'⟩=true:=by
 unfold okW at *
 rw [hl]
 exact h
theorem clrO_ok {sz hi:UInt64}{L:List UInt64}{a:Bool}(h:okW ⟨sz,L,hi,a⟩=true):clrO L=true:=by
 obtain ⟨_,h1,h2⟩:=okW_parts h
 have hl:0 < L.length:=by
  simp only at h1 h2
  omega
 have e1:Nat.beq L.length 0=false:=by
  cases hb:Nat.beq L.length 0 with
  | false=>rfl
  | true=>have:=Nat.eq_of_beq_eq_true hb; omega
 have e2:(zrow (cellsA (.u64 0)) (L.length * (cellsA (.u64 0)).length)).all oneA=true:=by
  show (List.replicate (L.length * 1) (AVal.u64 0)).all oneA=true
  rw [List.all_eq_true]
  intro x hx
  rw [List.eq_of_mem_replicate hx]
  rfl
 have e3:Nat.ble (0+L.length * (cellsA (.u64 0)).length) (L.map AVal.u64).length=true:=by
  rw [List.length_map]
  exact Nat.ble_eq_true_of_le (by show 0+L.length * 1≤L.length; omega)
 unfold clrO
 rw [e1,e2,e3]
 rfl
theorem o64r_ok {base:Nat}(hb:nodupB [base,0,1]=true){sz n:UInt64}{L:List UInt64}(h:okW ⟨sz,zL L,n,true⟩=true):o64r base n sz L=true:=by
 unfold o64r
 rw [hR_eq]
 exact o64_ok hb h n
theorem zL_get (L:List UInt64) (i:Nat):(zL L).getD i 0=0:=by
 unfold zL
 rw [List.getD_eq_getElem?_getD,List.getElem?_replicate]
 split <;> rfl
end Go.Proofs.Ytjdhndicgifnbaa.Tun
namespace Go.Proofs.Ytjdhndicgifnbaa.Tun
open Go Go.Eng Go.Proofs.Ytjdhndicgifnbaa
set_option maxRecDepth 1000000
def bodyOf (f:Func):Code:=f.body.getD .skip
def blkOf:Code→Code
 | .block _ c=>c
 | c=>c
def thnOf:Code→Code
 | .cond _ a _=>a
 | c=>c
def elsOf:Code→Code
 | .cond _ _ a=>a
 | c=>c
noncomputable def p42:List Code:=pieces (bodyOf Try.f42)
noncomputable def q42:Code:=blkOf (p42.getD 4 .skip)
noncomputable def pa42:List Code:=pieces q42
noncomputable def ce42:Code:=elsOf (pa42.getD 1 .skip)
noncomputable def pb42:List Code:=pieces ce42
noncomputable def ct42:Code:=thnOf (pb42.getD 1 .skip)
noncomputable def pc42:List Code:=pieces ct42
noncomputable def bl42:Code:=loopOf (pc42.getD 1 .skip)
theorem p42_eq:pieces (bodyOf Try.f42)=p42.take 4++(.block 0 q42::p42.drop 5):=by kernel_rfl
theorem pa42_eq:pieces q42=pa42.take 1++[.cond (.tmp 17) (thnOf (pa42.getD 1 .skip)) ce42]:=by kernel_rfl
theorem pb42_eq:pieces ce42=pb42.take 1++[.cond (.tmp 55) ct42 (elsOf (pb42.getD 1 .skip))]:=by kernel_rfl
theorem pc42_eq:pieces ct42=pc42.take 1++(.block 1 (.loop bl42)::pc42.drop 2):=by kernel_rfl
end Go.Proofs.Ytjdhndicgifnbaa.Tun
namespace Go.Proofs.Ytjdhndicgifnbaa.Tun
open Go Go.Eng Go.Proofs.Ytjdhndicgifnbaa
set_option maxRecDepth 1000000
theorem run1_all {P:Program}{cs:CS}{nn F:Nat}{f:FuncId}{fn:Func}{c:Code}{args:List AVal}{H:HL}{fr:Nat}(hf:P.funcs[f]? = some fn) (hb:fn.body=some c) (hn:Nat.ble args.length fn.ntmps=true){s:SA}{v:AVal}
  (he:evS P cs fn.ntmps nn F fr (pieces c) ⟨startT args 0,H,fr⟩=some (.ret,s)) (hr:resA P s.T s.H fn.results.toList=some [v]):run1 P cs nn F f args H fr=some (v,s.H,s.fr):=by
 unfold run1
 simp only [hf,hb]
 unfold runF
 rw [hn,evC_pieces,he]
 simp only [cond_true,hr]
def TA (n:UInt64):TL:=[(0,.ptr 0 0),(1,.u64 n),(4,.int .i64 0),(5,.int .i64 0),(15,.bool false)]
def TB (n:UInt64):TL:=[(0,.ptr 0 0),(1,.u64 n),(4,.int .i64 0),(5,.int .i64 0),(15,.bool false),(17,.bool false)]
def TC (n:UInt64):TL:=[(0,.ptr 0 0),(1,.u64 n),(4,.int .i64 0),(5,.int .i64 0),(15,.bool false),(17,.bool false),(55,.bool true)]
def TD (n hi x:UInt64):TL:=[(0,.ptr 0 0),(1,.u64 n),(4,.int .i64 0),(5,.int .i64 0),(15,.bool false),(17,.bool false),(55,.bool true),(67,.u64 (n - hi)),(68,.u64 x)]
def TE (n hi x:UInt64):TL:=[(0,.ptr 0 0),(1,.u64 n),(4,.int .i64 0),(5,.int .i64 0),(15,.bool false),(17,.bool false),(55,.bool true),(67,.u64 (n - hi)),(68,.u64 x),(69,.bool false)]
def TF (n hi x sz:UInt64):TL:=[(0,.ptr 0 0),(1,.u64 n),(4,.int .i64 0),(5,.int .i64 0),(15,.bool false),(17,.bool false),(55,.bool true),(67,.u64 (n - hi)),(68,.u64 x),(69,.bool false),(9,.ptr 1 (bitI n sz)),(10,.u64 (bitM n sz))]
def rawP (sz hi:UInt64) (L:List UInt64) (m x:UInt64):HL:=[(0,.cells false [.u64 sz,.slice 1 0 L.length 1,.u64 hi,.bool true]),(1,.cells false (putA (L.map .u64) (bitI m sz) (cellsA (.u64 x))))]
section
variable (sz n hi x y g:UInt64) (L L0:List UInt64) (F:Nat)
theorem s42a:segO (evSO Try.prog noPS csB sy42 Try.f42.ntmps (mask 42) F 2 (p42.take 4) ⟨startT [.ptr 0 0,.u64 n] 0,hW 0 1 ⟨sz,L,hi,true⟩,2⟩ ⟨[false],[.int .i64 0,.tup (bkW ⟨sz,L,hi,true⟩)],[]⟩)=some (⟨TA n,hW 0 1 ⟨sz,L,hi,true⟩,58⟩,[true,o40 26 n ⟨sz,L,hi,true⟩ 0]):=by kernel_rfl
theorem s42b:segO (evSO Try.prog noPS csB sy42 Try.f42.ntmps (mask 42) F 2 (pa42.take 1) ⟨TA n,hW 0 1 ⟨sz,L,hi,true⟩,58⟩ ⟨[true,false],[],[]⟩)=some (⟨TB n,hW 0 1 ⟨sz,L,hi,true⟩,274⟩,[!decide (sz≤n - hi),decide (hi < n)]):=by kernel_rfl
theorem s42c:segO (evSO Try.prog noPS csB sy42 Try.f42.ntmps (mask 42) F 2 (pb42.take 1) ⟨TB n,hW 0 1 ⟨sz,L,hi,true⟩,274⟩ ⟨[true],[],[]⟩)=some (⟨TC n,hW 0 1 ⟨sz,L,hi,true⟩,330⟩,[decide (hi < n)]):=by kernel_rfl
theorem s42d:segO (evSO Try.prog noPS csB sy42 Try.f42.ntmps (mask 42) F 2 (pc42.take 1) ⟨TC n,hW 0 1 ⟨sz,L,hi,true⟩,330⟩ ⟨[],[],[]⟩)=some (⟨TD n hi 0,hW 0 1 ⟨sz,L,hi,true⟩,386⟩,[]):=by kernel_rfl
theorem s42r:roundO2 Try.prog noPS csB [69,300076,81,100084,200085] [true] [.tup [.ptr 1 (bitI (n - x) sz),.u64 (bitM (n - x) sz)],.tup (bkW ⟨sz,L,hi,true⟩),.u64 g,.u64 y] Try.f42.ntmps (mask 42) F 2 bl42 ⟨TD n hi 0,hW 0 1 ⟨sz,L0,hi,true⟩,386⟩ ⟨TD n hi x,hW 0 1 ⟨sz,L,hi,true⟩,386⟩ =
  some (⟨TD n hi y,rawP sz hi L (n - x) (g &&& ~~~(bitM (n - x) sz)),386⟩,[eqS (.u64 (x+1)) (.u64 y),putO L (n - x) sz (g &&& ~~~(bitM (n - x) sz)),isAt (L.map .u64) (bitI (n - x) sz) (.u64 g),o64 442 (n - x) ⟨sz,L,hi,true⟩,decide (x < n - hi)]):=by kernel_rfl
theorem s42e:evSO Try.prog noPS csB [69] Try.f42.ntmps (mask 42) F 2 [bl42] ⟨TD n hi x,hW 0 1 ⟨sz,L,hi,true⟩,386⟩ ⟨[false],[],[]⟩=some (.exit 1,⟨TE n hi x,hW 0 1 ⟨sz,L,hi,true⟩,394⟩,⟨[],[],[!decide (x < n - hi)]⟩):=by kernel_rfl
theorem s42f:segO (evSO Try.prog noPS csB sy42 Try.f42.ntmps (mask 42) F 2 (pc42.drop 2) ⟨TE n hi x,hW 0 1 ⟨sz,L,hi,true⟩,394⟩ ⟨[],[],[]⟩)=some (⟨TE n hi x,hW 0 1 ⟨sz,L,n,true⟩,434⟩,[]):=by kernel_rfl
theorem s42g:evSO Try.prog noPS csB sy42 Try.f42.ntmps (mask 42) F 2 (p42.drop 5) ⟨TE n hi x,hW 0 1 ⟨sz,L,n,true⟩,434⟩ ⟨[],[.tup [.ptr 1 (bitI n sz),.u64 (bitM n sz)],.tup (bkW ⟨sz,L,n,true⟩),.u64 g],[]⟩ =
  some (.ret,⟨TF n hi x sz,rawP sz n L n (g ||| bitM n sz),562⟩,⟨[],[],[putO L n sz (g ||| bitM n sz),isAt (L.map .u64) (bitI n sz) (.u64 g),o64 450 n ⟨sz,L,n,true⟩]⟩):=by kernel_rfl
theorem okI42 (hW0:ltL 2 []=true):okS Try.prog ⟨TD n hi x,hW 0 1 ⟨sz,L,hi,true⟩,386⟩=true:=by
 have h:Nat.ble Try.prog.globals.size 386=true:=by kernel_rfl
 have h2:ltL 386 (L.map AVal.u64)=true:=ltL_u64 386 L
 have h3:ltH 386 (hW 0 1 ⟨sz,L,hi,true⟩)=true:=by
  simp only [hW,ltH,h2]; rfl
 unfold okS
 simp only [h,h3]
 rfl
end
def clr1 (m sz:UInt64) (L:List UInt64):List UInt64:=L.set (m % sz / 64).toNat (L.getD (m % sz / 64).toNat 0 &&& ~~~(bitM m sz))
theorem clr1_len (m sz:UInt64) (L:List UInt64):(clr1 m sz L).length=L.length:=by unfold clr1; simp
def clrL (n sz:UInt64) (L:List UInt64):Nat→List UInt64
 | 0=>L
 | j+1=>clr1 (n - UInt64.ofNat j) sz (clrL n sz L j)
theorem clrL_len (n sz:UInt64) (L:List UInt64):∀ j,(clrL n sz L j).length=L.length
 | 0=>rfl
 | j+1=>by unfold clrL; rw [clr1_len,clrL_len n sz L j]
theorem rawP_clr {sz hi m:UInt64}{L:List UInt64}{a:Bool}(h:okW ⟨sz,L,hi,a⟩=true):rawP sz hi L m (L.getD (m % sz / 64).toNat 0 &&& ~~~(bitM m sz))=hW 0 1 ⟨sz,clr1 m sz L,hi,true⟩:=by
 unfold rawP hW
 rw [bitI_eq]
 have e:putA (L.map .u64) (m % sz / 64).toNat (cellsA (.u64 (L.getD (m % sz / 64).toNat 0 &&& ~~~(bitM m sz))))=(clr1 m sz L).map .u64:=putA_map .u64 L _ _ (bit_lt h m)
 rw [e,clr1_len]
theorem rawP_set {sz hi m:UInt64}{L:List UInt64}{a:Bool}(h:okW ⟨sz,L,hi,a⟩=true):rawP sz hi L m (L.getD (m % sz / 64).toNat 0 ||| bitM m sz)=hW 0 1 ⟨sz,setL m sz L,hi,true⟩:=by
 unfold rawP hW
 rw [bitI_eq]
 have e:putA (L.map .u64) (m % sz / 64).toNat (cellsA (.u64 (L.getD (m % sz / 64).toNat 0 ||| bitM m sz)))=(setL m sz L).map .u64:=putA_map .u64 L _ _ (bit_lt h m)
 rw [e,setL_len]
end Go.Proofs.Ytjdhndicgifnbaa.Tun
namespace Go.Proofs.Ytjdhndicgifnbaa.Tun
open Go Go.Eng Go.Proofs.Ytjdhndicgifnbaa
set_option maxRecDepth 1000000
def I42 (sz n hi:UInt64) (L:List UInt64) (j:Nat):SA:=⟨TD n hi (UInt64.ofNat j),hW 0 1 ⟨sz,clrL n sz L j,hi,true⟩,386⟩
theorem step42 {sz n hi:UInt64}{L:List UInt64}(h:okW ⟨sz,L,hi,true⟩=true) (F:Nat):∀ j,j < (n - hi).toNat→roundA (evC Try.prog csB Try.f42.ntmps (mask 42) F 2 bl42) (headA Try.prog 2 (I42 sz n hi L 0)) (I42 sz n hi L j)=some (I42 sz n hi L (j+1)):=by
 intro j hj
 have hl:=clrL_len n sz L j
 have hk:okW ⟨sz,clrL n sz L j,hi,true⟩=true:=okW_any hl h
 have hN:(n - hi).toNat < 18446744073709551616:=(n - hi).toNat_lt
 have r:=s42r sz n hi (UInt64.ofNat j) (UInt64.ofNat (j+1)) ((clrL n sz L j).getD ((n - UInt64.ofNat j) % sz / 64).toNat 0) (clrL n sz L j) L F
 rw [rawP_clr hk] at r
 refine roundO2_ok (noPS_ok _) r ?_ (okI42 sz n hi _ _ rfl)
 have q1:eqS (.u64 (UInt64.ofNat j+1)) (.u64 (UInt64.ofNat (j+1)))=true:=by
  have e:UInt64.ofNat j+1=UInt64.ofNat (j+1):=by
   apply UInt64.toNat_inj.1
   rw [UInt64.toNat_add,UInt64.toNat_ofNat',UInt64.toNat_ofNat']
   have:(1:UInt64).toNat=1:=rfl
   rw [this]
   omega
  rw [e]; simp [eqS]
 have q2:decide (UInt64.ofNat j < n - hi)=true:=by
  refine decide_eq_true (UInt64.lt_iff_toNat_lt.2 ?_)
  rw [UInt64.toNat_ofNat',Nat.mod_eq_of_lt (by omega)]
  exact hj
 have q3:=getW hk (n - UInt64.ofNat j)
 simp only [allT,q1,q2,q3,putO_ok hk,o64_ok (show nodupB [442,0,1]=true from rfl) hk,cond_true]
theorem run42l {sz n hi:UInt64}{L:List UInt64}(h:okW ⟨sz,L,hi,true⟩=true) (h1:mayW n ⟨sz,L,hi,true⟩=0) (h2:hi < n) (h3:¬ sz≤n - hi) :
  MethRun Try.prog csB 42 clsW clsW srcW [.u64 n] ⟨sz,L,hi,true⟩ (fun _=>.int .i64 0) ⟨sz,setL n sz (clrL n sz L (n - hi).toNat),n,true⟩:=by
 obtain ⟨N,hN⟩:∃ N,N=(n - hi).toNat:=⟨_,rfl⟩
 obtain ⟨F,hF⟩:∃ F,F=N+1:=⟨_,rfl⟩
 have hl:=clrL_len n sz L N
 have hk:okW ⟨sz,clrL n sz L N,hi,true⟩=true:=okW_any hl h
 have hk2:okW ⟨sz,clrL n sz L N,n,true⟩=true:=okW_any hl h
 have hx:UInt64.ofNat N=n - hi:=by rw [hN]; exact UInt64.ofNat_toNat
 have d1:decide (hi < n)=true:=decide_eq_true h2
 have d2:decide (sz≤n - hi)=false:=decide_eq_false h3
 have a:=segO_pre (noPS_ok _) (s42a sz n hi L F) (by simp only [allT,o40_ok (show nodupB [26,0,1]=true from rfl) h h1,cond_true])
 have b:=segO_pre (noPS_ok _) (s42b sz n hi L F) (by simp only [allT,d1,d2,Bool.not_false,cond_true])
 have c:=segO_pre (noPS_ok _) (s42c sz n hi L F) (by simp only [allT,d1,cond_true])
 have d:=segO_pre (noPS_ok _) (s42d sz n hi L F) rfl
 have e:=(evSO_ok (noPS_ok _) _ _ _ _ _ _ (s42e sz n hi (UInt64.ofNat N) (clrL n sz L N) F) (by
  have:decide (UInt64.ofNat N < n - hi)=false:=by rw [hx]; exact decide_eq_false (UInt64.lt_irrefl _)
  simp only [allT,this,Bool.not_false,cond_true])).1
 rw [evS_one] at e
 have f:=segO_pre (noPS_ok _) (s42f sz n hi (UInt64.ofNat N) (clrL n sz L N) F) rfl
 have g0:=s42g sz n hi (UInt64.ofNat N) ((clrL n sz L N).getD (n % sz / 64).toNat 0) (clrL n sz L N) F
 rw [rawP_set hk2] at g0
 have g:=(evSO_ok (noPS_ok _) _ _ _ _ _ _ g0 (by simp only [allT,getW hk2 n,putO_ok hk2,o64_ok (show nodupB [450,0,1]=true from rfl) hk2,cond_true])).1
 have lp:evC Try.prog csB Try.f42.ntmps (mask 42) F 2 (.block 1 (.loop bl42)) (I42 sz n hi L 0)=some (.normal,⟨TE n hi (UInt64.ofNat N),hW 0 1 ⟨sz,clrL n sz L N,hi,true⟩,394⟩):=
  evC_loop (I42 sz n hi L) N (fun j hj=>roundA_some (step42 h F j (by rw [← hN]; exact hj))) e (by omega)
 have c3:evC Try.prog csB Try.f42.ntmps (mask 42) F 2 ct42 ⟨TC n,hW 0 1 ⟨sz,L,hi,true⟩,330⟩=some (.normal,⟨TE n hi (UInt64.ofNat N),hW 0 1 ⟨sz,clrL n sz L N,n,true⟩,434⟩):=by
  rw [evC_pieces,pc42_eq,evS_append d]
  have lp':evC Try.prog csB Try.f42.ntmps (mask 42) F 2 (.block 1 (.loop bl42)) ⟨TD n hi 0,hW 0 1 ⟨sz,L,hi,true⟩,386⟩=_:=lp
  rw [evS,lp']
  exact f
 have c2:evC Try.prog csB Try.f42.ntmps (mask 42) F 2 ce42 ⟨TB n,hW 0 1 ⟨sz,L,hi,true⟩,274⟩=some (.normal,⟨TE n hi (UInt64.ofNat N),hW 0 1 ⟨sz,clrL n sz L N,n,true⟩,434⟩):=by
  rw [evC_pieces,pb42_eq,evS_append c,evS_one]
  exact evC_cond_t rfl c3
 have c1:evC Try.prog csB Try.f42.ntmps (mask 42) F 2 q42 ⟨TA n,hW 0 1 ⟨sz,L,hi,true⟩,58⟩=some (.normal,⟨TE n hi (UInt64.ofNat N),hW 0 1 ⟨sz,clrL n sz L N,n,true⟩,434⟩):=by
  rw [evC_pieces,pa42_eq,evS_append b,evS_one]
  exact evC_cond_f rfl c2
 have all:evS Try.prog csB Try.f42.ntmps (mask 42) F 2 (pieces (bodyOf Try.f42)) ⟨startT [.ptr 0 0,.u64 n] 0,hW 0 1 ⟨sz,L,hi,true⟩,2⟩=some (.ret,⟨TF n hi (UInt64.ofNat N) sz,hW 0 1 ⟨sz,setL n sz (clrL n sz L N),n,true⟩,562⟩):=by
  rw [p42_eq,evS_append a,evS,evC_block c1]
  exact g
 have r:=run1_all (P:=Try.prog) (f:=42) (fn:=Try.f42) (c:=bodyOf Try.f42) (by kernel_rfl) (by kernel_rfl) (by kernel_rfl) all (v:=.int .i64 0) (by kernel_rfl)
 refine ⟨mask 42,F,hW 0 1 ⟨sz,setL n sz (clrL n sz L N),n,true⟩,562,2,?_,by rw [gl]; decide,?_⟩
 ·rw [gl]
  exact r
 ·rw [gl]
  intro i m c' e1 e2
  rw [← hN] at e2
  match i,e1,e2 with
  | 0,e1,e2=>cases e1; cases e2; rfl
  | 1,e1,e2=>cases e1; cases e2; rfl
  | i+2,e1,e2=>simp [srcW] at e1
def markW (n:UInt64) (s:Wn):Wn:=
 cond (mayW n s != 0) s (cond s.any (cond (decide (s.hi < n)) (cond (decide (s.sz≤n - s.hi)) ⟨s.sz,setL n s.sz (zL s.L),n,true⟩ ⟨s.sz,setL n s.sz (clrL n s.sz s.L (n - s.hi).toNat),n,true⟩) ⟨s.sz,setL n s.sz s.L,s.hi,true⟩) ⟨s.sz,setL n s.sz (zL s.L),n,true⟩)
theorem okW_mark {n:UInt64}{s:Wn}(h:okW s=true):okW (markW n s)=true:=by
 obtain ⟨sz,L,hi,any⟩:=s
 unfold markW
 cases mayW n ⟨sz,L,hi,any⟩ != 0 with
 | true=>exact h
 | false=>cases any with
  | false=>exact okW_any (by rw [setL_len,zL_len]) h
  | true =>
   simp only [cond_false,cond_true]
   cases decide (hi < n) with
   | false=>exact okW_any (by rw [setL_len]) h
   | true =>
    simp only [cond_true]
    cases decide (sz≤n - hi) with
    | true=>exact okW_any (by rw [setL_len,zL_len]) h
    | false=>exact okW_any (by rw [setL_len,clrL_len]) h
theorem run42 {s:Wn}(h:okW s=true) (n:UInt64):MethRun Try.prog csB 42 clsW clsW srcW [.u64 n] s (fun _=>.int .i64 (mayW n s)) (markW n s):=by
 have n1:nodupB [26,0,1]=true:=rfl
 have hg:=getW h n
 obtain ⟨sz,L,hi,any⟩:=s
 unfold markW
 cases h0:(mayW n ⟨sz,L,hi,any⟩ != 0) with
 | true=>exact methRun_of (noPS_ok _) gl 2 (w42e sz n hi L (mayW n ⟨sz,L,hi,any⟩) any) (by simp only [allT,h0,o40_ok n1 h rfl,cond_true]) rfl
 | false =>
  have h0':mayW n ⟨sz,L,hi,any⟩=0:=by simpa using h0
  have hz:okW ⟨sz,zL L,n,true⟩=true:=okW_any (zL_len L) h
  have hgz:=getW hz n
  have hfz:=fin42_eq (n:=n) hz
  have e0:=zL_get L (n % sz / 64).toNat
  have ez:(⟨sz,zL L,n,true⟩:Wn).L.getD (n % (⟨sz,zL L,n,true⟩:Wn).sz / 64).toNat 0=0:=e0
  rw [ez] at hgz
  rw [e0] at hfz
  rw [h0']
  cases any with
  | false =>
   have r:=w42a sz n hi L
   rw [hfz] at r
   exact methRun_of (noPS_ok _) gl 2 r (by simp only [allT,putO_ok hz,hgz,o64r_ok (show nodupB [402,0,1]=true from rfl) hz,clrO_ok h,o40_ok n1 h h0',cond_true]) rfl
  | true =>
   simp only [cond_false,cond_true]
   cases h1:decide (hi < n) with
   | false =>
    have r:=w42c sz n hi (L.getD (n % sz / 64).toNat 0) L
    rw [fin42_eq (n:=n) h] at r
    exact methRun_of (noPS_ok _) gl 2 r (by simp only [allT,putO_ok h,hg,o64_ok (show nodupB [346,0,1]=true from rfl) h,h1,Bool.not_false,o40_ok n1 h h0',cond_true]) rfl
   | true =>
    simp only [cond_true]
    cases h2:decide (sz≤n - hi) with
    | true =>
     have r:=w42b sz n hi L
     rw [hfz] at r
     exact methRun_of (noPS_ok _) gl 2 r (by simp only [allT,putO_ok hz,hgz,o64r_ok (show nodupB [402,0,1]=true from rfl) hz,clrO_ok h,h1,h2,o40_ok n1 h h0',cond_true]) rfl
    | false=>exact run42l h h0' (of_decide_eq_true h1) (of_decide_eq_false h2)
def g42:List AVal→Option EffA
 | [.ptr w 0,.u64 n]=>some (methE clsW clsW srcW w (fun _ s=>.int .i64 (mayW n s)) (markW n) okW)
 | _=>none
theorem g42_ok:CSOk Try.prog (csOne 42 g42):=csOne_ok fun args e he=>by
 unfold g42 at he
 split at he
 ·cases he
  exact meth_ok csB_ok hmix rfl (by decide) (by decide) srcW_lt rfl fun s hs=>⟨relW s,relW _,.plain rfl,run42 hs _⟩
 ·cases he
end Go.Proofs.Ytjdhndicgifnbaa.Tun
namespace Go.Proofs.Ytjdhndicgifnbaa.Bld
open Go Go.Eng
set_option maxHeartbeats 2000000
theorem sizeB:(Try.prog.info? 164).map (·.size)=some 2:=by kernel_rfl
theorem liesB:liesAt Try.prog Try.prog.depth 164 (2 / Try.prog.cellsOf 164) 0 164 1=true:=by kernel_rfl
theorem used (b:Nat) (w:World) (h0:w.cell? ⟨b,0,none⟩=some (.pointer (some ⟨b,0,none⟩))) :
  Calls Try.prog 99 #[.pointer (some ⟨b,0,none⟩)] w fun e w'=>e=.returned (.tuple #[])∧w'=w:=by
 obtain ⟨j,hj,_⟩:=Option.map_eq_some_iff.1 sizeB
 go_enter Try.func99,Try.ntmps99
 go_wp2
 rw [Lib.run_neq_ptr_same w _ Try.underlying162 hj]
 go_wp2
 go_end0
 exact ⟨rfl,rfl⟩
theorem fresh (b:Nat) (w:World) (h0:w.cell? ⟨b,0,none⟩=some (.pointer none)) (hsh:w.shape? b=some (164,2)) (hfz:w.frozen? ⟨b,0,none⟩=false) :
  Calls Try.prog 99 #[.pointer (some ⟨b,0,none⟩)] w fun e w'=>e=.returned (.tuple #[])∧w'=w.setCell ⟨b,0,none⟩ (.pointer (some ⟨b,0,none⟩)):=by
 obtain ⟨j,hj,hjs⟩:=Option.map_eq_some_iff.1 sizeB
 have t89:Try.prog.underlying 187=some .unsafePointer:=by kernel_rfl
 go_enter Try.func99,Try.ntmps99
 go_wp2
 rw [Lib.run_to_unsafe w ⟨b,0,none⟩ Try.underlying162 t89 hj (by rw [hjs]; decide) hsh (Nat.zero_lt_succ 1)]
 simp only [Result.andThen]
 rw [Oper.upon_value]
 go_wp2
 rw [run_callFunc_extern Try.func101 (by kernel_rfl) (by kernel_rfl) (by kernel_rfl) (e:=Extern.AbiNoEscape.same) (by kernel_rfl)]
 rw [Lib.run_noEscape]
 simp only [Result.andThen]
 rw [Oper.upon_value]
 go_wp2
 rw [Lib.run_from_unsafe w ⟨b,0,none⟩ t89 Try.underlying162 hj hsh liesB]
 simp only [Result.andThen]
 rw [Oper.upon_value]
 go_wp2
 go_end0
 exact ⟨rfl,rfl⟩
end Go.Proofs.Ytjdhndicgifnbaa.Bld
namespace Go.Bld
open Go
variable {P:Program}
def Lies (w:World) (v v':Value):Prop:=∀ g,v'.ownBlock=some g→v.ownBlock=some g ∨ w.heap.size≤g
theorem lies_string (w:World) (t u ty e:TypeId) (i:TypeInfo) (ht:P.underlying t=some (.slice e)) (hu:P.underlying u=some .string) (hi:P.info? e=some i) (hz:i.zero=some (.int .u8 0)) (hsize:i.size=1) (hby:i.bytes=1)
  (base:Nat) (v:Value) (n:Nat) (xs:List Value) (hown:w.ownsRow base e 1 v n xs) (s:ByteArray) (h63:n+s.size≤maxLen) (hbytes:n+s.size≤140737488355328) {v':Value} {w':World}
  (hr:(Builtin.append_ #[t,u] ty #[v,.string s]).run P w=.ok v' w'):Lies w v v':=by
 intro g' hg'
 have h1:n+s.size≤9223372036854775807:=by simp only [maxLen] at h63; omega
 rcases hown.2 with ⟨rfl,rfl⟩ | ⟨g,cap,cur,rfl,hbg,hg,hnc,hcm,hcs,htake⟩
 ·have hnil:w.ownsRow w.heap.size e 1 (.slice none 0 0) 0 xs:=⟨hown.1,.inl ⟨rfl,rfl⟩⟩
  obtain ⟨v2,w2,hr2,hown2,_,_⟩:=Lib.run_append_own_string (P:=P) w w.heap.size t u ty e i ht hu hi hz hsize hby _ 0 xs hnil s h63 hbytes (Nat.le_refl _)
  rw [hr] at hr2
  cases hr2
  rcases hown2.2 with ⟨rfl,_⟩ | ⟨g2,c2,cur2,rfl,hb2,_⟩
  ·cases hg'
  ·cases hg'
   exact .inr hb2
 ·by_cases hroom:n+s.size≤cap
  ·have hcs':cur.size=cap:=by simpa using hcs
   have hr2:=Lib.run_append_room_string (P:=P) w t u ty e i ht hu hi hsize g n cap cur hg s hroom (by omega)
   rw [hr] at hr2
   cases hr2
   exact .inl hg'
  ·have holds:∀ j u,xs[j]? = some u→w.cell? ((⟨g,0,none⟩:Addr).add j)=some u:=hown.cells (g:=g) rfl
   have hxl:xs.length=n:=by simpa using hown.1
   have hr2:=Lib.run_append_grow_string (P:=P) w t u ty e i (.int .u8 0) ht hu hi hz ⟨g,0,none⟩ n cap xs (by rw [hsize]; simpa using hxl) holds s (by omega) (by omega) (by rw [hby]; exact growslice_fits (by omega) (by omega))
   rw [hr] at hr2
   cases hr2
   cases hg'
   exact .inr (Nat.le_refl _)
theorem lies_row (w:World) (t ty e:TypeId) (i:TypeInfo) (ht:P.underlying t=some (.slice e)) (hi:P.info? e=some i) (hz:i.zero=some (.int .u8 0)) (hsize:i.size=1) (hby:i.bytes=1)
  (base:Nat) (v:Value) (n:Nat) (xs:List Value) (hown:w.ownsRow base e 1 v n xs) (ad:Addr) (m c:Nat) (news:List Value) (hl:news.length=m) (hnews:∀ j u,news[j]? = some u→w.cell? (ad.add j)=some u) (hone:∀ u ∈ news,u.oneCell'=true)
  (h63:n+m≤maxLen) (hbytes:n+m≤140737488355328) {v':Value} {w':World} (hr:(Builtin.append_ #[t,t] ty #[v,.slice (some ad) m c]).run P w=.ok v' w'):Lies w v v':=by
 intro g' hg'
 have h1:n+m≤9223372036854775807:=by simp only [maxLen] at h63; omega
 rcases hown.2 with ⟨rfl,rfl⟩ | ⟨g,cap,cur,rfl,hbg,hg,hnc,hcm,hcs,htake⟩
 ·have hnil:w.ownsRow w.heap.size e 1 (.slice none 0 0) 0 xs:=⟨hown.1,.inl ⟨rfl,rfl⟩⟩
  obtain ⟨v2,w2,hr2,hown2,_,_⟩:=run_append_own (P:=P) w w.heap.size t ty e i (.int .u8 0) 1 1 ht hi hz hsize hby rfl (by decide) _ 0 xs hnil ad m c news (by omega) hnews hone h63 (by omega) (Nat.le_refl _)
  rw [hr] at hr2
  cases hr2
  rcases hown2.2 with ⟨rfl,_⟩ | ⟨g2,c2,cur2,rfl,hb2,_⟩
  ·cases hg'
  ·cases hg'
   exact .inr hb2
 ·by_cases hroom:n+m≤cap
  ·have hcs':cur.size=cap:=by simpa using hcs
   have hr2:=run_append_room (P:=P) w t ty e i ht hi g n cap cur hg ad m c news (by rw [hsize]; omega) hnews hone hroom (by rw [hsize]; omega)
   rw [hr] at hr2
   cases hr2
   exact .inl hg'
  ·have holds:∀ j u,xs[j]? = some u→w.cell? ((⟨g,0,none⟩:Addr).add j)=some u:=hown.cells (g:=g) rfl
   have hxl:xs.length=n:=by simpa using hown.1
   have hr2:=run_append_grow (P:=P) w t ty e i (.int .u8 0) ht hi hz ⟨g,0,none⟩ n cap xs (by rw [hsize]; simpa using hxl) holds ad m c news (by rw [hsize]; omega) hnews (by omega) (by omega) (by rw [hby]; exact growslice_fits (by omega) (by omega))
   rw [hr] at hr2
   cases hr2
   cases hg'
   exact .inr (Nat.le_refl _)
theorem wp_string {ops:Array Oper}{rest:List Oper}{o:Oper}{a:Act}{Q:Exit→Act→World→Prop}{w:World}(hgd:o.guard=none) (sl x:Operand) (t u:TypeId)
  (ho:o.op=.call { callee:=.builtin .append,args:=#[sl,x],argTypes:=#[t,u] })
  (base:Nat) (e:TypeId) (i:TypeInfo) (ht:P.underlying t=some (.slice e)) (hu:P.underlying u=some .string) (hi:P.info? e=some i) (hz:i.zero=some (.int .u8 0)) (hsize:i.size=1) (hby:i.bytes=1)
  (v:Value) (n:Nat) (xs:List Value) (hs:a.eval sl=v) (hown:w.ownsRow base e 1 v n xs) (s:ByteArray) (hx:a.eval x=.string s) (h63:n+s.size≤maxLen) (hbytes:n+s.size≤140737488355328) (hbase:base≤w.heap.size)
  (h:∀ v' w',w'.ownsRow base e 1 v' (n+s.size) (xs++Lib.strCells s)→w.grownBy w' v.ownBlock→Lies w v v'→(v=.slice none 0 0→s.size=0→v'=.slice none 0 0)→wpList P ops Q rest (a.put o.dst v') w'):wpList P ops Q (o::rest) a w:=by
 refine wpList_plain hgd fun K hK => ?_
 obtain ⟨v',w',hr,h2,h3,h4⟩:=Lib.run_append_own_string (P:=P) w base t u o.type e i ht hu hi hz hsize hby v n xs hown s h63 hbytes hbase
 unfold Oper.wp execOp
 simp only [ho,resolve,invoke,builtin,Sem.run_bind,Sem.run_pure,Result.andThen_ok,List.map_toArray,List.map_cons,List.map_nil,hs,hx,hr]
 exact hK _ _ (h v' w' h2 h3 (lies_string w t u o.type e i ht hu hi hz hsize hby base v n xs hown s h63 hbytes hr) fun e1 e2=>h4.2 ⟨e1,e2⟩)
theorem wp_row {ops:Array Oper}{rest:List Oper}{o:Oper}{a:Act}{Q:Exit→Act→World→Prop}{w:World}(hgd:o.guard=none) (sl x:Operand) (t:TypeId)
  (ho:o.op=.call { callee:=.builtin .append,args:=#[sl,x],argTypes:=#[t,t] })
  (base:Nat) (e:TypeId) (i:TypeInfo) (ht:P.underlying t=some (.slice e)) (hi:P.info? e=some i) (hz:i.zero=some (.int .u8 0)) (hsize:i.size=1) (hby:i.bytes=1)
  (v:Value) (n:Nat) (xs:List Value) (hs:a.eval sl=v) (hown:w.ownsRow base e 1 v n xs) (ad:Addr) (m c:Nat) (news:List Value) (hx:a.eval x=.slice (some ad) m c) (hl:news.length=m) (hnews:∀ j u,news[j]? = some u→w.cell? (ad.add j)=some u) (hone:∀ u ∈ news,u.oneCell'=true)
  (h63:n+m≤maxLen) (hbytes:n+m≤140737488355328) (hbase:base≤w.heap.size)
  (h:∀ v' w',w'.ownsRow base e 1 v' (n+m) (xs++news)→w.grownBy w' v.ownBlock→Lies w v v'→(v=.slice none 0 0→m=0→v'=.slice none 0 0)→wpList P ops Q rest (a.put o.dst v') w'):wpList P ops Q (o::rest) a w:=by
 refine wpList_plain hgd fun K hK => ?_
 obtain ⟨v',w',hr,h2,h3,h4⟩:=run_append_own (P:=P) w base t o.type e i (.int .u8 0) 1 1 ht hi hz hsize hby rfl (by decide) v n xs hown ad m c news (by omega) hnews hone h63 (by omega) hbase
 unfold Oper.wp execOp
 simp only [ho,resolve,invoke,builtin,Sem.run_bind,Sem.run_pure,Result.andThen_ok,List.map_toArray,List.map_cons,List.map_nil,hs,hx,hr]
 exact hK _ _ (h v' w' h2 h3 (lies_row w t o.type e i ht hi hz hsize hby base v n xs hown ad m c news hl hnews hone h63 hbytes hr) fun e1 e2=>h4.2 ⟨e1,e2⟩)
end Go.Bld
namespace Go.Proofs.Ytjdhndicgifnbaa.Bld
open Go Go.Bld Go.RowKit
set_option maxHeartbeats 2000000
structure BV (b:Nat) (p v:Value) (bs:List Value) (w:World):Prop where
 blk:w.heap[b]? = some (.cells #[p,v] 164 (0,0))
 self:p=.pointer none ∨ p=.pointer (some ⟨b,0,none⟩)
 own:w.ownsRow 0 5 1 v bs.length bs
 ne:v.ownBlock ≠ some b
 nil:bs=[]→v=.slice none 0 0
structure Fr (b:Nat) (v:Value) (w w':World):Prop where
 os:w'.os=w.os
 output:w'.output=w.output
 tape:w'.tape=w.tape
 size:w.heap.size≤w'.heap.size
 block:∀ k,k < w.heap.size→k ≠ b→v.ownBlock ≠ some k→w'.heap[k]? = w.heap[k]?
theorem BV.lt {b:Nat}{p v:Value}{bs:List Value}{w:World}(h:BV b p v bs w):b < w.heap.size:=(Array.getElem?_eq_some_iff.1 h.blk).1
theorem ents {f:FuncId}(hb:Eng.bodied Try.prog f=true):∀ args w,(callFunc f args).run Try.prog w=.ok (.enter f args) w:=by
 obtain ⟨fn,hfn,hbody,hname⟩:=Eng.bodied_ok hb
 intro args w
 simp only [callFunc,Sem.run_bind,run_program,Result.andThen_ok,hfn,hname,hbody,Bool.false_eq_true,if_false,Sem.run_pure]
theorem e46:∀ args w,(callFunc 99 args).run Try.prog w=.ok (.enter 99 args) w:=ents (by kernel_rfl)
theorem mixB:Try.prog.follows .mixedOrders=true:=by kernel_rfl
theorem info5:∃ i,Try.prog.info? 5=some i∧i.zero=some (.int .u8 0)∧i.size=1∧i.bytes=1:=by
 have h:(Try.prog.info? 5).map (fun i=>(i.zero,i.size,i.bytes))=some (some (.int .u8 0),1,1):=by kernel_rfl
 obtain ⟨i,hi,he⟩:=Option.map_eq_some_iff.1 h
 simp only [Prod.mk.injEq] at he
 exact ⟨i,hi,he⟩
theorem set_size (w:World) (a:Addr) (u:Value):(w.setCell a u).heap.size=w.heap.size:=by simp [World.setCell]
theorem set0 {w:World}{b:Nat}{p v:Value}(h:w.heap[b]? = some (.cells #[p,v] 164 (0,0))) (u:Value):(w.setCell ⟨b,0,none⟩ u).heap[b]? = some (.cells #[u,v] 164 (0,0)):=by simp [World.setCell,Array.getElem?_modify,h]
theorem set1 {w:World}{b:Nat}{p v:Value}(h:w.heap[b]? = some (.cells #[p,v] 164 (0,0))) (u:Value):(w.setCell ⟨b,1,none⟩ u).heap[b]? = some (.cells #[p,u] 164 (0,0)):=by simp [World.setCell,Array.getElem?_modify,h]
theorem check {b:Nat}{p v:Value}{bs:List Value}{w:World}(h:BV b p v bs w) :
  Calls Try.prog 99 #[.pointer (some ⟨b,0,none⟩)] w fun e w'=>e=.returned (.tuple #[])∧BV b (.pointer (some ⟨b,0,none⟩)) v bs w'∧Fr b (.pointer none) w w':=by
 have c0:w.cell? ⟨b,0,none⟩=some p:=by rw [Lib.cell_of_heap h.blk]; rfl
 rcases h.self with rfl | rfl
 ·refine (fresh b w c0 (by simp [World.shape?,h.blk]) (Lib.frozen_of_heap h.blk 0)).mono fun e w' ⟨he,hw⟩ => ?_
  subst hw
  exact ⟨he,⟨set0 h.blk _,.inr rfl,ownsRow_setCell_other h.own h.ne _,h.ne,h.nil⟩,⟨rfl,rfl,rfl,Nat.le_of_eq (set_size ..).symm,fun k _ hk _=>Below.heap_setCell _ _ _ _ hk⟩⟩
 ·exact (used b w c0).mono fun e w' ⟨he,hw⟩=>by
   subst hw
   exact ⟨he,h,⟨rfl,rfl,rfl,Nat.le_refl _,fun _ _ _ _=>rfl⟩⟩
theorem Fr.trans0 {b:Nat}{v:Value}{w w1 w2:World}(h:Fr b (.pointer none) w w1) (k:Fr b v w1 w2):Fr b v w w2:=
 ⟨k.os.trans h.os,k.output.trans h.output,k.tape.trans h.tape,Nat.le_trans h.size k.size,fun i hi hb hv=>(k.block i (Nat.lt_of_lt_of_le hi h.size) hb hv).trans (h.block i hi hb (by intro e; cases e))⟩
theorem Fr.of_grown {b:Nat}{v u:Value}{w w':World}(h:w.grownBy w' v.ownBlock):Fr b v w (w'.setCell ⟨b,1,none⟩ u):=
 ⟨h.os,h.output,h.tape,by rw [set_size]; exact h.size,fun k hk hb hv=>(Below.heap_setCell _ _ _ _ hb).trans (h.block k hk fun e=>hv e.symm)⟩
theorem Lies.of0 {w w1:World}{v v':Value}(h:Lies w1 v v') (hs:w.heap.size≤w1.heap.size):Lies w v v':=fun g hg=>(h g hg).imp id fun h=>Nat.le_trans hs h
theorem write {b:Nat}{p v:Value}{bs:List Value}{w:World}(h:BV b p v bs w) (s:ByteArray) (hl:bs.length+s.size≤1000000000) :
  Calls Try.prog 89 #[.pointer (some ⟨b,0,none⟩),.string s] w fun e w'=>e=.returned (.tuple #[.int .i64 s.size,.nilIface]) ∧
   ∃ v',BV b (.pointer (some ⟨b,0,none⟩)) v' (bs++Lib.strCells s) w'∧Lies w v v'∧Fr b v w w':=by
 obtain ⟨i0,hi,hz0,hz1,hz2⟩:=info5
 have e46:=e46
 go_enter Try.func89,Try.ntmps89
 go_wp2_with (go_at_call 99; refine (check h).mono ?_)
 rintro e w1 ⟨rfl,h1,f1⟩
 have c0:w1.cell? ⟨b,0,none⟩=some (.pointer (some ⟨b,0,none⟩)):=by rw [Lib.cell_of_heap h1.blk]; rfl
 have c1:w1.cell? ⟨b,1,none⟩=some v:=by rw [Lib.cell_of_heap h1.blk]; rfl
 have hown:=h1.own
 go_wp2_with (at_builtin; refine wp_string rfl _ _ 55 9 rfl 0 5 i0 Try.underlying55 Try.underlying9 hi hz0 hz1 hz2 _ _ _ rfl hown s rfl ?c3 ?c4 ?c5 ?_)
 case c3=>unfold maxLen; omega
 case c4=>omega
 case c5=>exact Nat.zero_le _
 intro v' w2 hown' hgrow hlies hnil
 have hlt:=h1.lt
 have hb2:w2.heap[b]? = some (.cells #[.pointer (some ⟨b,0,none⟩),v] 164 (0,0)):=by
  rw [hgrow.block b hlt (fun e=>h1.ne e.symm)]
  exact h1.blk
 have d0:w2.cell? ⟨b,0,none⟩=some (.pointer (some ⟨b,0,none⟩)):=by rw [Lib.cell_of_heap hb2]; rfl
 have d1:w2.cell? ⟨b,1,none⟩=some v:=by rw [Lib.cell_of_heap hb2]; rfl
 have f11:w2.frozen? ⟨b,1,none⟩=false:=Lib.frozen_of_heap hb2 1
 obtain ⟨ao,n',cap,rfl⟩:∃ ao n' cap,v'=.slice ao n' cap:=by
  rcases hown'.2 with ⟨hv,_⟩ | ⟨g,cap,cur,hv,_⟩
  ·exact ⟨_,_,_,hv⟩
  ·exact ⟨_,_,_,hv⟩
 have hne':=Lib.ownBlock_ne hown' hb2 (by decide)
 go_wp2
 go_ret2
 refine ⟨rfl,_,⟨set1 hb2 _,.inr rfl,?_,hne',?nl⟩,Lies.of0 hlies f1.size,f1.trans0 (Fr.of_grown hgrow)⟩
 case nl =>
  intro e
  have e1:=List.append_eq_nil_iff.1 e
  have hs0:s.size=0:=by rw [← Lib.strCells_length,e1.2]; rfl
  exact hnil (h1.nil e1.1) (by first | exact hs0 | simpa using hs0)
 have:=ownsRow_setCell_other hown' (a:=⟨b,1,none⟩) hne' (.slice ao n' cap)
 rwa [List.length_append,Lib.strCells_length]
theorem writeR {b:Nat}{p v:Value}{bs:List Value}{w:World}(h:BV b p v bs w) (ad:Addr) (m c:Nat) (news:List Value) (hl:news.length=m) (hnews:∀ j u,news[j]? = some u→w.cell? (ad.add j)=some u) (hone:∀ u ∈ news,u.oneCell'=true)
  (hadb:ad.block ≠ b) (hadl:ad.block < w.heap.size) (hlen:bs.length+m≤1000000000) :
  Calls Try.prog 90 #[.pointer (some ⟨b,0,none⟩),.slice (some ad) m c] w fun e w'=>e=.returned (.tuple #[.int .i64 m,.nilIface]) ∧
   ∃ v',BV b (.pointer (some ⟨b,0,none⟩)) v' (bs++news) w'∧Lies w v v'∧Fr b v w w':=by
 obtain ⟨i0,hi,hz0,hz1,hz2⟩:=info5
 have e46:=e46
 go_enter Try.func90,Try.ntmps90
 go_wp2_with (go_at_call 99; refine (check h).mono ?_)
 rintro e w1 ⟨rfl,h1,f1⟩
 have c0:w1.cell? ⟨b,0,none⟩=some (.pointer (some ⟨b,0,none⟩)):=by rw [Lib.cell_of_heap h1.blk]; rfl
 have c1:w1.cell? ⟨b,1,none⟩=some v:=by rw [Lib.cell_of_heap h1.blk]; rfl
 have hown:=h1.own
 have hnews1:∀ j u,news[j]? = some u→w1.cell? (ad.add j)=some u:=fun j u hj=>by
  have hblk:(ad.add j).block=ad.block:=by unfold Addr.add; split <;> rfl
  have hk:=f1.block ad.block hadl hadb (by intro e; cases e)
  have h0:=hnews j u hj
  unfold World.cell? at h0 ⊢
  rw [hblk] at h0 ⊢
  rw [hk]
  exact h0
 go_wp2_with (at_builtin; refine wp_row rfl _ _ 55 rfl 0 5 i0 Try.underlying55 hi hz0 hz1 hz2 _ _ _ rfl hown ad m c news rfl hl hnews1 hone ?c3 ?c4 ?c5 ?_)
 case c3=>unfold maxLen; omega
 case c4=>omega
 case c5=>exact Nat.zero_le _
 intro v' w2 hown' hgrow hlies hnil
 have hlt:=h1.lt
 have hb2:w2.heap[b]? = some (.cells #[.pointer (some ⟨b,0,none⟩),v] 164 (0,0)):=by
  rw [hgrow.block b hlt (fun e=>h1.ne e.symm)]
  exact h1.blk
 have d0:w2.cell? ⟨b,0,none⟩=some (.pointer (some ⟨b,0,none⟩)):=by rw [Lib.cell_of_heap hb2]; rfl
 have d1:w2.cell? ⟨b,1,none⟩=some v:=by rw [Lib.cell_of_heap hb2]; rfl
 have f11:w2.frozen? ⟨b,1,none⟩=false:=Lib.frozen_of_heap hb2 1
 obtain ⟨ao,n',cap,rfl⟩:∃ ao n' cap,v'=.slice ao n' cap:=by
  rcases hown'.2 with ⟨hv,_⟩ | ⟨g,cap,cur,hv,_⟩
  ·exact ⟨_,_,_,hv⟩
  ·exact ⟨_,_,_,hv⟩
 have hne':=Lib.ownBlock_ne hown' hb2 (by decide)
 go_wp2
 go_ret2
 refine ⟨rfl,_,⟨set1 hb2 _,.inr rfl,?_,hne',?nl⟩,Lies.of0 hlies f1.size,f1.trans0 (Fr.of_grown hgrow)⟩
 case nl =>
  intro e
  have e1:=List.append_eq_nil_iff.1 e
  exact hnil (h1.nil e1.1) (by rw [← hl,e1.2]; rfl)
 have:=ownsRow_setCell_other hown' (a:=⟨b,1,none⟩) hne' (.slice ao n' cap)
 rwa [List.length_append,hl]
structure Fz (v:Value) (w w':World):Prop where
 os:w'.os=w.os
 output:w'.output=w.output
 tape:w'.tape=w.tape
 size:w.heap.size≤w'.heap.size
 block:∀ k,k < w.heap.size→v.ownBlock ≠ some k→w'.heap[k]? = w.heap[k]?
theorem freeze_block (w:World) (g n k:Nat) (h:k ≠ g):(w.freeze ⟨g,0,none⟩ n).heap[k]? = w.heap[k]?:=by
 unfold World.freeze
 split
 ·rfl
 ·show (w.heap.modify g _)[k]? = _
  rw [Array.getElem?_modify,if_neg (fun e=>h e.symm)]
theorem freeze_size (w:World) (a:Addr) (n:Nat):(w.freeze a n).heap.size=w.heap.size:=by
 unfold World.freeze
 split
 ·rfl
 ·simp
theorem freeze_os (w:World) (a:Addr) (n:Nat):(w.freeze a n).os=w.os∧(w.freeze a n).output=w.output∧(w.freeze a n).tape=w.tape:=by
 unfold World.freeze
 split <;> exact ⟨rfl,rfl,rfl⟩
theorem text {b:Nat}{p v:Value}{l:List UInt8}{w:World}(h:BV b p v (Lib.byteCells l) w) :
  Calls Try.prog 91 #[.pointer (some ⟨b,0,none⟩)] w fun e w'=>e=.returned (.string ⟨l.toArray⟩)∧Fz v w w':=by
 by_cases h0:l=[]
 ·subst h0
  have hv:=h.nil rfl
  subst hv
  have hUS:∀ (W:World) (q:Option Addr),(Builtin.unsafeString_ #[181,3] 9 #[.pointer q,.int .i64 0]).run Try.prog W=.ok (.string .empty) W:=fun W q=>Lib.run_unsafeString_none W _ _ _ q
  have hSD:∀ W:World,(Builtin.unsafeSliceData_ #[55] 181 #[.slice none 0 0]).run Try.prog W=.ok (.pointer none) W:=fun W=>rfl
  have c1:w.drew.cell? ⟨b,1,none⟩=some (.slice none 0 0):=by
   have:w.drew.heap[b]? = some (.cells #[p,.slice none 0 0] 164 (0,0)):=h.blk
   rw [Lib.cell_of_heap this]; rfl
  have mixed:=mixB
  go_enter Try.func91,Try.ntmps91
  go_wp2
  go_region_o
  all_goals (go_wp2; go_ret; exact ⟨rfl,⟨rfl,rfl,rfl,Nat.le_refl _,fun _ _ _=>rfl⟩⟩)
 ·have hl0:l.length ≠ 0:=by simpa using h0
  have hown:=h.own
  rw [Lib.byteCells_length] at hown
  obtain ⟨g,cap,cur,rfl,_,hg,hnc,hcm,hcs,htake⟩:∃ g cap cur,v=.slice (some ⟨g,0,none⟩) l.length cap∧0≤g∧w.heap[g]? = some (.cells cur 5 (0,0))∧l.length≤cap∧cap≤maxLen∧cur.size=cap * 1∧cur.toList.take (l.length * 1)=Lib.byteCells l:=by
   rcases hown.2 with ⟨_,hz⟩ | ⟨g,cap,cur,hv,r⟩
   ·exact absurd hz hl0
   ·exact ⟨g,cap,cur,hv,r⟩
  have c1:w.drew.cell? ⟨b,1,none⟩=some (.slice (some ⟨g,0,none⟩) l.length cap):=by
   have:w.drew.heap[b]? = some (.cells #[p,.slice (some ⟨g,0,none⟩) l.length cap] 164 (0,0)):=h.blk
   rw [Lib.cell_of_heap this]; rfl
  have t83:Try.prog.underlying 181=some (.pointer 5):=by kernel_rfl
  have hSD:(Builtin.unsafeSliceData_ #[55] 181 #[.slice (some ⟨g,0,none⟩) l.length cap]).run Try.prog w.drew=.ok (.pointer (some ⟨g,0,none⟩)) w.drew:=
   Lib.run_unsafeSliceData_row _ _ _ _ _ _ (by omega)
  have hUS:(Builtin.unsafeString_ #[181,3] 9 #[.pointer (some ⟨g,0,none⟩),.int .i64 l.length]).run Try.prog w.drew=.ok (.string ⟨l.toArray⟩) (w.drew.freeze ⟨g,0,none⟩ l.length):=by
   refine Lib.run_unsafeString_row w.drew 181 3 9 5 t83 (by kernel_rfl) g cur.size (by have hg':w.drew.heap[g]? = some (.cells cur 5 (0,0)):=hg; simp [World.shape?,hg']) l h0 (by omega) (by unfold maxLen at hcm; omega) ?_
   intro j x hx
   exact hown.cells (g:=g) rfl j (.int .u8 x.toNat) (by simp [Lib.byteCells,hx])
  have mixed:=mixB
  go_enter Try.func91,Try.ntmps91
  go_wp2
  go_region_o
  all_goals (go_wp2; go_ret; exact ⟨rfl,⟨(freeze_os w.drew _ _).1,(freeze_os w.drew _ _).2.1,(freeze_os w.drew _ _).2.2,Nat.le_of_eq (freeze_size w.drew _ _).symm,fun k _ hk=>freeze_block w.drew g l.length k (fun e=>hk (by simp [Value.ownBlock,e]))⟩⟩)
end Go.Proofs.Ytjdhndicgifnbaa.Bld
namespace Go.Proofs.Ytjdhndicgifnbaa.Bld
open Go Go.Bld Go.RowKit
set_option maxHeartbeats 2000000
def eightL (n:UInt64):List UInt8:=(List.range 8).map fun i=>(Eng.shr_u64 n (8 * i)).toUInt8
theorem run19 (n:UInt64):(Eng.run1 Try.prog Eng.noCS (Pol.mask 62) 100 62 [.u64 n] [] Try.prog.globals.size).map (·.1)=some (.str (eightL n)):=by kernel_rfl
theorem eight_calls (n:UInt64) (w:World):Calls Try.prog 62 #[.int .u64 n.toNat] w fun e w'=>e=.returned (.string ⟨(eightL n).toArray⟩)∧Fz (.slice none 0 0) w w':=by
 have h:=Eng.callOk_val (Eng.noCS_ok _) mixB (run19 n) rfl rfl
 have hH:Eng.HRel (Eng.sig0 Try.prog) (Eng.aget []) w:=⟨fun n o h=>by simp [Eng.aget] at h,fun n m o o' p q h=>by simp [Eng.aget] at h⟩
 refine (h (Eng.sig0 Try.prog) #[.int .u64 n.toNat] [] w Try.prog.globals.size (.str (eightL n)) [] (.cons (.u64 n) (.nil _)) (Eng.sig0_g _) hH rfl (fun j hj=>by unfold Eng.sig0; rw [if_neg (by omega)])).mono fun e w' ⟨σ',v',he,hv,_,hf,_⟩ => ?_
 cases hv
 exact ⟨he,⟨hf.os,hf.output,hf.tape,hf.size,fun k hk _=>(hf.old k hk (fun ⟨m,o,p,a,_⟩=>by simp [Eng.aget] at a)).1⟩⟩
theorem ownsRow_lt {w:World}{v:Value}{n:Nat}{bs:List Value}(h:w.ownsRow 0 5 1 v n bs){g:Nat}(hg:v.ownBlock=some g):g < w.heap.size:=by
 rcases h.2 with ⟨rfl,_⟩ | ⟨g',cap,cur,rfl,_,hb,_⟩
 ·cases hg
 ·cases hg
  exact (Array.getElem?_eq_some_iff.1 hb).1
theorem ownsRow_keep {w w':World}{v:Value}{n:Nat}{bs:List Value}(h:w.ownsRow 0 5 1 v n bs) (hk:∀ g,v.ownBlock=some g→w'.heap[g]? = w.heap[g]?):w'.ownsRow 0 5 1 v n bs:=by
 refine ⟨h.1,?_⟩
 rcases h.2 with h2 | ⟨g,cap,cur,rfl,hg,hb,r⟩
 ·exact .inl h2
 ·exact .inr ⟨g,cap,cur,rfl,hg,(hk g rfl).trans hb,r⟩
theorem BV.keep {b:Nat}{p v:Value}{bs:List Value}{w w':World}(h:BV b p v bs w) (h1:w'.heap[b]? = w.heap[b]?) (h2:∀ g,v.ownBlock=some g→w'.heap[g]? = w.heap[g]?):BV b p v bs w':=
 ⟨h1.trans h.blk,h.self,ownsRow_keep h.own h2,h.ne,h.nil⟩
structure Two (w0:World) (b c:Nat) (p q v u:Value) (bs cs:List Value) (w:World):Prop where
 hb:BV b p v bs w
 hc:BV c q u cs w
 ne:b ≠ c
 vc:v.ownBlock ≠ some c
 ub:u.ownBlock ≠ some b
 vu:∀ g,v.ownBlock=some g→u.ownBlock ≠ some g
 nb:w0.heap.size≤b
 nc:w0.heap.size≤c
 nv:∀ g,v.ownBlock=some g→w0.heap.size≤g
 nu:∀ g,u.ownBlock=some g→w0.heap.size≤g
 fr:Fz (.slice none 0 0) w0 w
theorem Two.swap {w0:World}{b c:Nat}{p q v u:Value}{bs cs:List Value}{w:World}(h:Two w0 b c p q v u bs cs w):Two w0 c b q p u v cs bs w:=
 ⟨h.hc,h.hb,h.ne.symm,h.ub,h.vc,fun g h1 h2=>h.vu g h2 h1,h.nc,h.nb,h.nu,h.nv,h.fr⟩
theorem Two.step {w0:World}{b c:Nat}{p q v u p' v':Value}{bs cs bs':List Value}{w w':World}(h:Two w0 b c p q v u bs cs w) (hb:BV b p' v' bs' w') (hl:Lies w v v') (hf:Fr b v w w'):Two w0 b c p' q v' u bs' cs w':=by
 have hcl:=h.hc.lt
 have hs:=h.fr.size
 refine ⟨hb,h.hc.keep (hf.block c hcl h.ne.symm h.vc) (fun g hg=>hf.block g (ownsRow_lt h.hc.own hg) (fun e=>h.ub (e ▸ hg)) (fun e=>h.vu g e hg)),h.ne,?_,h.ub,?_,h.nb,h.nc,?_,h.nu,?_⟩
 ·intro e
  rcases hl c e with e1 | e1
  ·exact h.vc e1
  ·omega
 ·intro g hg hu
  rcases hl g hg with e1 | e1
  ·exact h.vu g e1 hu
  ·have:=ownsRow_lt h.hc.own hu
   omega
 ·intro g hg
  rcases hl g hg with e1 | e1
  ·exact h.nv g e1
  ·omega
 ·exact ⟨hf.os.trans h.fr.os,hf.output.trans h.fr.output,hf.tape.trans h.fr.tape,Nat.le_trans hs hf.size,fun k hk _ =>
   (hf.block k (by omega) (by have:=h.nb; omega) (fun e=>by have:=h.nv k e; omega)).trans (h.fr.block k hk (by intro e; cases e))⟩
theorem Two.calm {w0:World}{b c:Nat}{p q v u:Value}{bs cs:List Value}{w w':World}(h:Two w0 b c p q v u bs cs w) (hf:Fz (.slice none 0 0) w w'):Two w0 b c p q v u bs cs w':=by
 have k:∀ g,g < w.heap.size→w'.heap[g]? = w.heap[g]?:=fun g hg=>hf.block g hg (by intro e; cases e)
 refine ⟨h.hb.keep (k _ h.hb.lt) (fun g hg=>k g (ownsRow_lt h.hb.own hg)),h.hc.keep (k _ h.hc.lt) (fun g hg=>k g (ownsRow_lt h.hc.own hg)),h.ne,h.vc,h.ub,h.vu,h.nb,h.nc,h.nv,h.nu,?_⟩
 exact ⟨hf.os.trans h.fr.os,hf.output.trans h.fr.output,hf.tape.trans h.fr.tape,Nat.le_trans h.fr.size hf.size,fun j hj _ =>
  (k j (Nat.lt_of_lt_of_le hj h.fr.size)).trans (h.fr.block j hj (by intro e; cases e))⟩
theorem Two.read {w0:World}{b c:Nat}{p q v u:Value}{bs cs:List Value}{w w':World}(h:Two w0 b c p q v u bs cs w) (hf:Fz v w w'):BV c q u cs w'∧Fz (.slice none 0 0) w0 w':=by
 refine ⟨h.hc.keep (hf.block c h.hc.lt h.vc) (fun g hg=>hf.block g (ownsRow_lt h.hc.own hg) (fun e=>h.vu g e hg)),?_⟩
 exact ⟨hf.os.trans h.fr.os,hf.output.trans h.fr.output,hf.tape.trans h.fr.tape,Nat.le_trans h.fr.size hf.size,fun j hj _ =>
  (hf.block j (Nat.lt_of_lt_of_le hj h.fr.size) (fun e=>by have:=h.nv j e; omega)).trans (h.fr.block j hj (by intro e; cases e))⟩
theorem Two.new (w:World):Two w w.heap.size (w.heap.size+1) (.pointer none) (.pointer none) (.slice none 0 0) (.slice none 0 0) [] [] ((w.alloc (.cells #[.pointer none,.slice none 0 0] 164)).alloc (.cells #[.pointer none,.slice none 0 0] 164)):=by
 have e0:((w.alloc (.cells #[.pointer none,.slice none 0 0] 164)).alloc (.cells #[.pointer none,.slice none 0 0] 164)).heap[w.heap.size]? = some (.cells #[.pointer none,.slice none 0 0] 164 (0,0)):=by
  show ((w.heap.push _).push _)[w.heap.size]? = _
  rw [Array.getElem?_push,if_neg (by simp),Array.getElem?_push,if_pos rfl]
 have e1:((w.alloc (.cells #[.pointer none,.slice none 0 0] 164)).alloc (.cells #[.pointer none,.slice none 0 0] 164)).heap[w.heap.size+1]? = some (.cells #[.pointer none,.slice none 0 0] 164 (0,0)):=by
  show ((w.heap.push _).push _)[w.heap.size+1]? = _
  rw [Array.getElem?_push,if_pos (by simp)]
 refine ⟨⟨e0,.inl rfl,World.ownsRow_nil _ 0 5 1,(by intro e; cases e),fun _=>rfl⟩,⟨e1,.inl rfl,World.ownsRow_nil _ 0 5 1,(by intro e; cases e),fun _=>rfl⟩,by omega,by (intro e; cases e),by (intro e; cases e),(fun g e=>by cases e),Nat.le_refl _,by omega,(fun g e=>by cases e),(fun g e=>by cases e),⟨rfl,rfl,rfl,?_,fun k hk _ => ?_⟩⟩
 ·show w.heap.size≤((w.heap.push _).push _).size
  simp
  omega
 ·show ((w.heap.push _).push _)[k]? = _
  rw [Array.getElem?_push,if_neg (by simp; omega),Array.getElem?_push,if_neg (by omega)]
end Go.Proofs.Ytjdhndicgifnbaa.Bld
namespace Go.Proofs.Ytjdhndicgifnbaa.Bld
open Go Go.Bld Go.RowKit
set_option maxHeartbeats 4000000
theorem e36:∀ args w,(callFunc 89 args).run Try.prog w=.ok (.enter 89 args) w:=ents (by kernel_rfl)
theorem e37:∀ args w,(callFunc 90 args).run Try.prog w=.ok (.enter 90 args) w:=ents (by kernel_rfl)
theorem e38:∀ args w,(callFunc 91 args).run Try.prog w=.ok (.enter 91 args) w:=ents (by kernel_rfl)
theorem e19:∀ args w,(callFunc 62 args).run Try.prog w=.ok (.enter 62 args) w:=ents (by kernel_rfl)
theorem cell_fz {w w':World}(h:Fz (.slice none 0 0) w w'){b o:Nat}(hb:b < w.heap.size):w'.cell? ⟨b,o,none⟩=w.cell? ⟨b,o,none⟩:=by
 unfold World.cell?
 show (match w'.heap[b]? with | _=>_)=_
 rw [h.block b hb (by intro e; cases e)]
theorem eightN (n:Nat) (hn:n < 18446744073709551616) (w:World):Calls Try.prog 62 #[.int .u64 (n:Int)] w fun e w'=>e=.returned (.string ⟨(eightL (UInt64.ofNat n)).toArray⟩)∧Fz (.slice none 0 0) w w':=by
 have h:=eight_calls (UInt64.ofNat n) w
 have e:(UInt64.ofNat n).toNat=n:=by rw [UInt64.toNat_ofNat']; exact Nat.mod_eq_of_lt hn
 rw [e] at h
 exact h
theorem eight_len (n:UInt64):(eightL n).length=8:=by unfold eightL; simp
theorem eight_size (n:UInt64):((⟨(eightL n).toArray⟩:ByteArray)).size=8:=by show (eightL n).toArray.size=8; simp [eight_len]
theorem padI (n:Nat):∃ m:Nat,-((n:Int) % 16) % 16=(m:Int)∧(16 - n % 16) % 16=m∧m < 16:=⟨(16 - n % 16) % 16,by omega,rfl,by omega⟩
theorem Fz.of_grown {w w':World}(h:w.grownBy w' none):Fz (.slice none 0 0) w w':=⟨h.os,h.output,h.tape,h.size,fun k hk _=>h.block k hk (by intro e; cases e)⟩
def zrs (n:Nat):List Value:=Lib.byteCells (List.replicate n 0)
theorem zrs_len (n:Nat):(zrs n).length=n:=by unfold zrs; rw [Lib.byteCells_length,List.length_replicate]
theorem zrs_at {n j:Nat}{u:Value}(h:(zrs n)[j]? = some u):j < n∧u=.int .u8 0:=by
 have hj:j < n:=by rw [← zrs_len n]; exact (List.getElem?_eq_some_iff.1 h).1
 refine ⟨hj,?_⟩
 unfold zrs Lib.byteCells at h
 rw [List.getElem?_map,List.getElem?_replicate,if_pos hj] at h
 exact (Option.some.inj h).symm
theorem made_zrs (n:Nat):(madeCells (Value.int .u8 0).cells (n * 1)).toList=zrs n:=by
 have e:(Value.int IntKind.u8 0).cells = #[.int .u8 0]:=rfl
 rw [e,Nat.mul_one]
 apply List.ext_getElem
 ·rw [zrs_len]; simp [madeCells]
 ·intro i h1 h2
  have hu:=zrs_at (List.getElem?_eq_getElem h2)
  rw [hu.2]
  simp [madeCells,Nat.mod_one]
theorem made_row {w0 w w3:World}{b c:Nat}{p q v u:Value}{bs cs:List Value}{n:Nat}(T:Two w0 b c p q v u bs cs w) (hg:w.grownBy w3 none) (ho:w3.ownsRow 0 5 1 (.slice (some ⟨w.heap.size,0,none⟩) n n) n (zrs n)) (hl:bs.length+n≤1000000000) :
  Two w0 b c p q v u bs cs w3∧(Calls Try.prog 90 #[.pointer (some ⟨b,0,none⟩),.slice (some ⟨w.heap.size,0,none⟩) n n] w3 fun e w'=>e=.returned (.tuple #[.int .i64 n,.nilIface]) ∧
   ∃ v',BV b (.pointer (some ⟨b,0,none⟩)) v' (bs++zrs n) w'∧Lies w3 v v'∧Fr b v w3 w'):=by
 have T2:=T.calm (Fz.of_grown hg)
 have hs:w.heap.size < w3.heap.size:=ownsRow_lt ho (g:=w.heap.size) rfl
 refine ⟨T2,writeR T2.hb ⟨w.heap.size,0,none⟩ n n (zrs n) (zrs_len n) (fun j u hj=>ho.cells (g:=w.heap.size) rfl j u hj) (fun u hu => ?_) (fun e => ?_) hs hl⟩
 ·obtain ⟨j,hj⟩:=List.mem_iff_getElem?.1 hu
  rw [(zrs_at hj).2]; rfl
 ·have:=T.hb.lt
  have e':w.heap.size=b:=e
  omega
def padL (n:Nat):List UInt8:=List.replicate ((16 - n % 16) % 16) 0
def padT (a c:List UInt8):List UInt8:=a++padL a.length++c++padL c.length++(eightL (UInt64.ofNat a.length)++eightL (UInt64.ofNat c.length))
theorem str_bytes (s:ByteArray):Lib.strCells s=Lib.byteCells s.data.toList:=rfl
theorem str_eight (n:UInt64):Lib.strCells ⟨(eightL n).toArray⟩=Lib.byteCells (eightL n):=rfl
theorem size_len (s:ByteArray):s.data.toList.length=s.size:=Array.length_toList
theorem padded_calls (a c:ByteArray) (ha:a.size≤200000) (hc:c.size≤200000) (sb so cap:Nat) (w:World) (h0:w.cell? ⟨sb,so,none⟩=some (.string a)) (h1:w.cell? ⟨sb,so+1,none⟩=some (.string c)) (hsb:sb < w.heap.size) :
  Calls Try.prog 78 #[.slice (some ⟨sb,so,none⟩) 2 cap] w fun e w'=>e=.returned (.string ⟨(padT a.data.toList c.data.toList).toArray⟩)∧Fz (.slice none 0 0) w w':=by
 have mixed:=mixB
 have e36:=e36
 have e37:=e37
 have e38:=e38
 have e19:=e19
 obtain ⟨i0,hi,hz0,hz1,hz2⟩:=info5
 have T:=Two.new w
 go_enter Try.func78,Try.ntmps78
 go_wp2
 obtain ⟨w1,hw1⟩:∃ w1,w1=((w.alloc (.cells #[.pointer none,.slice none 0 0] 164)).alloc (.cells #[.pointer none,.slice none 0 0] 164)):=⟨_,rfl⟩
 rw [← hw1] at T ⊢
 clear hw1
 obtain ⟨b1,hb1⟩:∃ b1,b1=w.heap.size:=⟨_,rfl⟩
 obtain ⟨b2,hb2⟩:∃ b2,b2=w.heap.size+1:=⟨_,rfl⟩
 rw [← hb2] at T ⊢
 rw [← hb1] at T ⊢
 clear hb1 hb2
 have g0:w1.cell? ⟨sb,so,none⟩=some (.string a):=(cell_fz T.fr hsb).trans h0
 have g1:w1.cell? ⟨sb,so+1,none⟩=some (.string c):=(cell_fz T.fr hsb).trans h1
 refine wp_loop_rounds 3 ?_
 rw [rounds_succ]
 go_wp2_with (go_at_call 89; refine (write T.hb a (by simp [zrs_len,Lib.strCells_length]; omega)).mono ?_)
 rintro e w12 ⟨rfl,v11,H11,L11,F11⟩
 have T11:=T.step H11 L11 F11
 go_wp2
 obtain ⟨n1,hn1,hm1,hl1⟩:=padI a.size
 rw [hn1]
 obtain ⟨w13,hk1,ho1,hg1⟩:=run_make_full w12 0 55 5 i0 (.int .u8 0) 1 Try.underlying55 hi hz0 hz1 .i64 .i64 n1 (by rw [hz2]; omega) (by unfold maxLen; omega) (Nat.zero_le _)
 rw [made_zrs] at ho1
 rw [hk1]
 simp only [Result.andThen]
 rw [Oper.upon_value]
 obtain ⟨T12,C12⟩:=made_row T11 hg1 ho1 (by simp [zrs_len,Lib.strCells_length]; omega)
 clear hk1 hg1 ho1 hn1
 have hm1':Eng.AVal.int .i64 n1=.int .i64 ((16 - a.size % 16) % 16:Nat):=by rw [hm1]
 clear hm1
 go_wp2_with (go_at_call 90; refine C12.mono ?_)
 rintro e w14 ⟨rfl,v12,H12,L12,F12⟩
 have T13:=T12.step H12 L12 F12
 go_wp2_with (go_at_call 62; refine (eightN a.size (by omega) w14).mono ?_)
 rintro e w15 ⟨rfl,G1⟩
 have T14:=(T13.calm G1).swap
 go_wp2_with (go_at_call 89; refine (write T14.hb ⟨(eightL (UInt64.ofNat a.size)).toArray⟩ (by rw [eight_size]; simp [Lib.strCells_length,eight_size])).mono ?_)
 rintro e w16 ⟨rfl,u1,H13,L13,F13⟩
 have T15:=(T14.step H13 L13 F13).swap
 go_wp2
 have g2:w16.cell? ⟨sb,so+1,none⟩=some (.string c):=(cell_fz T15.fr hsb).trans h1
 rw [rounds_succ]
 go_wp2_with (go_at_call 89; refine (write T15.hb c (by simp [zrs_len,Lib.strCells_length]; omega)).mono ?_)
 rintro e w22 ⟨rfl,v21,H21,L21,F21⟩
 have T21:=T15.step H21 L21 F21
 go_wp2
 obtain ⟨n2,hn2,hm2,hl2⟩:=padI c.size
 rw [hn2]
 obtain ⟨w23,hk2,ho2,hg2⟩:=run_make_full w22 0 55 5 i0 (.int .u8 0) 1 Try.underlying55 hi hz0 hz1 .i64 .i64 n2 (by rw [hz2]; omega) (by unfold maxLen; omega) (Nat.zero_le _)
 rw [made_zrs] at ho2
 rw [hk2]
 simp only [Result.andThen]
 rw [Oper.upon_value]
 obtain ⟨T22,C22⟩:=made_row T21 hg2 ho2 (by simp [zrs_len,Lib.strCells_length]; omega)
 clear hk2 hg2 ho2 hn2
 have hm2':Eng.AVal.int .i64 n2=.int .i64 ((16 - c.size % 16) % 16:Nat):=by rw [hm2]
 clear hm2
 go_wp2_with (go_at_call 90; refine C22.mono ?_)
 rintro e w24 ⟨rfl,v22,H22,L22,F22⟩
 have T23:=T22.step H22 L22 F22
 go_wp2_with (go_at_call 62; refine (eightN c.size (by omega) w24).mono ?_)
 rintro e w25 ⟨rfl,G2⟩
 have T24:=(T23.calm G2).swap
 go_wp2_with (go_at_call 89; refine (write T24.hb ⟨(eightL (UInt64.ofNat c.size)).toArray⟩ (by rw [eight_size]; simp [Lib.strCells_length,eight_size])).mono ?_)
 rintro e w26 ⟨rfl,u2,H23,L23,F23⟩
 have T25:=(T24.step H23 L23 F23).swap
 go_wp2
 rw [rounds_succ]
 have E1:[]++Lib.strCells a++zrs n1++Lib.strCells c++zrs n2=Lib.byteCells (a.data.toList++List.replicate n1 0++c.data.toList++List.replicate n2 0):=by
  unfold zrs
  rw [str_bytes,str_bytes,List.nil_append,← Lib.byteCells_append,← Lib.byteCells_append,← Lib.byteCells_append]
 have E2:[]++Lib.strCells ⟨(eightL (UInt64.ofNat a.size)).toArray⟩++Lib.strCells ⟨(eightL (UInt64.ofNat c.size)).toArray⟩=Lib.byteCells (eightL (UInt64.ofNat a.size)++eightL (UInt64.ofNat c.size)):=by
  rw [str_eight,str_eight,List.nil_append,← Lib.byteCells_append]
 rw [E1,E2] at T25
 go_wp2_with (go_at_call 91; refine (text T25.hb).mono ?_)
 rintro e w7 ⟨rfl,Z1⟩
 obtain ⟨Y2,Z2⟩:=T25.read Z1
 go_wp2_with (go_at_call 91; refine (text Y2).mono ?_)
 rintro e w8 ⟨rfl,Z3⟩
 go_wp2
 ·rename_i hbig
  exfalso
  rw [eight_len,eight_len] at hbig
  omega
 have m1:n1=(16 - a.size % 16) % 16:=by injection hm1' with _ h; exact Int.ofNat_inj.1 h
 have m2:n2=(16 - c.size % 16) % 16:=by injection hm2' with _ h; exact Int.ofNat_inj.1 h
 have fin:Fz (.slice none 0 0) w w8:=⟨Z3.os.trans Z2.os,Z3.output.trans Z2.output,Z3.tape.trans Z2.tape,Nat.le_trans Z2.size Z3.size,fun k hk hh =>
  (Z3.block k (Nat.lt_of_lt_of_le hk Z2.size) (fun e=>by have:=T25.nu k e; omega)).trans (Z2.block k hk hh)⟩
 go_ret
 refine ⟨?_,fin⟩
 show Ending.returned (Value.string _)=_
 congr 2
 apply ByteArray.ext
 unfold padT padL
 rw [size_len,size_len,← m1,← m2,ByteArray.data_append]
 simp
end Go.Proofs.Ytjdhndicgifnbaa.Bld
namespace Go.Eng
open Go
def bodyOf (f:Func):Code:=f.body.getD .skip
end Go.Eng
namespace Go.Cha
open Go Go.Eng
def rotl32 (x:UInt32) (k:Nat):UInt32:=shl_u32 x k ||| shr_u32 x (32 - k)
def quarter (x:List UInt32) (a b c d:Nat):List UInt32:=
 let x:=x.set a (x.getD a 0+x.getD b 0)
 let x:=x.set d (rotl32 (x.getD d 0 ^^^ x.getD a 0) 16)
 let x:=x.set c (x.getD c 0+x.getD d 0)
 let x:=x.set b (rotl32 (x.getD b 0 ^^^ x.getD c 0) 12)
 let x:=x.set a (x.getD a 0+x.getD b 0)
 let x:=x.set d (rotl32 (x.getD d 0 ^^^ x.getD a 0) 8)
 let x:=x.set c (x.getD c 0+x.getD d 0)
 x.set b (rotl32 (x.getD b 0 ^^^ x.getD c 0) 7)
theorem quarter_length (x:List UInt32) (a b c d:Nat):(quarter x a b c d).length=x.length:=by simp [quarter]
def dround (x:List UInt32):List UInt32:=
 let x:=quarter x 0 4 8 12
 let x:=quarter x 1 5 9 13
 let x:=quarter x 2 6 10 14
 let x:=quarter x 3 7 11 15
 let x:=quarter x 0 5 10 15
 let x:=quarter x 1 6 11 12
 let x:=quarter x 2 7 8 13
 quarter x 3 4 9 14
theorem dround_length (x:List UInt32):(dround x).length=x.length:=by simp [dround,quarter_length]
def rounds (x:List UInt32):Nat→List UInt32
 | 0=>x
 | n+1=>dround (rounds x n)
theorem rounds_length (x:List UInt32):∀ n,(rounds x n).length=x.length
 | 0=>rfl
 | n+1=>by rw [rounds,dround_length,rounds_length x n]
def word (a b c d:UInt8):UInt32:=a.toUInt32 ||| shl_u32 b.toUInt32 8 ||| shl_u32 c.toUInt32 16 ||| shl_u32 d.toUInt32 24
def wordP (a b c d:UInt8):UInt32:=0 ||| shl_u32 a.toUInt32 0 ||| shl_u32 b.toUInt32 8 ||| shl_u32 c.toUInt32 16 ||| shl_u32 d.toUInt32 24
theorem wordP_eq (a b c d:UInt8):wordP a b c d=word a b c d:=by
 have h:shl_u32 a.toUInt32 0=a.toUInt32:=by
  apply UInt32.toNat_inj.1
  simp [shl_u32,Nat.ble]
 simp only [wordP,word,h,UInt32.zero_or]
def bytesV (l:List UInt8):AVal:=.agg (l.map .u8)
def wordsOf:List UInt8→List UInt32
 | a::b::c::d::l=>word a b c d::wordsOf l
 | _=>[]
def le32 (n:UInt32):List UInt8:=[n.toUInt8,(shr_u32 n 8).toUInt8,(shr_u32 n 16).toUInt8,(shr_u32 n 24).toUInt8]
def sigma:List UInt8:=[101,120,112,97,110,100,32,51,50,45,98,121,116,101,32,107]
def seed (key nonce:List UInt8) (n:UInt32):List UInt8:=sigma++key++le32 n++nonce
def outB (x y:List UInt32):List UInt8:=(List.range 64).map fun i=>(shr_u32 (x.getD (i / 4) 0+y.getD (i / 4) 0) (8 * (i % 4))).toUInt8
def block (key nonce:List UInt8) (n:UInt32):List UInt8:=
 let x:=wordsOf (seed key nonce n)
 outB x (rounds x 10)
theorem sixteen {α:Type}{x:List α}(h:x.length=16):∃ x0 x1 x2 x3 x4 x5 x6 x7 x8 x9 x10 x11 x12 x13 x14 x15,x=[x0,x1,x2,x3,x4,x5,x6,x7,x8,x9,x10,x11,x12,x13,x14,x15]:=by
 match x,h with
 | [x0,x1,x2,x3,x4,x5,x6,x7,x8,x9,x10,x11,x12,x13,x14,x15],_=>exact ⟨_,_,_,_,_,_,_,_,_,_,_,_,_,_,_,_,rfl⟩
theorem twelve {α:Type}{x:List α}(h:x.length=12):∃ x0 x1 x2 x3 x4 x5 x6 x7 x8 x9 x10 x11,x=[x0,x1,x2,x3,x4,x5,x6,x7,x8,x9,x10,x11]:=by
 match x,h with
 | [x0,x1,x2,x3,x4,x5,x6,x7,x8,x9,x10,x11],_=>exact ⟨_,_,_,_,_,_,_,_,_,_,_,_,rfl⟩
theorem thirtytwo {α:Type}{x:List α}(h:x.length=32):∃ x0 x1 x2 x3 x4 x5 x6 x7 x8 x9 x10 x11 x12 x13 x14 x15 x16 x17 x18 x19 x20 x21 x22 x23 x24 x25 x26 x27 x28 x29 x30 x31,x=[x0,x1,x2,x3,x4,x5,x6,x7,x8,x9,x10,x11,x12,x13,x14,x15,x16,x17,x18,x19,x20,x21,x22,x23,x24,x25,x26,x27,x28,x29,x30,x31]:=by
 match x,h with
 | [x0,x1,x2,x3,x4,x5,x6,x7,x8,x9,x10,x11,x12,x13,x14,x15,x16,x17,x18,x19,x20,x21,x22,x23,x24,x25,x26,x27,x28,x29,x30,x31],_=>exact ⟨_,_,_,_,_,_,_,_,_,_,_,_,_,_,_,_,_,_,_,_,_,_,_,_,_,_,_,_,_,_,_,_,rfl⟩
end Go.Cha
namespace Go.Proofs.Ytjdhndicgifnbaa.Cha
open Go Go.Eng Go.Cha
def mask:FuncId→Nat:=fun f=>match f with | 2=>0 | 3=>365375409332725729947371552983878617215964020575 | 4=>784639213866387133023247008434189312784631789478851116831 | 5=>655347 | 6=>5070602410431437552423287133175 | 7=>4125 | 8=>35184372399935 | 9=>137438961631 | 10=>16778143 | 11=>730751515566397369200144221885464436550869712891 | 12=>19 | 13=>19 | 14=>19 | 15=>19 | 16=>5 | 17=>21 | 18=>2077 | 19=>562950221861831 | 20=>1125968626401039 | 21=>17 | 22=>8563 | 23=>4398046841723 | 24=>34359747783 | 25=>187 | 26=>30893 | 27=>1 | 28=>22397447421778042106060090491909247527140382423674543333598762184500590803345907219399002409819466366967 | 29=>33571891 | 30=>525 | 31=>7 | 32=>11 | 33=>7 | 34=>70369851475911 | 35=>17593268178703 | 36=>5 | 37=>1043 | 38=>4303411983 | 39=>5 | 40=>140737505133811 | 41=>144115222574037775 | 42=>1033053696924754020339 | 43=>5 | 44=>27 | 45=>7 | 46=>65735 | 47=>537399539 | 48=>1087 | 49=>5 | 50=>16781363 | 51=>33571015 | 52=>70368744194163 | 53=>67125491 | 54=>268436551 | 55=>8423183 | 56=>5 | 57=>140806744703219 | 58=>8796244086543 | 59=>1075 | 60=>609885634319 | 61=>528143 | 62=>125 | 63=>5 | 64=>51 | 65=>14451 | 66=>66483 | 67=>15 | 68=>262411 | 69=>19 | 70=>283602206479 | 71=>783 | 72=>157 | 73=>4157 | 74=>19 | 75=>127 | 76=>4551 | 77=>309513344275821599845253107 | 78=>2013 | 79=>590296091842272313287 | 80=>39614081552298092776981266419 | 81=>5 | 82=>269353199 | 83=>928456800891898357834874823 | 84=>281475043836915 | 85=>95 | 86=>511 | 87=>4313087 | 88=>34359787583 | 89=>51 | 90=>51 | 91=>5 | 92=>5 | 93=>1087 | 94=>9671406628976826459979775 | 95=>4503599627442175 | 96=>2147516543 | 97=>116767 | 98=>1073742391 | 99=>524353 | 100=>51 | _=>0
theorem hmix:Try.prog.follows .mixedOrders=true:=by kernel_rfl
noncomputable def cs0:CS:=inl Try.prog mask 100 noCS 3
theorem cs0_ok:CSOk Try.prog cs0:=inl_ok hmix (noCS_ok _) 3
theorem rq0 (x0 x1 x2 x3 x4 x5 x6 x7 x8 x9 x10 x11 x12 x13 x14 x15:UInt32):(run1 Try.prog cs0 (mask 93) 100 93 [.agg ([x0,x1,x2,x3,x4,x5,x6,x7,x8,x9,x10,x11,x12,x13,x14,x15].map .u32),.int .i64 0,.int .i64 4,.int .i64 8,.int .i64 12] [] Try.prog.globals.size).map (·.1)=some (.agg ((quarter [x0,x1,x2,x3,x4,x5,x6,x7,x8,x9,x10,x11,x12,x13,x14,x15] 0 4 8 12).map .u32)):=by kernel_rfl
theorem pq0 (x0 x1 x2 x3 x4 x5 x6 x7 x8 x9 x10 x11 x12 x13 x14 x15:UInt32):(run1 Try.prog cs0 (mask 97) 100 97 [.ptr Try.prog.globals.size 0,.int .i64 0,.int .i64 4,.int .i64 8,.int .i64 12] [(Try.prog.globals.size,.cells false ([x0,x1,x2,x3,x4,x5,x6,x7,x8,x9,x10,x11,x12,x13,x14,x15].map .u32))] (Try.prog.globals.size+1)).map (fun r=>(r.1,aget r.2.1 Try.prog.globals.size))=some (.tup [],some (.cells false ((quarter [x0,x1,x2,x3,x4,x5,x6,x7,x8,x9,x10,x11,x12,x13,x14,x15] 0 4 8 12).map .u32))):=by kernel_rfl
theorem rq1 (x0 x1 x2 x3 x4 x5 x6 x7 x8 x9 x10 x11 x12 x13 x14 x15:UInt32):(run1 Try.prog cs0 (mask 93) 100 93 [.agg ([x0,x1,x2,x3,x4,x5,x6,x7,x8,x9,x10,x11,x12,x13,x14,x15].map .u32),.int .i64 1,.int .i64 5,.int .i64 9,.int .i64 13] [] Try.prog.globals.size).map (·.1)=some (.agg ((quarter [x0,x1,x2,x3,x4,x5,x6,x7,x8,x9,x10,x11,x12,x13,x14,x15] 1 5 9 13).map .u32)):=by kernel_rfl
theorem pq1 (x0 x1 x2 x3 x4 x5 x6 x7 x8 x9 x10 x11 x12 x13 x14 x15:UInt32):(run1 Try.prog cs0 (mask 97) 100 97 [.ptr Try.prog.globals.size 0,.int .i64 1,.int .i64 5,.int .i64 9,.int .i64 13] [(Try.prog.globals.size,.cells false ([x0,x1,x2,x3,x4,x5,x6,x7,x8,x9,x10,x11,x12,x13,x14,x15].map .u32))] (Try.prog.globals.size+1)).map (fun r=>(r.1,aget r.2.1 Try.prog.globals.size))=some (.tup [],some (.cells false ((quarter [x0,x1,x2,x3,x4,x5,x6,x7,x8,x9,x10,x11,x12,x13,x14,x15] 1 5 9 13).map .u32))):=by kernel_rfl
theorem rq2 (x0 x1 x2 x3 x4 x5 x6 x7 x8 x9 x10 x11 x12 x13 x14 x15:UInt32):(run1 Try.prog cs0 (mask 93) 100 93 [.agg ([x0,x1,x2,x3,x4,x5,x6,x7,x8,x9,x10,x11,x12,x13,x14,x15].map .u32),.int .i64 2,.int .i64 6,.int .i64 10,.int .i64 14] [] Try.prog.globals.size).map (·.1)=some (.agg ((quarter [x0,x1,x2,x3,x4,x5,x6,x7,x8,x9,x10,x11,x12,x13,x14,x15] 2 6 10 14).map .u32)):=by kernel_rfl
theorem pq2 (x0 x1 x2 x3 x4 x5 x6 x7 x8 x9 x10 x11 x12 x13 x14 x15:UInt32):(run1 Try.prog cs0 (mask 97) 100 97 [.ptr Try.prog.globals.size 0,.int .i64 2,.int .i64 6,.int .i64 10,.int .i64 14] [(Try.prog.globals.size,.cells false ([x0,x1,x2,x3,x4,x5,x6,x7,x8,x9,x10,x11,x12,x13,x14,x15].map .u32))] (Try.prog.globals.size+1)).map (fun r=>(r.1,aget r.2.1 Try.prog.globals.size))=some (.tup [],some (.cells false ((quarter [x0,x1,x2,x3,x4,x5,x6,x7,x8,x9,x10,x11,x12,x13,x14,x15] 2 6 10 14).map .u32))):=by kernel_rfl
theorem rq3 (x0 x1 x2 x3 x4 x5 x6 x7 x8 x9 x10 x11 x12 x13 x14 x15:UInt32):(run1 Try.prog cs0 (mask 93) 100 93 [.agg ([x0,x1,x2,x3,x4,x5,x6,x7,x8,x9,x10,x11,x12,x13,x14,x15].map .u32),.int .i64 3,.int .i64 7,.int .i64 11,.int .i64 15] [] Try.prog.globals.size).map (·.1)=some (.agg ((quarter [x0,x1,x2,x3,x4,x5,x6,x7,x8,x9,x10,x11,x12,x13,x14,x15] 3 7 11 15).map .u32)):=by kernel_rfl
theorem pq3 (x0 x1 x2 x3 x4 x5 x6 x7 x8 x9 x10 x11 x12 x13 x14 x15:UInt32):(run1 Try.prog cs0 (mask 97) 100 97 [.ptr Try.prog.globals.size 0,.int .i64 3,.int .i64 7,.int .i64 11,.int .i64 15] [(Try.prog.globals.size,.cells false ([x0,x1,x2,x3,x4,x5,x6,x7,x8,x9,x10,x11,x12,x13,x14,x15].map .u32))] (Try.prog.globals.size+1)).map (fun r=>(r.1,aget r.2.1 Try.prog.globals.size))=some (.tup [],some (.cells false ((quarter [x0,x1,x2,x3,x4,x5,x6,x7,x8,x9,x10,x11,x12,x13,x14,x15] 3 7 11 15).map .u32))):=by kernel_rfl
theorem rq4 (x0 x1 x2 x3 x4 x5 x6 x7 x8 x9 x10 x11 x12 x13 x14 x15:UInt32):(run1 Try.prog cs0 (mask 93) 100 93 [.agg ([x0,x1,x2,x3,x4,x5,x6,x7,x8,x9,x10,x11,x12,x13,x14,x15].map .u32),.int .i64 0,.int .i64 5,.int .i64 10,.int .i64 15] [] Try.prog.globals.size).map (·.1)=some (.agg ((quarter [x0,x1,x2,x3,x4,x5,x6,x7,x8,x9,x10,x11,x12,x13,x14,x15] 0 5 10 15).map .u32)):=by kernel_rfl
theorem pq4 (x0 x1 x2 x3 x4 x5 x6 x7 x8 x9 x10 x11 x12 x13 x14 x15:UInt32):(run1 Try.prog cs0 (mask 97) 100 97 [.ptr Try.prog.globals.size 0,.int .i64 0,.int .i64 5,.int .i64 10,.int .i64 15] [(Try.prog.globals.size,.cells false ([x0,x1,x2,x3,x4,x5,x6,x7,x8,x9,x10,x11,x12,x13,x14,x15].map .u32))] (Try.prog.globals.size+1)).map (fun r=>(r.1,aget r.2.1 Try.prog.globals.size))=some (.tup [],some (.cells false ((quarter [x0,x1,x2,x3,x4,x5,x6,x7,x8,x9,x10,x11,x12,x13,x14,x15] 0 5 10 15).map .u32))):=by kernel_rfl
theorem rq5 (x0 x1 x2 x3 x4 x5 x6 x7 x8 x9 x10 x11 x12 x13 x14 x15:UInt32):(run1 Try.prog cs0 (mask 93) 100 93 [.agg ([x0,x1,x2,x3,x4,x5,x6,x7,x8,x9,x10,x11,x12,x13,x14,x15].map .u32),.int .i64 1,.int .i64 6,.int .i64 11,.int .i64 12] [] Try.prog.globals.size).map (·.1)=some (.agg ((quarter [x0,x1,x2,x3,x4,x5,x6,x7,x8,x9,x10,x11,x12,x13,x14,x15] 1 6 11 12).map .u32)):=by kernel_rfl
theorem pq5 (x0 x1 x2 x3 x4 x5 x6 x7 x8 x9 x10 x11 x12 x13 x14 x15:UInt32):(run1 Try.prog cs0 (mask 97) 100 97 [.ptr Try.prog.globals.size 0,.int .i64 1,.int .i64 6,.int .i64 11,.int .i64 12] [(Try.prog.globals.size,.cells false ([x0,x1,x2,x3,x4,x5,x6,x7,x8,x9,x10,x11,x12,x13,x14,x15].map .u32))] (Try.prog.globals.size+1)).map (fun r=>(r.1,aget r.2.1 Try.prog.globals.size))=some (.tup [],some (.cells false ((quarter [x0,x1,x2,x3,x4,x5,x6,x7,x8,x9,x10,x11,x12,x13,x14,x15] 1 6 11 12).map .u32))):=by kernel_rfl
theorem rq6 (x0 x1 x2 x3 x4 x5 x6 x7 x8 x9 x10 x11 x12 x13 x14 x15:UInt32):(run1 Try.prog cs0 (mask 93) 100 93 [.agg ([x0,x1,x2,x3,x4,x5,x6,x7,x8,x9,x10,x11,x12,x13,x14,x15].map .u32),.int .i64 2,.int .i64 7,.int .i64 8,.int .i64 13] [] Try.prog.globals.size).map (·.1)=some (.agg ((quarter [x0,x1,x2,x3,x4,x5,x6,x7,x8,x9,x10,x11,x12,x13,x14,x15] 2 7 8 13).map .u32)):=by kernel_rfl
theorem pq6 (x0 x1 x2 x3 x4 x5 x6 x7 x8 x9 x10 x11 x12 x13 x14 x15:UInt32):(run1 Try.prog cs0 (mask 97) 100 97 [.ptr Try.prog.globals.size 0,.int .i64 2,.int .i64 7,.int .i64 8,.int .i64 13] [(Try.prog.globals.size,.cells false ([x0,x1,x2,x3,x4,x5,x6,x7,x8,x9,x10,x11,x12,x13,x14,x15].map .u32))] (Try.prog.globals.size+1)).map (fun r=>(r.1,aget r.2.1 Try.prog.globals.size))=some (.tup [],some (.cells false ((quarter [x0,x1,x2,x3,x4,x5,x6,x7,x8,x9,x10,x11,x12,x13,x14,x15] 2 7 8 13).map .u32))):=by kernel_rfl
theorem rq7 (x0 x1 x2 x3 x4 x5 x6 x7 x8 x9 x10 x11 x12 x13 x14 x15:UInt32):(run1 Try.prog cs0 (mask 93) 100 93 [.agg ([x0,x1,x2,x3,x4,x5,x6,x7,x8,x9,x10,x11,x12,x13,x14,x15].map .u32),.int .i64 3,.int .i64 4,.int .i64 9,.int .i64 14] [] Try.prog.globals.size).map (·.1)=some (.agg ((quarter [x0,x1,x2,x3,x4,x5,x6,x7,x8,x9,x10,x11,x12,x13,x14,x15] 3 4 9 14).map .u32)):=by kernel_rfl
theorem pq7 (x0 x1 x2 x3 x4 x5 x6 x7 x8 x9 x10 x11 x12 x13 x14 x15:UInt32):(run1 Try.prog cs0 (mask 97) 100 97 [.ptr Try.prog.globals.size 0,.int .i64 3,.int .i64 4,.int .i64 9,.int .i64 14] [(Try.prog.globals.size,.cells false ([x0,x1,x2,x3,x4,x5,x6,x7,x8,x9,x10,x11,x12,x13,x14,x15].map .u32))] (Try.prog.globals.size+1)).map (fun r=>(r.1,aget r.2.1 Try.prog.globals.size))=some (.tup [],some (.cells false ((quarter [x0,x1,x2,x3,x4,x5,x6,x7,x8,x9,x10,x11,x12,x13,x14,x15] 3 4 9 14).map .u32))):=by kernel_rfl
def okq:Int→Int→Int→Int→Bool
 | 0,4,8,12=>true
 | 1,5,9,13=>true
 | 2,6,10,14=>true
 | 3,7,11,15=>true
 | 0,5,10,15=>true
 | 1,6,11,12=>true
 | 2,7,8,13=>true
 | 3,4,9,14=>true
 | _,_,_,_=>false
theorem okq_cases {a b c d:Int}(h:okq a b c d=true):(a=0∧b=4∧c=8∧d=12) ∨ (a=1∧b=5∧c=9∧d=13) ∨ (a=2∧b=6∧c=10∧d=14) ∨ (a=3∧b=7∧c=11∧d=15) ∨ (a=0∧b=5∧c=10∧d=15) ∨ (a=1∧b=6∧c=11∧d=12) ∨ (a=2∧b=7∧c=8∧d=13) ∨ (a=3∧b=4∧c=9∧d=14):=by
 unfold okq at h
 split at h <;> first | (cases h; done) | simp
theorem okMap {α β:Type}{x:Option α}{g:α→β}{y:β}(h:x.map g=some y):∃ r,x=some r∧g r=y:=by
 cases x with
 | none=>cases h
 | some r=>exact ⟨r,rfl,Option.some.inj h⟩
theorem rq_any {x:List UInt32}(hx:x.length=16){a b c d:Int}(h:okq a b c d=true):∃ r,run1 Try.prog cs0 (mask 93) 100 93 [.agg (x.map .u32),.int .i64 a,.int .i64 b,.int .i64 c,.int .i64 d] [] Try.prog.globals.size=some r∧r.1=.agg ((quarter x a.toNat b.toNat c.toNat d.toNat).map .u32):=by
 obtain ⟨x0,x1,x2,x3,x4,x5,x6,x7,x8,x9,x10,x11,x12,x13,x14,x15,rfl⟩:=sixteen hx
 rcases okq_cases h with ⟨rfl,rfl,rfl,rfl⟩ | ⟨rfl,rfl,rfl,rfl⟩ | ⟨rfl,rfl,rfl,rfl⟩ | ⟨rfl,rfl,rfl,rfl⟩ | ⟨rfl,rfl,rfl,rfl⟩ | ⟨rfl,rfl,rfl,rfl⟩ | ⟨rfl,rfl,rfl,rfl⟩ | ⟨rfl,rfl,rfl,rfl⟩
 ·exact okMap (rq0 x0 x1 x2 x3 x4 x5 x6 x7 x8 x9 x10 x11 x12 x13 x14 x15)
 ·exact okMap (rq1 x0 x1 x2 x3 x4 x5 x6 x7 x8 x9 x10 x11 x12 x13 x14 x15)
 ·exact okMap (rq2 x0 x1 x2 x3 x4 x5 x6 x7 x8 x9 x10 x11 x12 x13 x14 x15)
 ·exact okMap (rq3 x0 x1 x2 x3 x4 x5 x6 x7 x8 x9 x10 x11 x12 x13 x14 x15)
 ·exact okMap (rq4 x0 x1 x2 x3 x4 x5 x6 x7 x8 x9 x10 x11 x12 x13 x14 x15)
 ·exact okMap (rq5 x0 x1 x2 x3 x4 x5 x6 x7 x8 x9 x10 x11 x12 x13 x14 x15)
 ·exact okMap (rq6 x0 x1 x2 x3 x4 x5 x6 x7 x8 x9 x10 x11 x12 x13 x14 x15)
 ·exact okMap (rq7 x0 x1 x2 x3 x4 x5 x6 x7 x8 x9 x10 x11 x12 x13 x14 x15)
theorem pq_any {x:List UInt32}(hx:x.length=16){a b c d:Int}(h:okq a b c d=true):∃ r,run1 Try.prog cs0 (mask 97) 100 97 [.ptr Try.prog.globals.size 0,.int .i64 a,.int .i64 b,.int .i64 c,.int .i64 d] [(Try.prog.globals.size,.cells false (x.map .u32))] (Try.prog.globals.size+1)=some r∧(r.1,aget r.2.1 Try.prog.globals.size)=(.tup [],some (.cells false ((quarter x a.toNat b.toNat c.toNat d.toNat).map .u32))):=by
 obtain ⟨x0,x1,x2,x3,x4,x5,x6,x7,x8,x9,x10,x11,x12,x13,x14,x15,rfl⟩:=sixteen hx
 rcases okq_cases h with ⟨rfl,rfl,rfl,rfl⟩ | ⟨rfl,rfl,rfl,rfl⟩ | ⟨rfl,rfl,rfl,rfl⟩ | ⟨rfl,rfl,rfl,rfl⟩ | ⟨rfl,rfl,rfl,rfl⟩ | ⟨rfl,rfl,rfl,rfl⟩ | ⟨rfl,rfl,rfl,rfl⟩ | ⟨rfl,rfl,rfl,rfl⟩
 ·exact okMap (pq0 x0 x1 x2 x3 x4 x5 x6 x7 x8 x9 x10 x11 x12 x13 x14 x15)
 ·exact okMap (pq1 x0 x1 x2 x3 x4 x5 x6 x7 x8 x9 x10 x11 x12 x13 x14 x15)
 ·exact okMap (pq2 x0 x1 x2 x3 x4 x5 x6 x7 x8 x9 x10 x11 x12 x13 x14 x15)
 ·exact okMap (pq3 x0 x1 x2 x3 x4 x5 x6 x7 x8 x9 x10 x11 x12 x13 x14 x15)
 ·exact okMap (pq4 x0 x1 x2 x3 x4 x5 x6 x7 x8 x9 x10 x11 x12 x13 x14 x15)
 ·exact okMap (pq5 x0 x1 x2 x3 x4 x5 x6 x7 x8 x9 x10 x11 x12 x13 x14 x15)
 ·exact okMap (pq6 x0 x1 x2 x3 x4 x5 x6 x7 x8 x9 x10 x11 x12 x13 x14 x15)
 ·exact okMap (pq7 x0 x1 x2 x3 x4 x5 x6 x7 x8 x9 x10 x11 x12 x13 x14 x15)
def q15 (c:List AVal) (a b c' d:Int):Option EffA:=
 match words32 c with
 | some x=>cond (Nat.beq x.length 16 && okq a b c' d) (some (.pure (.agg ((quarter x a.toNat b.toNat c'.toNat d.toNat).map .u32)))) none
 | none=>none
def q17 (n:Nat) (a b c d:Int):EffA:=
 .eff fun _ η=>match η n with
  | some (.cells false cs)=>match words32 cs with
   | some x=>cond (Nat.beq x.length 16 && okq a b c d) (some (.tup [],[(n,some (.cells false ((quarter x a.toNat b.toNat c.toNat d.toNat).map .u32)))])) none
   | none=>none
  | _=>none
def csQ:CS:=fun f args=>match Nat.beq f 93 with
 | true=>match args with
  | [.agg c,.int .i64 a,.int .i64 b,.int .i64 c',.int .i64 d]=>q15 c a b c' d
  | _=>none
 | false=>match Nat.beq f 97 with
  | true=>match args with
   | [.ptr n 0,.int .i64 a,.int .i64 b,.int .i64 c',.int .i64 d]=>some (q17 n a b c' d)
   | _=>none
  | false=>none
theorem csQ_ok:CSOk Try.prog csQ:=by
 intro f args e h
 unfold csQ at h
 split at h
 ·rename_i hf
  have hf:=Nat.eq_of_beq_eq_true hf
  subst hf
  split at h
  ·rename_i c a b c' d
   unfold q15 at h
   split at h
   ·rename_i x hx
    cases hb:(Nat.beq x.length 16 && okq a b c' d) <;> rw [hb] at h <;> simp only [cond_true,cond_false,Option.some.injEq] at h
    ·cases h
    ·subst h
     simp only [Bool.and_eq_true] at hb
     have hl:=Nat.eq_of_beq_eq_true hb.1
     rw [words32_eq hx]
     obtain ⟨r,h1,h2⟩:=rq_any hl hb.2
     rw [← h2]
     refine callOk_run cs0_ok hmix h1 ?_ ?_
     ·simp only [allV,ltV,ltL_u32,ltS,cond_true]
     ·rw [h2]; exact ltL_u32 0 _
   ·cases h
  ·cases h
 ·split at h
  ·rename_i hf
   have hf:=Nat.eq_of_beq_eq_true hf
   subst hf
   split at h
   ·rename_i n a b c d
    cases h
    refine (callOk_blk cs0_ok hmix (nn:=mask 97) (F:=100) (f:=97) (n:=n) (off:=0) (rest:=[.int .i64 a,.int .i64 b,.int .i64 c,.int .i64 d]) rfl).less fun base H r hr => ?_
    simp only [q17,EffA.app] at hr
    cases hn:aget H n with
    | none=>rw [hn] at hr; cases hr
    | some ob =>
     rw [hn] at hr
     cases ob with
     | cells ro cs =>
      cases ro with
      | true=>cases hr
      | false =>
       simp only at hr
       cases hx:words32 cs with
       | none=>rw [hx] at hr; cases hr
       | some x =>
        rw [hx] at hr
        simp only at hr
        cases hb:(Nat.beq x.length 16 && okq a b c d) <;> rw [hb] at hr <;> simp only [cond_true,cond_false,appU] at hr
        ·cases hr
        ·cases hr
         simp only [Bool.and_eq_true] at hb
         have hl:=Nat.eq_of_beq_eq_true hb.1
         obtain ⟨r,h1,h2⟩:=pq_any hl hb.2
         rw [Prod.mk.injEq] at h2
         have hcs:=words32_eq hx
         subst hcs
         exact blkE_app hn (ltL_u32 0 x) h1 h2.1 h2.2 rfl (ltL_u32 0 _)
   ·cases h
  ·cases h
noncomputable def cs1:CS:=inl Try.prog mask 100 csQ 3
theorem cs1_ok:CSOk Try.prog cs1:=inl_ok hmix csQ_ok 3
end Go.Proofs.Ytjdhndicgifnbaa.Cha
