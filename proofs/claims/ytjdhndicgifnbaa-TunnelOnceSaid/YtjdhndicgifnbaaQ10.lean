/- Texts Eng50, Eng51, Tt7, Tt8, Eng52, Td1, Td2, Td3, Eng53, Td4, Td5, Td6, Td7: what they show that this claim uses. -/
import Derived.Test.YtjdhndicgifnbaaQ5
import Derived.Test.YtjdhndicgifnbaaQ9
import Derived.Test.YtjdhndicgifnbaaQ4
set_option maxRecDepth 100000
set_option maxHeartbeats 1000000
set_option linter.unusedVariables false
set_option linter.unusedSimpArgs false
namespace Go.Eng
structure Ob (S:Type) where
 k:S→Nat
 place:List Nat→S→List (List AVal)
 m:S→Nat
 len:∀ ns s,(place ns s).length=m s
 le:∀ s,m s≤k s
def Ob.Rel {S:Type}(C:Ob S) (s:S):Prop:=∀ (ρ:Nat→Nat→Prop) (ns ns':List Nat),ns.length=C.k s→ns'.length=C.k s→(∀ (i n n':Nat),ns[i]? = some n→ns'[i]? = some n'→ρ n n') →
 ∀ (i:Nat) (c c':List AVal),(C.place ns s)[i]? = some c→(C.place ns' s)[i]? = some c'→RL ρ c c'
def NameL (k:Nat) (v:List Nat→List AVal):Prop:=∀ (ρ:Nat→Nat→Prop) (ns ns':List Nat),ns.length=k→ns'.length=k→(∀ (i n n':Nat),ns[i]? = some n→ns'[i]? = some n'→ρ n n')→RL ρ (v ns) (v ns')
theorem getD_at {ns:List Nat}{i:Nat}(h:i < ns.length):ns[i]? = some (ns.getD i 0):=by
 rw [List.getD_eq_getElem?_getD,List.getElem?_eq_getElem h]; rfl
theorem NameL.recv {k i o:Nat}{xs:List AVal}(hi:i < k) (h:ltL 0 xs=true):NameL k fun ns=>.ptr (ns.getD i 0) o::xs:=fun ρ ns ns' h1 h2 hρ =>
 .cons (.ptr (hρ i _ _ (getD_at (by rw [h1]; exact hi)) (getD_at (by rw [h2]; exact hi)))) (.same h)
def nmC2 (G k:Nat) (kks:List Nat) (j:Nat):Nat:=cond (Nat.blt j k) (G+j) (kks.getD (j - k) 0)
def nmU2 (ns:List Nat) (base:Nat) (j:Nat):Nat:=cond (Nat.blt j ns.length) (ns.getD j 0) (base+(j - ns.length))
def frN (base:Nat):Nat→List Nat
 | 0=>[]
 | m+1=>frN base m++[base+m]
theorem frN_mem {base m x:Nat}(h:base≤x) (h2:x < base+m):x ∈ frN base m:=by
 induction m with
 | zero=>omega
 | succ m ih =>
  unfold frN
  rw [List.mem_append]
  by_cases c:x < base+m
  ·exact .inl (ih c)
  ·exact .inr (by simp; omega)
def goneF (m:Nat) (src:List Nat):List Nat:=(List.range m).filter fun j => !src.contains j
def upF2 (ns:List Nat) (base:Nat) (m:Nat) (src:List Nat) (cs:List (List AVal)):List (Nat × Option AObj):=
 putC (src.map (nmU2 ns base)) cs++(goneF m (src.take cs.length)).map fun j=>(ns.getD j 0,none)
def effF {S S2:Type}(O:Ob S) (O2:Ob S2) (find:(Nat→Option AObj)→Option (List Nat × S)) (w:Nat) (src:S→List Nat) (val:List Nat→S→AVal) (next:S→S2) (ok:S→Bool):EffA:=.eff fun base η =>
 match find η with
 | some (ns,s)=>cond (nodupB (frN base w++ns) && ok s) (some (val ((src s).map (nmU2 ns base)) s,upF2 ns base (O.m s) (src s) (O2.place ((src s).map (nmU2 ns base)) (next s)))) none
 | none=>none
def RunF {S S2:Type}(P:Program) (cs:CS) (f:FuncId) (O:Ob S) (O2:Ob S2) (w:Nat) (src:List Nat) (A:List Nat→List AVal) (s:S) (v:List Nat→AVal) (s2:S2):Prop:=
 ∃ nn F H' fr fr' kks,kks.length=w∧kks.Nodup∧P.globals.size+O.k s≤fr∧(∀ q,q ∈ kks→fr≤q) ∧
  run1 P cs nn F f (A (canB P.globals.size (O.k s))) (heapOf (canB P.globals.size (O.k s)) (O.place (canB P.globals.size (O.k s)) s)) fr=some (v (src.map (nmC2 P.globals.size (O.k s) kks)),H',fr') ∧
  ∀ (i m:Nat) (c:List AVal),(src.map (nmC2 P.globals.size (O.k s) kks))[i]? = some m→(O2.place (src.map (nmC2 P.globals.size (O.k s) kks)) s2)[i]? = some c→aget H' m=some (.cells false c)
theorem putC_keys:∀ {ns:List Nat}{cs:List (List AVal)},∃ j,(putC ns cs).map (·.1)=ns.take j
 | [],cs=>⟨0,by cases cs <;> rfl⟩
 | n::ns,[]=>⟨0,rfl⟩
 | n::ns,c::cs=>by
  obtain ⟨j,hj⟩:=putC_keys (ns:=ns) (cs:=cs)
  refine ⟨j+1,?_⟩
  unfold putC
  rw [List.map_cons,hj]
  rfl
theorem putC_key:∀ {ns:List Nat}{cs:List (List AVal)}{m:Nat},m ∈ (putC ns cs).map (·.1)→∃ i:Nat,ns[i]? = some m∧i < cs.length:=fun {ns cs m} h=>by
 rw [List.mem_map] at h
 obtain ⟨⟨a,x⟩,h1,rfl⟩:=h
 obtain ⟨i,c,e1,e2,_⟩:=putC_mem h1
 exact ⟨i,e1,(List.getElem?_eq_some_iff.1 e2).1⟩
theorem effF_ok {S S2:Type}{P:Program}{cs:CS}(hcs:CSOk P cs) (hm:P.follows .mixedOrders=true){f:FuncId}{O:Ob S}{O2:Ob S2}{find:(Nat→Option AObj)→Option (List Nat × S)}{w:Nat}{src:S→List Nat}{args:List AVal}{A:S→List Nat→List AVal}{val:List Nat→S→AVal}{next:S→S2}{ok:S→Bool}(hw:w≤8)
  (hfind:∀ {η:Nat→Option AObj} {ns:List Nat} {s:S},find η=some (ns,s)→ns.length=O.k s∧(∀ n,n ∈ ns→Known η args n)∧(∀ (i n:Nat) (c:List AVal),ns[i]? = some n→(O.place ns s)[i]? = some c→η n=some (.cells false c))∧args=A s ns)
  (h:∀ s,ok s=true→O.Rel s∧O2.Rel (next s)∧NameV (O2.k (next s)) (fun ns=>val ns s)∧NameL (O.k s) (A s)∧(src s).length=O2.k (next s)∧(src s).Nodup∧(∀ j,j ∈ src s→j < O.k s+w)∧(∀ (i j:Nat),(src s)[i]? = some j→i < O2.m (next s)→j < O.m s ∨ O.k s≤j)∧RunF P cs f O O2 w (src s) (A s) s (fun ns=>val ns s) (next s)):CallOk P f args (effF O O2 find w src val next ok):=by
 unfold effF
 refine callOk_deep hcs hm fun base η v us hK => ?_
 cases hf:find η with
 | none=>rw [hf] at hK; cases hK
 | some p =>
 obtain ⟨ns,s⟩:=p
 rw [hf] at hK
 simp only at hK
 cases hc:(nodupB (frN base w++ns) && ok s) <;> rw [hc] at hK <;> simp only [cond_true,cond_false] at hK
 ·cases hK
 simp only [Option.some.injEq,Prod.mk.injEq] at hK
 obtain ⟨rfl,rfl⟩:=hK
 rw [Bool.and_eq_true] at hc
 obtain ⟨hn,hok⟩:=hc
 have hnb:=nodupB_ok hn
 rw [List.nodup_append] at hnb
 obtain ⟨_,hns,hdis⟩:=hnb
 have hbn:∀ j,j < w→base+j ∉ ns:=fun j hj hm=>hdis _ (frN_mem (Nat.le_add_right _ _) (by omega)) _ hm rfl
 obtain ⟨f1,f0,f3,rfl⟩:=hfind hf
 obtain ⟨hR,hR2,hv,hA,hsl,hnd,hjw,hjs,nn,F,H',fr,fr',kks,hkl,hkn,hfr,hkk,hrun,hback⟩:=h s hok
 have hρ0:∀ (i n n':Nat),(canB P.globals.size (O.k s))[i]? = some n→ns[i]? = some n'→ρ0 P.globals.size ns n n':=fun i n n' h1 h2=>by
  obtain ⟨hi,rfl⟩:=canB_get h1
  exact .inr ⟨i,rfl,h2⟩
 -- what a name stands for
 have hcase:∀ j,j ∈ src s→(j < O.k s∧nmC2 P.globals.size (O.k s) kks j=P.globals.size+j∧nmU2 ns base j=ns.getD j 0∧ns[j]? = some (nmU2 ns base j)) ∨ (O.k s≤j∧∃ k,kks[j - O.k s]? = some k∧nmC2 P.globals.size (O.k s) kks j=k∧nmU2 ns base j=base+(j - O.k s)∧j - O.k s < w):=fun j hj=>by
  by_cases c:j < O.k s
  ·have b1:Nat.blt j (O.k s)=true:=by simpa [Nat.blt_eq] using c
   have b2:Nat.blt j ns.length=true:=by rw [f1]; exact b1
   have e1:nmU2 ns base j=ns.getD j 0:=by unfold nmU2; rw [b2]; rfl
   exact .inl ⟨c,by unfold nmC2; rw [b1]; rfl,e1,by rw [e1]; exact getD_at (by rw [f1]; exact c)⟩
  ·have b1:Nat.blt j (O.k s)=false:=by
    cases hb:Nat.blt j (O.k s) with
    | false=>rfl
    | true=>exact absurd (by simpa [Nat.blt_eq] using hb) c
   have b2:Nat.blt j ns.length=false:=by rw [f1]; exact b1
   have:=hjw j hj
   have e3:j - O.k s < kks.length:=by omega
   refine .inr ⟨by omega,kks.getD (j - O.k s) 0,getD_at e3,by unfold nmC2; rw [b1]; rfl,?_,by omega⟩
   unfold nmU2
   rw [b2,f1]
   rfl
 have hname:∀ (i m m':Nat),((src s).map (nmC2 P.globals.size (O.k s) kks))[i]? = some m→((src s).map (nmU2 ns base))[i]? = some m'→ρ1 P.globals.size ns kks base m m':=fun i m m' h1 h2=>by
  rw [List.getElem?_map] at h1 h2
  cases hs:(src s)[i]? with
  | none=>rw [hs] at h1; simp at h1
  | some j =>
   rw [hs] at h1 h2
   simp only [Option.map_some,Option.some.injEq] at h1 h2
   subst h1 h2
   rcases hcase j (List.mem_of_getElem? hs) with ⟨_,g1,_,g3⟩ | ⟨_,k,g1,g2,g3,_⟩
   ·exact .inl (.inr ⟨j,g1,g3⟩)
   ·exact .inr ⟨_,by rw [g2]; exact g1,g3⟩
 have hinj:∀ j j',j ∈ src s→j' ∈ src s→nmU2 ns base j=nmU2 ns base j'→j=j':=fun j j' h1 h2 e=>by
  rcases hcase j h1 with ⟨c1,_,_,g1⟩ | ⟨c1,k1,_,_,g1,l1⟩ <;> rcases hcase j' h2 with ⟨c2,_,_,g2⟩ | ⟨c2,k2,_,_,g2,l2⟩
  ·rw [e] at g1; exact inj_of_nodup hns g1 g2
  ·rw [e,g2] at g1; exact absurd (List.mem_of_getElem? g1) (hbn _ l2)
  ·rw [← e,g1] at g2; exact absurd (List.mem_of_getElem? g2) (hbn _ l1)
  ·rw [g1,g2] at e; omega
 have hnd1:((src s).map (nmU2 ns base)).Nodup:=by
  have:=List.Pairwise.and_mem.1 hnd
  exact List.pairwise_map.2 (this.imp fun ⟨h1,h2,h3⟩ e=>h3 (hinj _ _ h1 h2 e))
 have hlc:(O2.place ((src s).map (nmU2 ns base)) (next s)).length=O2.m (next s):=O2.len _ _
 have hlm:O2.m (next s)≤(src s).length:=by rw [hsl]; exact O2.le _
 have hgone:∀ j,j ∈ goneF (O.m s) ((src s).take (O2.m (next s)))→j < O.m s∧j ∉ (src s).take (O2.m (next s)):=fun j hjm=>by
  unfold goneF at hjm
  rw [List.mem_filter] at hjm
  refine ⟨List.mem_range.1 hjm.1,fun hm => ?_⟩
  have:=hjm.2
  simp [hm] at this
 have hmk:=O.le s
 have hgoneN:∀ j,j < O.m s→ns[j]? = some (ns.getD j 0):=fun j e1=>getD_at (by rw [f1]; omega)
 refine ⟨⟨nn,F,ns,kks,A s (canB P.globals.size (O.k s)),_,fr,val ((src s).map (nmC2 P.globals.size (O.k s) kks)) s,H',fr',hns,f0,?_,?_,?_,hrun,hkn,by omega,?_,hv _ _ _ (by rw [List.length_map,hsl]) (by rw [List.length_map,hsl]) hname,?_,?_,?_⟩⟩
 ·exact hA _ _ _ (canB_len _ _) f1 hρ0
 ·intro k o ho
  obtain ⟨i,c,h1,h2,rfl⟩:=heapOf_get ho
  obtain ⟨hi,rfl⟩:=canB_get h1
  have e1:i < ns.length:=by rw [f1]; exact hi
  have e2:i < (O.place ns s).length:=by
   have:=(List.getElem?_eq_some_iff.1 h2).1
   rw [O.len] at this ⊢
   exact this
  refine ⟨i,_,_,rfl,List.getElem?_eq_getElem e1,f3 _ _ _ (List.getElem?_eq_getElem e1) (List.getElem?_eq_getElem e2),false,c,_,rfl,rfl,hR _ _ _ (canB_len _ _) f1 hρ0 i c _ h2 (List.getElem?_eq_getElem e2)⟩
 ·rw [f1]; exact hfr
 ·exact hkk
 ·unfold upF2
  rw [List.map_append,List.map_map]
  obtain ⟨q,hq⟩:=putC_keys (ns:=(src s).map (nmU2 ns base)) (cs:=O2.place ((src s).map (nmU2 ns base)) (next s))
  refine List.nodup_append.2 ⟨by rw [hq]; exact List.Nodup.sublist (List.take_sublist _ _) hnd1,?_,?_⟩
  ·have hg:(goneF (O.m s) ((src s).take (O2.place ((src s).map (nmU2 ns base)) (next s)).length)).Nodup:=by unfold goneF; exact List.Pairwise.filter _ List.nodup_range
   rw [hlc] at hg ⊢
   have:=List.Pairwise.and_mem.1 hg
   refine List.pairwise_map.2 (this.imp fun ⟨h1,h2,h3⟩ e=>h3 ?_)
   have e1:=hgoneN _ (hgone _ h1).1
   have e2:=hgoneN _ (hgone _ h2).1
   simp only [Function.comp] at e
   rw [e] at e1
   exact inj_of_nodup hns e1 e2
  ·intro a ha b hb e
   subst e
   obtain ⟨i,hi,hil⟩:=putC_key ha
   rw [List.mem_map] at hb
   obtain ⟨j,hjm,hje⟩:=hb
   rw [hlc] at hjm hil
   obtain ⟨g1,g2⟩:=hgone j hjm
   have e1:=hgoneN j g1
   simp only [Function.comp] at hje
   rw [hje] at e1
   rw [List.getElem?_map] at hi
   cases hs:(src s)[i]? with
   | none=>rw [hs] at hi; simp at hi
   | some j' =>
    rw [hs] at hi
    simp only [Option.map_some,Option.some.injEq] at hi
    have hin:j' ∈ (src s).take (O2.m (next s)):=List.mem_iff_getElem?.2 ⟨i,by rw [List.getElem?_take,if_pos hil,hs]⟩
    rcases hcase j' (List.mem_of_getElem? hs) with ⟨c1,_,_,q1⟩ | ⟨c1,k1,_,_,q1,l1⟩
    ·rw [hi] at q1
     rw [inj_of_nodup hns e1 q1] at g2
     exact g2 hin
    ·rw [q1] at hi
     rw [← hi] at e1
     exact hbn _ l1 (List.mem_of_getElem? e1)
 ·intro m x hmx
  unfold upF2 at hmx
  rcases List.mem_append.1 hmx with hmx | hmx
  ·obtain ⟨i,c,h1,h2,rfl⟩:=putC_mem hmx
   have hi:i < O2.m (next s):=by
    have:=(List.getElem?_eq_some_iff.1 h2).1
    rwa [hlc] at this
   have e1:i < ((src s).map (nmC2 P.globals.size (O.k s) kks)).length:=by rw [List.length_map]; omega
   have e2:i < (O2.place ((src s).map (nmC2 P.globals.size (O.k s) kks)) (next s)).length:=by rw [O2.len]; exact hi
   have hb:=hback i _ _ (List.getElem?_eq_getElem e1) (List.getElem?_eq_getElem e2)
   have hRO:RO (ρ1 P.globals.size ns kks base) (.cells false (O2.place ((src s).map (nmC2 P.globals.size (O.k s) kks)) (next s))[i]) (.cells false c):=
    ⟨false,_,_,rfl,rfl,hR2 _ _ _ (by rw [List.length_map,hsl]) (by rw [List.length_map,hsl]) hname i _ _ (List.getElem?_eq_getElem e2) h2⟩
   have e3:i < (src s).length:=by omega
   rw [List.getElem?_map,List.getElem?_eq_getElem e3] at h1
   simp only [Option.map_some,Option.some.injEq] at h1
   rw [List.getElem_map] at hb
   rcases hcase _ (List.getElem_mem e3) with ⟨c1,q1,_,q3⟩ | ⟨c1,k1,q1,q2,q3,l1⟩
   ·rw [h1] at q3
    rw [q1] at hb
    exact .inl ⟨_,q3,.inr ⟨_,_,rfl,hb,rfl,hRO⟩⟩
   ·rw [q2] at hb
    exact .inr ⟨_,k1,_,_,by rw [← h1,q3],q1,rfl,hb,rfl,hRO⟩
  ·rw [List.mem_map] at hmx
   obtain ⟨j,hjm,he⟩:=hmx
   rw [hlc] at hjm
   simp only [Prod.mk.injEq] at he
   obtain ⟨rfl,rfl⟩:=he
   exact .inl ⟨j,hgoneN j (hgone j hjm).1,.inl rfl⟩
 ·intro i n o hi ho hro
  obtain ⟨i',c',hh1,hh2,rfl⟩:=heapOf_get ho
  obtain ⟨hik,hie⟩:=canB_get hh1
  have:i'=i:=by omega
  subst this
  have him:i' < O.m s:=by
   have:=(List.getElem?_eq_some_iff.1 hh2).1
   rwa [O.len] at this
  unfold upF2
  rw [hlc]
  by_cases hin:i' ∈ (src s).take (O2.m (next s))
  ·obtain ⟨q,hq,hqe⟩:=List.getElem_of_mem hin
   rw [List.length_take] at hq
   rw [List.getElem_take] at hqe
   have e2:q < (O2.place ((src s).map (nmU2 ns base)) (next s)).length:=by rw [hlc]; omega
   have e3:q < (src s).length:=by omega
   refine ⟨_,List.mem_append.2 (.inl (putC_of (i:=q) ?_ (List.getElem?_eq_getElem e2)))⟩
   rw [List.getElem?_map,List.getElem?_eq_getElem e3,hqe]
   rcases hcase i' (by rw [← hqe]; exact List.getElem_mem e3) with ⟨_,_,_,q3⟩ | ⟨c1,_⟩
   ·rw [hi] at q3
    simp only [Option.map_some,Option.some.injEq] at q3 ⊢
    exact q3.symm
   ·omega
  ·refine ⟨none,List.mem_append.2 (.inr (List.mem_map.2 ⟨i',?_,?_⟩))⟩
   ·unfold goneF
    rw [List.mem_filter]
    exact ⟨List.mem_range.2 him,by simp [hin]⟩
   ·have:=hgoneN i' him
    rw [hi] at this
    simp only [Option.some.injEq] at this
    rw [← this]
theorem effF_app {S S2:Type}{O:Ob S}{O2:Ob S2}{find:(Nat→Option AObj)→Option (List Nat × S)}{w:Nat}{src:S→List Nat}{val:List Nat→S→AVal}{next:S→S2}{ok:S→Bool}{H:HL}{base:Nat}{ns:List Nat}{s:S}
  (hf:find (aget H)=some (ns,s)) (hn:nodupB (frN base w++ns)=true) (ho:ok s=true) :
  (effF O O2 find w src val next ok).app base H=some (val ((src s).map (nmU2 ns base)) s,appU H (upF2 ns base (O.m s) (src s) (O2.place ((src s).map (nmU2 ns base)) (next s)))):=by
 unfold effF
 simp only [EffA.app,hf,hn,ho,Bool.and_self,cond_true]
theorem runF_of {S S2:Type}{P:Program}{ps:PS}{cs:CS}(hps:PSOk ps cs){G:Nat}(hG:P.globals.size=G){f:FuncId}{O:Ob S}{O2:Ob S2}{w:Nat}{src:List Nat}{A:List Nat→List AVal}{s:S}{v:List Nat→AVal}{s2:S2}
  {sy:List Nat} {os:List Bool} {vs:List AVal} {nn F fr:Nat} {ob:List Bool} (kks:List Nat)
  (h:ansM ((src.map (nmC2 G (O.k s) kks)).take (O2.m s2)) (run1O P ps cs sy os vs nn F f (A (canB G (O.k s))) (heapOf (canB G (O.k s)) (O.place (canB G (O.k s)) s)) fr)=some (v (src.map (nmC2 G (O.k s) kks)),(O2.place (src.map (nmC2 G (O.k s) kks)) s2).map fun c=>some (.cells false c),ob))
  (ha:allT ob=true) (hkl:kks.length=w) (hkn:nodupB kks=true) (hfr:Nat.ble (G+O.k s) fr=true) (hkk:kks.all (fun q=>Nat.ble fr q)=true):RunF P cs f O O2 w src A s v s2:=by
 subst hG
 unfold ansM at h
 split at h
 ·rename_i v' H' fr' ob' hr
  simp only [Option.some.injEq,Prod.mk.injEq] at h
  obtain ⟨rfl,h2,rfl⟩:=h
  refine ⟨nn,F,H',fr,fr',kks,hkl,nodupB_ok hkn,Nat.le_of_ble_eq_true hfr,fun q hq=>Nat.le_of_ble_eq_true (List.all_eq_true.1 hkk q hq),run1O_ok hps hr ha,fun i m c h1 h3 => ?_⟩
  have e:=congrArg (fun l=>l[i]?) h2
  simp only [List.getElem?_map] at e
  have him:i < O2.m s2:=by
   have:=(List.getElem?_eq_some_iff.1 h3).1
   rwa [O2.len] at this
  rw [List.getElem?_take,if_pos him,h1,h3] at e
  simp only [Option.map_some,Option.some.injEq] at e
  exact e
 ·cases h
end Go.Eng
namespace Go.Eng
def nonO:Ob Unit:=⟨fun _=>0,fun _ _=>[],fun _=>0,fun _ _=>rfl,fun _=>Nat.le_refl _⟩
theorem RL.all {ρ:Nat→Nat→Prop}:∀ {l:List AVal},allV l=true→RL ρ l l
 | [],_=>.nil _
 | v::l,h=>by
  simp only [allV] at h
  cases hv:ltV 0 v <;> rw [hv] at h <;> simp only [cond_true,cond_false] at h
  ·cases h
  ·exact .cons (.same hv) (RL.all h)
theorem NameL.all {k:Nat}{v:List AVal}(h:allV v=true):NameL k fun _=>v:=fun ρ ns ns' _ _ _=>RL.all h
def newE {S2:Type}(O2:Ob S2) (w:Nat) (src:List Nat) (val:List Nat→AVal) (s2:S2):EffA:=effF nonO O2 (fun _=>some ([],())) w (fun _=>src) (fun ns _=>val ns) (fun _=>s2) fun _=>true
theorem newE_ok {S2:Type}{P:Program}{cs:CS}(hcs:CSOk P cs) (hm:P.follows .mixedOrders=true){f:FuncId}{O2:Ob S2}{w:Nat}{src:List Nat}{args:List AVal}{val:List Nat→AVal}{s2:S2}(hw:w≤8) (hx:allV args=true)
  (hR:O2.Rel s2) (hv:NameV (O2.k s2) val) (hl:src.length=O2.k s2) (hn:src.Nodup) (hj:∀ j,j ∈ src→j < w) (hr:RunF P cs f nonO O2 w src (fun _=>args) () val s2):CallOk P f args (newE O2 w src val s2):=by
 unfold newE
 refine effF_ok hcs hm hw (A:=fun _ _=>args) (fun {η ns s} h => ?_) fun s _=>⟨fun ρ ns ns' _ _ _ i c c' h _=>by simp [nonO] at h,hR,hv,.all hx,hl,hn,fun j h=>by show j < 0+w; have:=hj j h; omega,fun i j _ _=>.inr (Nat.zero_le _),hr⟩
 simp only [Option.some.injEq,Prod.mk.injEq] at h
 obtain ⟨rfl,_⟩:=h
 exact ⟨rfl,fun n h=>by simp at h,fun i n c h=>by simp at h,rfl⟩
theorem newE_app {S2:Type}{O2:Ob S2}{w:Nat}{src:List Nat}{val:List Nat→AVal}{s2:S2}{H:HL}{base:Nat}(hn:nodupB (frN base w++[])=true) :
  (newE O2 w src val s2).app base H=some (val (src.map (nmU2 [] base)),appU H (upF2 [] base 0 src (O2.place (src.map (nmU2 [] base)) s2))):=effF_app (O:=nonO) (ok:=fun _=>true) (s:=()) rfl hn rfl
theorem callOk_ans {P:Program}{ps:PS}{cs:CS}(hcs:CSOk P cs) (hps:PSOk ps cs) (hm:P.follows .mixedOrders=true){G:Nat}(hG:P.globals.size=G){sy:List Nat}{os:List Bool}{vs:List AVal}{nn F:Nat}{f:FuncId}{args:List AVal}{v:AVal}{ob:List Bool}
  (h:ansO (run1O P ps cs sy os vs nn F f args [] G)=some (v,ob)) (ha:allT ob=true) (hx:allV args=true) (hv:ltV 0 v=true):CallOk P f args (.pure v):=by
 subst hG
 exact callOk_val hcs hm (ansO_run hps h ha) hx hv
end Go.Eng
namespace Go.Proofs.Ytjdhndicgifnbaa.Tun
open Go Go.Eng Go.Proofs.Ytjdhndicgifnbaa
theorem w310 (rc ct rk lf:UInt64) (sz:Int):ansO (run1O Try.prog noPS noCS [5,11,16,21,28] [true,true,true,true,true] [] (mask 31) 100 31 [.agg [.u64 rc,.u64 ct,.u64 rk,.u64 lf,.int .i64 sz]] [] 0)=some ((AVal.bool (decide (lf≤1152921504606846976))),[decide (rk≤lf),decide (1≤rk),decide (ct≤1152921504606846976),decide (rc≤ct),decide (1≤rc)]):=by kernel_rfl
theorem w311 (rc ct rk lf:UInt64) (sz:Int):ansO (run1O Try.prog noPS noCS [5,11,16,21,28] [true,true,true,true,false] [] (mask 31) 100 31 [.agg [.u64 rc,.u64 ct,.u64 rk,.u64 lf,.int .i64 sz]] [] 0)=some ((AVal.bool false),[!(decide (rk≤lf)),decide (1≤rk),decide (ct≤1152921504606846976),decide (rc≤ct),decide (1≤rc)]):=by kernel_rfl
theorem w312 (rc ct rk lf:UInt64) (sz:Int):ansO (run1O Try.prog noPS noCS [5,11,16,21,28] [true,true,true,false] [] (mask 31) 100 31 [.agg [.u64 rc,.u64 ct,.u64 rk,.u64 lf,.int .i64 sz]] [] 0)=some ((AVal.bool false),[!(decide (1≤rk)),decide (ct≤1152921504606846976),decide (rc≤ct),decide (1≤rc)]):=by kernel_rfl
theorem w313 (rc ct rk lf:UInt64) (sz:Int):ansO (run1O Try.prog noPS noCS [5,11,16,21,28] [true,true,false] [] (mask 31) 100 31 [.agg [.u64 rc,.u64 ct,.u64 rk,.u64 lf,.int .i64 sz]] [] 0)=some ((AVal.bool false),[!(decide (ct≤1152921504606846976)),decide (rc≤ct),decide (1≤rc)]):=by kernel_rfl
theorem w314 (rc ct rk lf:UInt64) (sz:Int):ansO (run1O Try.prog noPS noCS [5,11,16,21,28] [true,false] [] (mask 31) 100 31 [.agg [.u64 rc,.u64 ct,.u64 rk,.u64 lf,.int .i64 sz]] [] 0)=some ((AVal.bool false),[!(decide (rc≤ct)),decide (1≤rc)]):=by kernel_rfl
theorem w315 (rc ct rk lf:UInt64) (sz:Int):ansO (run1O Try.prog noPS noCS [5,11,16,21,28] [false] [] (mask 31) 100 31 [.agg [.u64 rc,.u64 ct,.u64 rk,.u64 lf,.int .i64 sz]] [] 0)=some ((AVal.bool false),[!(decide (1≤rc))]):=by kernel_rfl
def may31 (rc ct rk lf:UInt64) (sz:Int):AVal:=cond (decide (1≤rc)) (cond (decide (rc≤ct)) (cond (decide (ct≤1152921504606846976)) (cond (decide (1≤rk)) (cond (decide (rk≤lf)) ((AVal.bool (decide (lf≤1152921504606846976)))) ((AVal.bool false))) ((AVal.bool false))) ((AVal.bool false))) ((AVal.bool false))) ((AVal.bool false))
theorem run31 (rc ct rk lf:UInt64) (sz:Int):(run1 Try.prog noCS (mask 31) 100 31 [.agg [.u64 rc,.u64 ct,.u64 rk,.u64 lf,.int .i64 sz]] [] Try.prog.globals.size).map (·.1)=some (may31 rc ct rk lf sz):=by
 rw [gl]
 unfold may31
 cases h0:(decide (1≤rc)) with
 | true =>
  simp only [cond_true]
  cases h1:(decide (rc≤ct)) with
  | true =>
   simp only [cond_true]
   cases h2:(decide (ct≤1152921504606846976)) with
   | true =>
    simp only [cond_true]
    cases h3:(decide (1≤rk)) with
    | true =>
     simp only [cond_true]
     cases h4:(decide (rk≤lf)) with
     | true =>
      simp only [cond_true]
      exact ansO_run (noPS_ok _) (w310 rc ct rk lf sz) (by simp only [allT,h0,h1,h2,h3,h4,Bool.not_true,Bool.not_false,cond_true])
     | false =>
      simp only [cond_false]
      exact ansO_run (noPS_ok _) (w311 rc ct rk lf sz) (by simp only [allT,h0,h1,h2,h3,h4,Bool.not_true,Bool.not_false,cond_true])
    | false =>
     simp only [cond_false]
     exact ansO_run (noPS_ok _) (w312 rc ct rk lf sz) (by simp only [allT,h0,h1,h2,h3,Bool.not_true,Bool.not_false,cond_true])
   | false =>
    simp only [cond_false]
    exact ansO_run (noPS_ok _) (w313 rc ct rk lf sz) (by simp only [allT,h0,h1,h2,Bool.not_true,Bool.not_false,cond_true])
  | false =>
   simp only [cond_false]
   exact ansO_run (noPS_ok _) (w314 rc ct rk lf sz) (by simp only [allT,h0,h1,Bool.not_true,Bool.not_false,cond_true])
 | false =>
  simp only [cond_false]
  exact ansO_run (noPS_ok _) (w315 rc ct rk lf sz) (by simp only [allT,h0,Bool.not_true,Bool.not_false,cond_true])
theorem w330 (rc ct rk lf:UInt64) (sz:Int):ansO (run1O Try.prog noPS noCS [5,11,16,21,28,33,38] [true,true,true,true,true,true,true] [] (mask 33) 100 33 [.agg [.u64 rc,.u64 ct,.u64 rk,.u64 lf,.int .i64 sz]] [] 0)=some ((AVal.bool (decide (sz≤4096))),[decide (1≤sz),decide (lf≤1152921504606846976),decide (rk≤lf),decide (1≤rk),decide (ct≤1152921504606846976),decide (rc≤ct),decide (1≤rc)]):=by kernel_rfl
theorem w331 (rc ct rk lf:UInt64) (sz:Int):ansO (run1O Try.prog noPS noCS [5,11,16,21,28,33,38] [true,true,true,true,true,true,false] [] (mask 33) 100 33 [.agg [.u64 rc,.u64 ct,.u64 rk,.u64 lf,.int .i64 sz]] [] 0)=some ((AVal.bool false),[!(decide (1≤sz)),decide (lf≤1152921504606846976),decide (rk≤lf),decide (1≤rk),decide (ct≤1152921504606846976),decide (rc≤ct),decide (1≤rc)]):=by kernel_rfl
theorem w332 (rc ct rk lf:UInt64) (sz:Int):ansO (run1O Try.prog noPS noCS [5,11,16,21,28,33,38] [true,true,true,true,true,false] [] (mask 33) 100 33 [.agg [.u64 rc,.u64 ct,.u64 rk,.u64 lf,.int .i64 sz]] [] 0)=some ((AVal.bool false),[!(decide (lf≤1152921504606846976)),decide (rk≤lf),decide (1≤rk),decide (ct≤1152921504606846976),decide (rc≤ct),decide (1≤rc)]):=by kernel_rfl
theorem w333 (rc ct rk lf:UInt64) (sz:Int):ansO (run1O Try.prog noPS noCS [5,11,16,21,28,33,38] [true,true,true,true,false] [] (mask 33) 100 33 [.agg [.u64 rc,.u64 ct,.u64 rk,.u64 lf,.int .i64 sz]] [] 0)=some ((AVal.bool false),[!(decide (rk≤lf)),decide (1≤rk),decide (ct≤1152921504606846976),decide (rc≤ct),decide (1≤rc)]):=by kernel_rfl
theorem w334 (rc ct rk lf:UInt64) (sz:Int):ansO (run1O Try.prog noPS noCS [5,11,16,21,28,33,38] [true,true,true,false] [] (mask 33) 100 33 [.agg [.u64 rc,.u64 ct,.u64 rk,.u64 lf,.int .i64 sz]] [] 0)=some ((AVal.bool false),[!(decide (1≤rk)),decide (ct≤1152921504606846976),decide (rc≤ct),decide (1≤rc)]):=by kernel_rfl
theorem w335 (rc ct rk lf:UInt64) (sz:Int):ansO (run1O Try.prog noPS noCS [5,11,16,21,28,33,38] [true,true,false] [] (mask 33) 100 33 [.agg [.u64 rc,.u64 ct,.u64 rk,.u64 lf,.int .i64 sz]] [] 0)=some ((AVal.bool false),[!(decide (ct≤1152921504606846976)),decide (rc≤ct),decide (1≤rc)]):=by kernel_rfl
theorem w336 (rc ct rk lf:UInt64) (sz:Int):ansO (run1O Try.prog noPS noCS [5,11,16,21,28,33,38] [true,false] [] (mask 33) 100 33 [.agg [.u64 rc,.u64 ct,.u64 rk,.u64 lf,.int .i64 sz]] [] 0)=some ((AVal.bool false),[!(decide (rc≤ct)),decide (1≤rc)]):=by kernel_rfl
theorem w337 (rc ct rk lf:UInt64) (sz:Int):ansO (run1O Try.prog noPS noCS [5,11,16,21,28,33,38] [false] [] (mask 33) 100 33 [.agg [.u64 rc,.u64 ct,.u64 rk,.u64 lf,.int .i64 sz]] [] 0)=some ((AVal.bool false),[!(decide (1≤rc))]):=by kernel_rfl
def may33 (rc ct rk lf:UInt64) (sz:Int):AVal:=cond (decide (1≤rc)) (cond (decide (rc≤ct)) (cond (decide (ct≤1152921504606846976)) (cond (decide (1≤rk)) (cond (decide (rk≤lf)) (cond (decide (lf≤1152921504606846976)) (cond (decide (1≤sz)) ((AVal.bool (decide (sz≤4096)))) ((AVal.bool false))) ((AVal.bool false))) ((AVal.bool false))) ((AVal.bool false))) ((AVal.bool false))) ((AVal.bool false))) ((AVal.bool false))
theorem run33 (rc ct rk lf:UInt64) (sz:Int):(run1 Try.prog noCS (mask 33) 100 33 [.agg [.u64 rc,.u64 ct,.u64 rk,.u64 lf,.int .i64 sz]] [] Try.prog.globals.size).map (·.1)=some (may33 rc ct rk lf sz):=by
 rw [gl]
 unfold may33
 cases h0:(decide (1≤rc)) with
 | true =>
  simp only [cond_true]
  cases h1:(decide (rc≤ct)) with
  | true =>
   simp only [cond_true]
   cases h2:(decide (ct≤1152921504606846976)) with
   | true =>
    simp only [cond_true]
    cases h3:(decide (1≤rk)) with
    | true =>
     simp only [cond_true]
     cases h4:(decide (rk≤lf)) with
     | true =>
      simp only [cond_true]
      cases h5:(decide (lf≤1152921504606846976)) with
      | true =>
       simp only [cond_true]
       cases h6:(decide (1≤sz)) with
       | true =>
        simp only [cond_true]
        exact ansO_run (noPS_ok _) (w330 rc ct rk lf sz) (by simp only [allT,h0,h1,h2,h3,h4,h5,h6,Bool.not_true,Bool.not_false,cond_true])
       | false =>
        simp only [cond_false]
        exact ansO_run (noPS_ok _) (w331 rc ct rk lf sz) (by simp only [allT,h0,h1,h2,h3,h4,h5,h6,Bool.not_true,Bool.not_false,cond_true])
      | false =>
       simp only [cond_false]
       exact ansO_run (noPS_ok _) (w332 rc ct rk lf sz) (by simp only [allT,h0,h1,h2,h3,h4,h5,Bool.not_true,Bool.not_false,cond_true])
     | false =>
      simp only [cond_false]
      exact ansO_run (noPS_ok _) (w333 rc ct rk lf sz) (by simp only [allT,h0,h1,h2,h3,h4,Bool.not_true,Bool.not_false,cond_true])
    | false =>
     simp only [cond_false]
     exact ansO_run (noPS_ok _) (w334 rc ct rk lf sz) (by simp only [allT,h0,h1,h2,h3,Bool.not_true,Bool.not_false,cond_true])
   | false =>
    simp only [cond_false]
    exact ansO_run (noPS_ok _) (w335 rc ct rk lf sz) (by simp only [allT,h0,h1,h2,Bool.not_true,Bool.not_false,cond_true])
  | false =>
   simp only [cond_false]
   exact ansO_run (noPS_ok _) (w336 rc ct rk lf sz) (by simp only [allT,h0,h1,Bool.not_true,Bool.not_false,cond_true])
 | false =>
  simp only [cond_false]
  exact ansO_run (noPS_ok _) (w337 rc ct rk lf sz) (by simp only [allT,h0,Bool.not_true,Bool.not_false,cond_true])
def mayL (rc ct rk lf:UInt64):Bool:=decide (1≤rc) && (decide (rc≤ct) && (decide (ct≤1152921504606846976) && (decide (1≤rk) && (decide (rk≤lf) && decide (lf≤1152921504606846976)))))
def mayD (rc ct rk lf:UInt64) (sz:Int):Bool:=mayL rc ct rk lf && (decide (1≤sz) && decide (sz≤4096))
theorem may31_eq (rc ct rk lf:UInt64) (sz:Int):may31 rc ct rk lf sz=.bool (mayL rc ct rk lf):=by
 unfold may31 mayL
 cases decide (1≤rc) <;> cases decide (rc≤ct) <;> cases decide (ct≤1152921504606846976) <;> cases decide (1≤rk) <;> cases decide (rk≤lf) <;> simp
theorem may33_eq (rc ct rk lf:UInt64) (sz:Int):may33 rc ct rk lf sz=.bool (mayD rc ct rk lf sz):=by
 unfold may33 mayD mayL
 cases decide (1≤rc) <;> cases decide (rc≤ct) <;> cases decide (ct≤1152921504606846976) <;> cases decide (1≤rk) <;> cases decide (rk≤lf) <;> cases decide (lf≤1152921504606846976) <;> cases decide (1≤sz) <;> simp
def g31:List AVal→Option EffA
 | [.agg [.u64 rc,.u64 ct,.u64 rk,.u64 lf,.int .i64 sz]]=>some (.pure (.bool (mayL rc ct rk lf)))
 | _=>none
def g33:List AVal→Option EffA
 | [.agg [.u64 rc,.u64 ct,.u64 rk,.u64 lf,.int .i64 sz]]=>some (.pure (.bool (mayD rc ct rk lf sz)))
 | _=>none
theorem g31_ok:CSOk Try.prog (csOne 31 g31):=csOne_ok fun args e he=>by
 unfold g31 at he
 split at he
 ·rename_i rc ct rk lf sz
  cases he
  have r:=run31 rc ct rk lf sz
  rw [may31_eq] at r
  exact callOk_val (noCS_ok _) hmix r rfl rfl
 ·cases he
theorem g33_ok:CSOk Try.prog (csOne 33 g33):=csOne_ok fun args e he=>by
 unfold g33 at he
 split at he
 ·rename_i rc ct rk lf sz
  cases he
  have r:=run33 rc ct rk lf sz
  rw [may33_eq] at r
  exact callOk_val (noCS_ok _) hmix r rfl rfl
 ·cases he
def obW:Ob Wn:=⟨fun _=>2,wPlace,fun _=>2,fun _ _=>rfl,fun _=>Nat.le_refl _⟩
theorem relOW (s:Wn):obW.Rel s:=fun ρ ns ns' h1 h2 hρ=>relW s ρ ns ns' h1 h2 hρ
def newW (sz:Int) (m:Nat):Wn:=⟨UInt64.ofInt sz,List.replicate m 0,0,false⟩
def winV (ns:List Nat):AVal:=.tup [.ptr (ns.getD 0 0) 0,.int .i64 0]
theorem w30a (sz:Int):ansO (run1O Try.prog noPS noCS [5,8,9,15,200014] [true] [] (mask 30) 100 30 [.int .i64 sz] [] 0)=some (.tup [.nilPtr,.int .i64 2],[decide (sz < 1)]):=by kernel_rfl
theorem w30b (sz:Int):ansO (run1O Try.prog noPS noCS [5,8,9,15,200014] [false,true] [] (mask 30) 100 30 [.int .i64 sz] [] 0)=some (.tup [.nilPtr,.int .i64 2],[decide (4096 < sz),!decide (sz < 1)]):=by kernel_rfl
theorem w30c (sz:Int) (m:Nat):ansM [120,104] (run1O Try.prog noPS noCS [5,8,9,15,200014] [false,false] [.int .i64 (m:Int)] (mask 30) 100 30 [.int .i64 sz] [] 0)=some (.tup [.ptr 120 0,.int .i64 0],[some (.cells false [.u64 (UInt64.ofInt sz),.slice 104 0 (Int.toNat (m:Int)) 1,.u64 0,.bool false]),some (.cells false (List.replicate (Int.toNat (m:Int) * 1) (.u64 0)))],
 [decide (0≤(m:Int)) && decide ((m:Int)≤(m:Int)) && decide ((8:Int) * (m:Int)≤281474976710656) && decide ((m:Int)≤281474976710656),eqS (.int .i64 (IntKind.wrap .i64 (Int.tdiv (IntKind.wrap .i64 (sz+63)) 64))) (.int .i64 (m:Int)),!decide (4096 < sz),!decide (sz < 1)]):=by kernel_rfl
theorem wrap_small {z:Int}(h1:-9223372036854775808≤z) (h2:z < 9223372036854775808):IntKind.wrap .i64 z=z:=by
 simp only [IntKind.wrap,IntKind.bits,IntKind.signed]
 simp
 omega
theorem rows_len (sz:Int) (h1:1≤sz) (h2:sz≤4096):IntKind.wrap .i64 (Int.tdiv (IntKind.wrap .i64 (sz+63)) 64)=(((sz.toNat+63) / 64:Nat):Int):=by
 obtain ⟨k,rfl⟩:∃ k:Nat,sz=(k:Int):=⟨sz.toNat,by omega⟩
 rw [wrap_small (z:=(k:Int)+63) (by omega) (by omega)]
 have e:((k:Int)+63).tdiv 64=(((k+63) / 64:Nat):Int):=by
  rw [Int.tdiv_eq_ediv_of_nonneg (by omega)]
  omega
 rw [e,Int.toNat_natCast,wrap_small (by omega) (by omega)]
def g30:List AVal→Option EffA
 | [.int .i64 sz]=>some (cond (decide (1≤sz) && decide (sz≤4096)) (newE obW 2 [0,1] winV (newW sz ((sz.toNat+63) / 64))) (.pure (.tup [.nilPtr,.int .i64 2])))
 | _=>none
theorem g30_ok:CSOk Try.prog (csOne 30 g30):=csOne_ok fun args e he=>by
 unfold g30 at he
 split at he
 ·rename_i sz
  cases he
  by_cases h1:sz < 1
  ·have:(decide (1≤sz) && decide (sz≤4096))=false:=by simp; omega
   rw [this,cond_false]
   refine callOk_ans (noCS_ok _) (noPS_ok _) hmix gl (w30a sz) ?_ rfl rfl
   ·simp only [allT,decide_eq_true h1,cond_true]
  by_cases h2:4096 < sz
  ·have:(decide (1≤sz) && decide (sz≤4096))=false:=by simp; omega
   rw [this,cond_false]
   refine callOk_ans (noCS_ok _) (noPS_ok _) hmix gl (w30b sz) ?_ rfl rfl
   ·simp only [allT,decide_eq_true h2,decide_eq_false h1,Bool.not_false,cond_true]
  have:(decide (1≤sz) && decide (sz≤4096))=true:=by simp; omega
  rw [this,cond_true]
  have hm:(sz.toNat+63) / 64≤65:=by omega
  have hlen:=rows_len sz (by omega) (by omega)
  generalize hmm:(sz.toNat+63) / 64=m at hm hlen
  have r:=w30c sz m
  have e1:Int.toNat (m:Int)=m:=Int.toNat_natCast m
  rw [e1,Nat.mul_one] at r
  refine newE_ok (noCS_ok _) hmix (by decide) rfl (relOW _) ?_ rfl (by decide) (by decide) ?_
  ·intro ρ ns ns' l1 l2 hρ
   exact .tupL (.cons (.ptr (hρ 0 _ _ (at1 (by rw [l1]; exact Nat.two_pos)) (at1 (by rw [l2]; exact Nat.two_pos)))) (.cons (.same rfl) (.nil _)))
  ·have e2:(obW.place [120,104] (newW sz m))=[[.u64 (UInt64.ofInt sz),.slice 104 0 m 1,.u64 0,.bool false],List.replicate m (.u64 0)]:=by
    show [[AVal.u64 (UInt64.ofInt sz),.slice 104 0 (List.replicate m (0:UInt64)).length 1,.u64 0,.bool false],(List.replicate m (0:UInt64)).map AVal.u64]=_
    rw [List.length_replicate,List.map_replicate]
   have q:eqS (.int .i64 (IntKind.wrap .i64 (Int.tdiv (IntKind.wrap .i64 (sz+63)) 64))) (.int .i64 (m:Int))=true:=by rw [hlen]; simp [eqS]
   have q2:(decide (0≤(m:Int)) && decide ((m:Int)≤(m:Int)) && decide ((8:Int) * (m:Int)≤281474976710656) && decide ((m:Int)≤281474976710656))=true:=by simp; omega
   have r2:=r.trans (b:=some (AVal.tup [.ptr 120 0,.int .i64 0],[some (AObj.cells false [.u64 (UInt64.ofInt sz),.slice 104 0 m 1,.u64 0,.bool false]),some (AObj.cells false (List.replicate m (.u64 0)))],_)) (c:=some (winV [120,104],(obW.place [120,104] (newW sz m)).map (fun c=>some (.cells false c)),_)) (by rw [e2]; rfl)
   exact runF_of (noPS_ok _) gl [120,104] r2 (by simp only [allT,q,q2,decide_eq_false h1,decide_eq_false h2,Bool.not_false,cond_true]) rfl rfl rfl rfl
 ·cases he
end Go.Proofs.Ytjdhndicgifnbaa.Tun
namespace Go.Proofs.Ytjdhndicgifnbaa.Tun
open Go Go.Eng Go.Proofs.Ytjdhndicgifnbaa
def obT:Ob Tn:=⟨fun _=>4,tPlace,fun _=>4,fun _ _=>rfl,fun _=>Nat.le_refl _⟩
theorem relOT (s:Tn):obT.Rel s:=fun ρ ns ns' h1 h2 hρ=>relT s ρ ns ns' h1 h2 hρ
def csN:CS:=csAlt (csOne 31 g31) (csOne 30 g30)
theorem csN_ok:CSOk Try.prog csN:=csAlt_ok g31_ok g30_ok
def gotA (g1 g2 g3 g4 g5:List UInt8):AVal:=.agg [.str g1,.str g2,.str g3,.str g4,.str g5]
def limA (rc ct rk lf:UInt64) (sz:Int):AVal:=.agg [.u64 rc,.u64 ct,.u64 rk,.u64 lf,.int .i64 sz]
section
variable (g1 g2 g3 g4 g5:List UInt8) (first:Bool) (now rc ct rk lf:UInt64) (sz:Int) (w:Wn)
def h9:HL:=[(0,.cells false [.str g1,.str g2,.str g3,.str g4,.str g5]),(8,.cells false [.u64 now]),(16,.cells false [.u64 rc,.u64 ct,.u64 rk,.u64 lf,.int .i64 sz])]
noncomputable def o30n:Bool:=mOb ((g30 [.int .i64 sz]).getD (.pure (.tup []))) 56 (h9 g1 g2 g3 g4 g5 now rc ct rk lf sz) (.tup [.nilPtr,.int .i64 2]) (h9 g1 g2 g3 g4 g5 now rc ct rk lf sz)
noncomputable def o30w:Bool:=mOb ((g30 [.int .i64 sz]).getD (.pure (.tup []))) 56 (h9 g1 g2 g3 g4 g5 now rc ct rk lf sz) (.tup [.ptr 56 0,.int .i64 0]) (h9 g1 g2 g3 g4 g5 now rc ct rk lf sz++[(56,.cells false (cW 57 w)),(57,.cells false (w.L.map .u64))])
def sy9:List Nat:=[300016,22,27,31,36]
def bkN:AVal:=.tup [.ptr 56 0,.agg (cW 57 w),.ptr 57 0,.agg (w.L.map .u64)]
def v30n:AVal:=.tup [.nilPtr,.int .i64 2]
def v30w:AVal:=.tup [.ptr 56 0,.int .i64 0]
theorem w9n1:ansO (run1O Try.prog noPS csN sy9 [true] [v30n,.tup []] (mask 9) 100 9 [gotA g1 g2 g3 g4 g5,.bool first,.u64 now,limA rc ct rk lf sz] [] 0)=some (.tup [.nilPtr,.int .i64 2],[(g3.length:Int) != 32,o30n g1 g2 g3 g4 g5 now rc ct rk lf sz]):=by kernel_rfl
theorem w9n2:ansO (run1O Try.prog noPS csN sy9 [false,true] [v30n,.tup []] (mask 9) 100 9 [gotA g1 g2 g3 g4 g5,.bool first,.u64 now,limA rc ct rk lf sz] [] 0)=some (.tup [.nilPtr,.int .i64 2],[(g4.length:Int) != 32,!((g3.length:Int) != 32),o30n g1 g2 g3 g4 g5 now rc ct rk lf sz]):=by kernel_rfl
theorem w9n3:ansO (run1O Try.prog noPS csN sy9 [false,false,true] [v30n,.tup []] (mask 9) 100 9 [gotA g1 g2 g3 g4 g5,.bool first,.u64 now,limA rc ct rk lf sz] [] 0)=some (.tup [.nilPtr,.int .i64 2],[mayL rc ct rk lf,!((g4.length:Int) != 32),!((g3.length:Int) != 32),o30n g1 g2 g3 g4 g5 now rc ct rk lf sz]):=by kernel_rfl
theorem w9n4:ansO (run1O Try.prog noPS csN sy9 [false,false,false] [v30n,.tup []] (mask 9) 100 9 [gotA g1 g2 g3 g4 g5,.bool first,.u64 now,limA rc ct rk lf sz] [] 0)=some (.tup [.nilPtr,.int .i64 2],[!mayL rc ct rk lf,!((g4.length:Int) != 32),!((g3.length:Int) != 32),o30n g1 g2 g3 g4 g5 now rc ct rk lf sz]):=by kernel_rfl
theorem w9w1:ansO (run1O Try.prog noPS csN sy9 [true] [v30w,bkN w] (mask 9) 100 9 [gotA g1 g2 g3 g4 g5,.bool first,.u64 now,limA rc ct rk lf sz] [] 0)=some (.tup [.nilPtr,.int .i64 2],[(g3.length:Int) != 32,o30w g1 g2 g3 g4 g5 now rc ct rk lf sz w]):=by kernel_rfl
theorem w9w2:ansO (run1O Try.prog noPS csN sy9 [false,true] [v30w,bkN w] (mask 9) 100 9 [gotA g1 g2 g3 g4 g5,.bool first,.u64 now,limA rc ct rk lf sz] [] 0)=some (.tup [.nilPtr,.int .i64 2],[(g4.length:Int) != 32,!((g3.length:Int) != 32),o30w g1 g2 g3 g4 g5 now rc ct rk lf sz w]):=by kernel_rfl
theorem w9w3:ansM [352,56,57,8] (run1O Try.prog noPS csN sy9 [false,false,true] [v30w,bkN w] (mask 9) 100 9 [gotA g1 g2 g3 g4 g5,.bool first,.u64 now,limA rc ct rk lf sz] [] 0)=some (.tup [.ptr 352 0,.int .i64 0],oT 56 57 8 ⟨w,g3,g4,first,first,rc,ct,rk,lf,sz,0,now⟩,[mayL rc ct rk lf,!((g4.length:Int) != 32),!((g3.length:Int) != 32),o30w g1 g2 g3 g4 g5 now rc ct rk lf sz w]):=by kernel_rfl
theorem w9w4:ansO (run1O Try.prog noPS csN sy9 [false,false,false] [v30w,bkN w] (mask 9) 100 9 [gotA g1 g2 g3 g4 g5,.bool first,.u64 now,limA rc ct rk lf sz] [] 0)=some (.tup [.nilPtr,.int .i64 2],[!mayL rc ct rk lf,!((g4.length:Int) != 32),!((g3.length:Int) != 32),o30w g1 g2 g3 g4 g5 now rc ct rk lf sz w]):=by kernel_rfl
theorem o30n_ok (h:(decide (1≤sz) && decide (sz≤4096))=false):o30n g1 g2 g3 g4 g5 now rc ct rk lf sz=true:=by
 refine decP_of ?_
 simp only [g30,Option.getD_some,h,cond_false]
 rfl
theorem o30w_ok (h:(decide (1≤sz) && decide (sz≤4096))=true):o30w g1 g2 g3 g4 g5 now rc ct rk lf sz (newW sz ((sz.toNat+63) / 64))=true:=by
 refine decP_of ?_
 simp only [g30,Option.getD_some,h,cond_true]
 rw [newE_app (O2:=obW) (by decide)]
 rfl
end
def newG (g3 g4:List UInt8) (rc ct rk lf:UInt64) (sz:Int):Bool:=!((g3.length:Int) != 32) && (!((g4.length:Int) != 32) && mayD rc ct rk lf sz)
def newT (g3 g4:List UInt8) (first:Bool) (now rc ct rk lf:UInt64) (sz:Int):Tn:=⟨newW sz ((sz.toNat+63) / 64),g3,g4,first,first,rc,ct,rk,lf,sz,0,now⟩
def g9:List AVal→Option EffA
 | [.agg [.str g1,.str g2,.str g3,.str g4,.str g5],.bool first,.u64 now,.agg [.u64 rc,.u64 ct,.u64 rk,.u64 lf,.int .i64 sz]]=>some (cond (newG g3 g4 rc ct rk lf sz) (newE obT 4 [0,1,2,3] winV (newT g3 g4 first now rc ct rk lf sz)) (.pure (.tup [.nilPtr,.int .i64 2])))
 | _=>none
theorem nameWin {k:Nat}(hk:0 < k):NameV k winV:=fun ρ ns ns' l1 l2 hρ=>.tupL (.cons (.ptr (hρ 0 _ _ (at1 (by omega)) (at1 (by omega)))) (.cons (.same rfl) (.nil _)))
theorem g9_ok:CSOk Try.prog (csOne 9 g9):=csOne_ok fun args e he=>by
 unfold g9 at he
 split at he
 ·rename_i g1 g2 g3 g4 g5 first now rc ct rk lf sz
  cases he
  unfold newG mayD
  cases hw:(decide (1≤sz) && decide (sz≤4096)) with
  | false =>
   simp only [Bool.and_false,cond_false]
   have ho:=o30n_ok g1 g2 g3 g4 g5 now rc ct rk lf sz hw
   cases h1:((g3.length:Int) != 32) with
   | true=>exact callOk_ans csN_ok (noPS_ok _) hmix gl (w9n1 g1 g2 g3 g4 g5 first now rc ct rk lf sz) (by simp only [allT,h1,ho,cond_true]) rfl rfl
   | false =>
    cases h2:((g4.length:Int) != 32) with
    | true=>exact callOk_ans csN_ok (noPS_ok _) hmix gl (w9n2 g1 g2 g3 g4 g5 first now rc ct rk lf sz) (by simp only [allT,h1,h2,ho,Bool.not_false,cond_true]) rfl rfl
    | false =>
     cases h3:mayL rc ct rk lf with
     | true=>exact callOk_ans csN_ok (noPS_ok _) hmix gl (w9n3 g1 g2 g3 g4 g5 first now rc ct rk lf sz) (by simp only [allT,h1,h2,h3,ho,Bool.not_false,cond_true]) rfl rfl
     | false=>exact callOk_ans csN_ok (noPS_ok _) hmix gl (w9n4 g1 g2 g3 g4 g5 first now rc ct rk lf sz) (by simp only [allT,h1,h2,h3,ho,Bool.not_false,cond_true]) rfl rfl
  | true =>
   simp only [Bool.and_true]
   have ho:=o30w_ok g1 g2 g3 g4 g5 now rc ct rk lf sz hw
   cases h1:((g3.length:Int) != 32) with
   | true =>
    simp only [Bool.not_true,Bool.false_and,cond_false]
    exact callOk_ans csN_ok (noPS_ok _) hmix gl (w9w1 g1 g2 g3 g4 g5 first now rc ct rk lf sz (newW sz ((sz.toNat+63) / 64))) (by simp only [allT,h1,ho,cond_true]) rfl rfl
   | false =>
    cases h2:((g4.length:Int) != 32) with
    | true =>
     simp only [Bool.not_true,Bool.not_false,Bool.true_and,Bool.false_and,cond_false]
     exact callOk_ans csN_ok (noPS_ok _) hmix gl (w9w2 g1 g2 g3 g4 g5 first now rc ct rk lf sz (newW sz ((sz.toNat+63) / 64))) (by simp only [allT,h1,h2,ho,Bool.not_false,cond_true]) rfl rfl
    | false =>
     cases h3:mayL rc ct rk lf with
     | true =>
      simp only [Bool.not_false,Bool.true_and,cond_true]
      exact newE_ok csN_ok hmix (by decide) rfl (relOT _) (nameWin (show 0 < 4 by decide)) rfl (by decide) (by decide) (runF_of (noPS_ok _) gl [352,56,57,8] (w9w3 g1 g2 g3 g4 g5 first now rc ct rk lf sz (newW sz ((sz.toNat+63) / 64))) (by simp only [allT,h1,h2,h3,ho,Bool.not_false,cond_true]) rfl rfl rfl rfl)
     | false =>
      simp only [Bool.not_false,Bool.true_and,cond_false]
      exact callOk_ans csN_ok (noPS_ok _) hmix gl (w9w4 g1 g2 g3 g4 g5 first now rc ct rk lf sz (newW sz ((sz.toNat+63) / 64))) (by simp only [allT,h1,h2,h3,ho,Bool.not_false,cond_true]) rfl rfl
 ·cases he
end Go.Proofs.Ytjdhndicgifnbaa.Tun
namespace Go.Eng
theorem callOk_same2 {P:Program}{f:FuncId}{args:List AVal}{e e':EffA}(h:CallOk P f args e) (hx:∀ base H v H',e'.app base H=some (v,H')→∃ H2,e.app base H=some (v,H2)∧aget H2=aget H'):CallOk P f args e':=by
 intro σ args' H w base v H' hl hg hH happ hfree
 obtain ⟨H2,h1,h2⟩:=hx base H v H' happ
 have r:=h σ args' H w base v H2 hl hg hH h1 hfree
 rw [h2] at r
 exact r
def rdF {S:Type}(dec:AObj→Option (List Nat × S)) (val:S→AVal) (ok:S→Bool) (o:AObj):Option AVal:=
 match dec o with
 | some (ns,s)=>cond (nodupB ns && ok s) (some (val s)) none
 | none=>none
def rdE {S:Type}(t:Nat) (dec:AObj→Option (List Nat × S)) (val:S→AVal) (ok:S→Bool):EffA:=.read t (rdF dec val ok)
def atF {S:Type}(t:Nat) (dec:AObj→Option (List Nat × S)) (η:Nat→Option AObj):Option (List Nat × S):=
 match η t with
 | some o=>dec o
 | none=>none
def DecOk {S:Type}(O:Ob S) (t:Nat) (dec:AObj→Option (List Nat × S)):Prop:=∀ o ns s,dec o=some (ns,s)→ns.length=O.k s∧ns[0]? = some t∧(∀ c,(O.place ns s)[0]? = some c→o=.cells false c) ∧
 ∀ n,n ∈ ns→n=t ∨ ∃ (fz:Bool) (c:List AVal) (i:Nat),o=.cells fz c∧((∃ off len esz,c[i]? = some (AVal.slice n off len esz)) ∨ ∃ off,c[i]? = some (AVal.ptr n off))
theorem decOk_find {S:Type}{O:Ob S}{t:Nat}{dec:AObj→Option (List Nat × S)}(hd:DecOk O t dec) (hm1:∀ s,O.m s=1){args:List AVal}{A:S→List Nat→List AVal}(hA:∀ s ns,ns.length=O.k s→ns[0]? = some t→args=A s ns){η:Nat→Option AObj}{ns:List Nat}{s:S}(h:atF t dec η=some (ns,s)) :
  ns.length=O.k s∧(∀ n,n ∈ ns→Known η args n)∧(∀ (i n:Nat) (c:List AVal),ns[i]? = some n→(O.place ns s)[i]? = some c→η n=some (.cells false c))∧args=A s ns:=by
 unfold atF at h
 split at h
 ·rename_i o ho
  obtain ⟨h1,h2,h3,h4⟩:=hd o ns s h
  refine ⟨h1,fun n hn => ?_,fun i n c e1 e2 => ?_,hA s ns h1 h2⟩
  ·rcases h4 n hn with rfl | ⟨fz,c,i,rfl,hc⟩
   ·exact .inl ⟨o,ho⟩
   ·exact .inr (.inl ⟨t,fz,c,i,ho,hc⟩)
  ·have hi:i < 1:=by
    have:=(List.getElem?_eq_some_iff.1 e2).1
    rwa [O.len,hm1] at this
   have:i=0:=by omega
   subst this
   rw [h2] at e1
   cases e1
   rw [ho,h3 c e2]
 ·cases h
theorem range_at {k i j:Nat}(h:(List.range k)[i]? = some j):i < k∧j=i:=by
 obtain ⟨h1,h2⟩:=List.getElem?_eq_some_iff.1 h
 rw [List.getElem_range] at h2
 exact ⟨by simpa using h1,h2.symm⟩
theorem map_nmU2 {ns:List Nat}{base k:Nat}(h:ns.length=k):(List.range k).map (nmU2 ns base)=ns:=by
 apply List.ext_getElem?
 intro i
 rw [List.getElem?_map]
 by_cases c:i < k
 ·rw [List.getElem?_range c,Option.map_some,getD_at (by omega)]
  unfold nmU2
  have:Nat.blt i ns.length=true:=by rw [h]; simpa [Nat.blt_eq] using c
  rw [this]; rfl
 ·rw [List.getElem?_eq_none (by simp; omega),List.getElem?_eq_none (by omega)]; rfl
theorem rdE_ok {S:Type}{P:Program}{cs:CS}(hcs:CSOk P cs) (hm:P.follows .mixedOrders=true){f:FuncId}{O:Ob S}{t:Nat}{dec:AObj→Option (List Nat × S)}{args:List AVal}{A:S→List Nat→List AVal}{val:S→AVal}{ok:S→Bool}(hd:DecOk O t dec) (hm1:∀ s,O.m s=1)
  (hA:∀ s ns,ns.length=O.k s→ns[0]? = some t→args=A s ns)
  (h:∀ s,ok s=true→O.Rel s∧ltV 0 (val s)=true∧NameL (O.k s) (A s)∧RunF P cs f O O 0 (List.range (O.k s)) (A s) s (fun _=>val s) s):CallOk P f args (rdE t dec val ok):=by
 have h0:CallOk P f args (effF O O (atF t dec) 0 (fun s=>List.range (O.k s)) (fun _ s=>val s) id ok):=
  effF_ok hcs hm (by decide) (A:=A) (fun {η ns s} hf=>decOk_find hd hm1 hA hf) fun s hs=>by
   obtain ⟨a,b,c,d⟩:=h s hs
   refine ⟨a,a,.plain b,c,by rw [List.length_range]; rfl,List.nodup_range,fun j hj=>by have:=List.mem_range.1 hj; omega,fun i j e1 e2=>.inl ?_,d⟩
   obtain ⟨_,rfl⟩:=range_at e1
   exact e2
 refine callOk_same2 h0 fun base H v H' happ => ?_
 unfold rdE at happ
 simp only [EffA.app] at happ
 cases hn:aget H t with
 | none=>rw [hn] at happ; cases happ
 | some o =>
  rw [hn] at happ
  simp only at happ
  cases hr:rdF dec val ok o with
  | none=>rw [hr] at happ; cases happ
  | some u =>
   rw [hr] at happ
   cases happ
   unfold rdF at hr
   split at hr
   ·rename_i ns s hdec
    cases hc:(nodupB ns && ok s) <;> rw [hc] at hr <;> simp only [cond_true,cond_false] at hr
    ·cases hr
    ·cases hr
     rw [Bool.and_eq_true] at hc
     obtain ⟨h1,h2,h3,h4⟩:=hd o ns s hdec
     have hat:atF t dec (aget H)=some (ns,s):=by unfold atF; rw [hn]; exact hdec
     refine ⟨_,effF_app (O:=O) (O2:=O) (src:=fun s=>List.range (O.k s)) (val:=fun _ s=>val s) (next:=id) hat hc.1 hc.2,?_⟩
     have hpl:(O.place ns s).length=1:=by rw [O.len,hm1]
     obtain ⟨c,hpc⟩:∃ c,O.place ns s=[c]:=List.length_eq_one_iff.1 hpl
     obtain ⟨tl,rfl⟩:∃ tl,ns=t::tl:=by
      cases ns with
      | nil=>simp at h2
      | cons a tl=>simp at h2; subst h2; exact ⟨tl,rfl⟩
     have ho:=h3 c (by rw [hpc]; rfl)
     rw [map_nmU2 h1]
     have hk:1≤O.k s:=by rw [← h1]; simp
     have hg:goneF (O.m s) ((List.range (O.k s)).take (O.place (t::tl) (id s)).length)=[]:=by
      show goneF (O.m s) ((List.range (O.k s)).take (O.place (t::tl) s).length)=[]
      rw [hpl,hm1]
      unfold goneF
      rw [show List.range 1=[0] from rfl]
      have:(List.range (O.k s)).take 1=[0]:=by
       obtain ⟨q,hq⟩:∃ q,O.k s=q+1:=⟨O.k s - 1,by omega⟩
       rw [hq,List.range_succ_eq_map]; rfl
      rw [this]; rfl
     have hu:upF2 (t::tl) base (O.m s) (List.range (O.k s)) (O.place (t::tl) (id s))=[(t,some (.cells false c))]:=by
      unfold upF2
      rw [map_nmU2 h1,hg]
      show putC (t::tl) (O.place (t::tl) s)++[]=_
      rw [hpc]
      cases tl <;> rfl
     rw [hu]
     funext m
     show aget (aset H t (.cells false c)) m=aget H m
     rw [aget_aset]
     split
     ·rename_i e; subst e; rw [hn,ho]
     ·rfl
   ·cases hr
end Go.Eng
namespace Go.Proofs.Ytjdhndicgifnbaa.Tun
open Go Go.Eng Go.Proofs.Ytjdhndicgifnbaa
structure Dc where
 send:List UInt8
 recv:List UInt8
 first:Bool
 made:UInt64
 rc:UInt64
 ct:UInt64
 rk:UInt64
 lf:UInt64
 wn:Int
 next:UInt64
 size:Int
 sure:Bool
 gone:Bool
def cD (sl:AVal) (s:Dc):List AVal:=[.str s.send,.str s.recv,.bool s.first,.u64 s.made,.u64 s.rc,.u64 s.ct,.u64 s.rk,.u64 s.lf,.int .i64 s.wn,.u64 s.next,.int .i64 s.size,sl,.bool s.sure,.bool s.gone]
def slQ (m:Nat):Option Nat→AVal
 | none=>.nilSlice
 | some q=>.slice m 0 q 1
def kQ:Option Nat→Nat
 | none=>1
 | some _=>2
theorem kQ_pos (q:Option Nat):1≤kQ q:=by cases q <;> simp [kQ]
def obD1:Ob (Dc × Option Nat):=⟨fun s=>kQ s.2,fun ns s=>[cD (slQ (ns.getD 1 0) s.2) s.1],fun _=>1,fun _ _=>rfl,fun s=>kQ_pos s.2⟩
theorem relcD {ρ:Nat→Nat→Prop}{a b:AVal}(s s':Dc) (e:s=s') (h:RL ρ [a] [b]):RL ρ (cD a s) (cD b s'):=by
 subst e
 have h1:RN ρ a b:=h.2 0 a b rfl rfl
 exact .cons (.same rfl) (.cons (.same rfl) (.cons (.same rfl) (.cons (.same rfl) (.cons (.same rfl) (.cons (.same rfl) (.cons (.same rfl) (.cons (.same rfl) (.cons (.same rfl) (.cons (.same rfl) (.cons (.same rfl) (.cons h1 (.same rfl))))))))))))
theorem relQ {ρ:Nat→Nat→Prop}{ns ns':List Nat}{q:Option Nat}(h1:ns.length=kQ q) (h2:ns'.length=kQ q) (hρ:∀ (i n n':Nat),ns[i]? = some n→ns'[i]? = some n'→ρ n n'):RL ρ [slQ (ns.getD 1 0) q] [slQ (ns'.getD 1 0) q]:=by
 cases q with
 | none=>exact .same rfl
 | some q=>exact .cons (.slice (hρ 1 _ _ (at1 (by rw [h1]; exact Nat.one_lt_two)) (at1 (by rw [h2]; exact Nat.one_lt_two)))) (.nil _)
theorem relD1 (s:Dc × Option Nat):obD1.Rel s:=fun ρ ns ns' h1 h2 hρ i c c' e1 e2=>by
 match i,e1,e2 with
 | 0,e1,e2=>cases e1; cases e2; exact relcD _ _ rfl (relQ h1 h2 hρ)
 | i+1,e1,e2=>simp [obD1] at e1
def decS:AVal→Option (List Nat × Option Nat)
 | .nilSlice=>some ([],none)
 | .slice m 0 q 1=>some ([m],some q)
 | _=>none
def decD (t:Nat):AObj→Option (List Nat × (Dc × Option Nat))
 | .cells false [.str send,.str recv,.bool first,.u64 made,.u64 rc,.u64 ct,.u64 rk,.u64 lf,.int .i64 wn,.u64 next,.int .i64 size,sl,.bool sure,.bool gone]=>match decS sl with
  | some (ns,q)=>some (t::ns,(⟨send,recv,first,made,rc,ct,rk,lf,wn,next,size,sure,gone⟩,q))
  | none=>none
 | _=>none
theorem decS_ok {sl:AVal}{ns:List Nat}{q:Option Nat}(h:decS sl=some (ns,q)) (t:Nat):sl=slQ ((t::ns).getD 1 0) q∧(t::ns).length=kQ q∧∀ n,n ∈ ns→∃ off len esz,sl=.slice n off len esz:=by
 unfold decS at h
 split at h
 ·cases h; exact ⟨rfl,rfl,fun n h=>by simp at h⟩
 ·cases h; exact ⟨rfl,rfl,fun n h=>by simp at h; subst h; exact ⟨_,_,_,rfl⟩⟩
 ·cases h
theorem decD_ok (t:Nat):DecOk obD1 t (decD t):=fun o ns s h=>by
 unfold decD at h
 split at h
 ·rename_i send recv first made rc ct rk lf wn next size sl sure gone
  split at h
  ·rename_i ns' q hq
   cases h
   obtain ⟨h1,h2,h3⟩:=decS_ok hq t
   refine ⟨h2,rfl,fun c hc => ?_,fun n hn => ?_⟩
   ·have:c=cD (slQ ((t::ns').getD 1 0) q) ⟨send,recv,first,made,rc,ct,rk,lf,wn,next,size,sure,gone⟩:=by simpa [obD1] using hc.symm
    rw [this,← h1]; rfl
   ·rcases List.mem_cons.1 hn with rfl | hn
    ·exact .inl rfl
    ·obtain ⟨off,len,esz,e⟩:=h3 n hn
     exact .inr ⟨_,_,11,rfl,.inl ⟨off,len,esz,by rw [e]; rfl⟩⟩
  ·cases h
 ·cases h
theorem decD_at (t m:Nat) (s:Dc) (q:Option Nat):decD t (.cells false (cD (slQ m q) s))=some (match q with | none=>[t] | some _=>[t,m],(s,q)):=by
 cases q <;> rfl
section
variable (sl:AVal) (s:Dc) (now:UInt64)
def hD:HL:=[(0,.cells false (cD sl s))]
def oD:List (Option AObj):=[some (.cells false (cD sl s))]
end
theorem runD1 {P:Program}{ps:PS}{cs:CS}(hps:PSOk ps cs) (hG:P.globals.size=0){f:FuncId}{o:Nat}{xs:List AVal}{s s2:Dc}{q:Option Nat}{v:AVal}
  {sy:List Nat} {os:List Bool} {vs:List AVal} {nn F:Nat} {ob:List Bool}
  (h:ansM [0] (run1O P ps cs sy os vs nn F f (.ptr 0 o::xs) (hD (slQ 1 q) s) 8)=some (v,oD (slQ 1 q) s2,ob)) (ha:allT ob=true):RunF P cs f obD1 obD1 0 (List.range (obD1.k (s,q))) (fun ns=>.ptr (ns.getD 0 0) o::xs) (s,q) (fun _=>v) (s2,q):=by
 cases q with
 | none=>exact runF_of hps hG [] h ha rfl rfl rfl rfl
 | some q=>exact runF_of hps hG [] h ha rfl rfl rfl rfl
end Go.Proofs.Ytjdhndicgifnbaa.Tun
namespace Go.Proofs.Ytjdhndicgifnbaa.Tun
open Go Go.Eng Go.Proofs.Ytjdhndicgifnbaa
section
variable (q:Option Nat) (s:Dc) (now:UInt64)
theorem w37a:ansM [0] (run1O Try.prog noPS noCS [10] [true] [] (mask 37) 100 37 [.ptr 0 0,.u64 now] (hD (slQ 1 q) s) 8)=some (.u64 0,oD (slQ 1 q) s,[decide (now < s.made)]):=by cases q <;> kernel_rfl
theorem w37b:ansM [0] (run1O Try.prog noPS noCS [10] [false] [] (mask 37) 100 37 [.ptr 0 0,.u64 now] (hD (slQ 1 q) s) 8)=some (.u64 (now - s.made),oD (slQ 1 q) s,[!decide (now < s.made)]):=by cases q <;> kernel_rfl
end
theorem nameP0 (q:Option Nat){o:Nat}{xs:List AVal}(h:ltL 0 xs=true):NameL (kQ q) fun ns=>.ptr (ns.getD 0 0) o::xs:=.recv (kQ_pos q) h
theorem argP0 {t o:Nat}{xs ns:List AVal}{l:List Nat}(h:l[0]? = some t):(.ptr t o::xs:List AVal)=.ptr (l.getD 0 0) o::xs:=by
 rw [List.getD_eq_getElem?_getD,h]; rfl
theorem ageU_lt {now made:UInt64}(h:now < made):ageU now made=0:=by
 unfold ageU; rw [if_pos h]; simp
theorem ageU_ge {now made:UInt64}(h:¬ now < made):ageU now made=now - made:=by
 unfold ageU; rw [if_neg h]
theorem readD {cs:CS}(hcs:CSOk Try.prog cs){f:FuncId}{t o:Nat}{xs:List AVal}(hx:ltL 0 xs=true){val:Dc→AVal}(hv:∀ s,ltV 0 (val s)=true)
  (h:∀ s q,RunF Try.prog cs f obD1 obD1 0 (List.range (obD1.k (s,q))) (fun ns=>.ptr (ns.getD 0 0) o::xs) (s,q) (fun _=>val s) (s,q)):CallOk Try.prog f (.ptr t o::xs) (rdE t (decD t) (fun s=>val s.1) fun _=>true):=
 rdE_ok hcs hmix (O:=obD1) (A:=fun _ ns=>.ptr (ns.getD 0 0) o::xs) (decD_ok t) (fun _=>rfl) (fun s ns _ h0=>argP0 (ns:=[]) h0) fun ⟨s,q⟩ _=>⟨relD1 _,hv s,nameP0 q hx,h s q⟩
def g37:List AVal→Option EffA
 | [.ptr t 0,.u64 now]=>some (rdE t (decD t) (fun s=>.u64 (ageU now s.1.made)) fun _=>true)
 | _=>none
theorem g37_ok:CSOk Try.prog (csOne 37 g37):=csOne_ok fun args e he=>by
 unfold g37 at he
 split at he
 ·rename_i t now
  cases he
  refine readD (val:=fun s=>.u64 (ageU now s.made)) (noCS_ok _) rfl (fun _=>rfl) fun s q => ?_
  by_cases h:now < s.made
  ·simp only [ageU_lt h]
   exact runD1 (noPS_ok _) gl (w37a q s now) (by simp only [allT,decide_eq_true h,cond_true])
  ·simp only [ageU_ge h]
   exact runD1 (noPS_ok _) gl (w37b q s now) (by simp only [allT,decide_eq_false h,Bool.not_false,cond_true])
 ·cases he
def overD (now:UInt64) (s:Dc):Bool:=cond s.gone true (decide (s.lf≤ageU now s.made))
section
variable (q:Option Nat) (s:Dc) (now:UInt64)
theorem w13a:ansM [0] (run1O Try.prog noPS (csOne 37 g37) [9] [true] [] (mask 13) 100 13 [.ptr 0 0,.u64 now] (hD (slQ 1 q) s) 8)=some (.bool true,oD (slQ 1 q) s,[s.gone]):=by cases q <;> kernel_rfl
theorem w13b:ansM [0] (run1O Try.prog noPS (csOne 37 g37) [9] [false] [] (mask 13) 100 13 [.ptr 0 0,.u64 now] (hD (slQ 1 q) s) 8)=some (.bool (decide (s.lf≤ageU now s.made)),oD (slQ 1 q) s,[!s.gone]):=by cases q <;> kernel_rfl
end
def g13:List AVal→Option EffA
 | [.ptr t 0,.u64 now]=>some (rdE t (decD t) (fun s=>.bool (overD now s.1)) fun _=>true)
 | _=>none
theorem g13_ok:CSOk Try.prog (csOne 13 g13):=csOne_ok fun args e he=>by
 unfold g13 at he
 split at he
 ·rename_i t now
  cases he
  refine readD (val:=fun s=>.bool (overD now s)) g37_ok rfl (fun _=>rfl) fun s q => ?_
  unfold overD
  cases h:s.gone with
  | true=>exact runD1 (noPS_ok _) gl (w13a q s now) (by simp only [allT,h,cond_true])
  | false=>exact runD1 (noPS_ok _) gl (w13b q s now) (by simp only [allT,h,Bool.not_false,cond_true])
 ·cases he
end Go.Proofs.Ytjdhndicgifnbaa.Tun
namespace Go.Proofs.Ytjdhndicgifnbaa.Tun
open Go Go.Eng Go.Proofs.Ytjdhndicgifnbaa
def csD (φ:Ae.Fn):CS:=csAlt (csP (Ae.psn φ)) (csAlt (csOne 13 g13) (csAlt (csOne 37 g37) (Ae.nb φ)))
theorem csD_ok:CSOk Try.prog (csD Ae.realFn):=csAlt_ok Ae.psn_ok (csAlt_ok g13_ok (csAlt_ok g37_ok Ae.nb_ok))
def wantsD (now:UInt64) (s:Dc):Bool:=cond s.first (cond (overD now s) false (cond (decide (s.rc≤s.next)) true (decide (s.rk≤ageU now s.made)))) false
section
variable (φ:Ae.Fn) (q:Option Nat) (s:Dc) (now:UInt64) (x:List UInt8)
theorem w15a:ansM [0] (run1O Try.prog noPS (csD φ) [9,13,26] [true,true,true] [] (mask 15) 100 15 [.ptr 0 0,.u64 now] (hD (slQ 1 q) s) 8)=some (.bool true,oD (slQ 1 q) s,[decide (s.rc≤s.next),!overD now s,s.first]):=by cases q <;> kernel_rfl
theorem w15b:ansM [0] (run1O Try.prog noPS (csD φ) [9,13,26] [true,true,false] [] (mask 15) 100 15 [.ptr 0 0,.u64 now] (hD (slQ 1 q) s) 8)=some (.bool (decide (s.rk≤ageU now s.made)),oD (slQ 1 q) s,[!decide (s.rc≤s.next),!overD now s,s.first]):=by cases q <;> kernel_rfl
theorem w15c:ansM [0] (run1O Try.prog noPS (csD φ) [9,13,26] [true,false] [] (mask 15) 100 15 [.ptr 0 0,.u64 now] (hD (slQ 1 q) s) 8)=some (.bool false,oD (slQ 1 q) s,[!!overD now s,s.first]):=by cases q <;> kernel_rfl
theorem w15d:ansM [0] (run1O Try.prog noPS (csD φ) [9,13,26] [false] [] (mask 15) 100 15 [.ptr 0 0,.u64 now] (hD (slQ 1 q) s) 8)=some (.bool false,oD (slQ 1 q) s,[!s.first]):=by cases q <;> kernel_rfl
def sy34:List Nat:=[13,24,30,46]
def incD (s:Dc):Dc:={ s with next:=s.next+1 }
theorem w34a:ansM [0] (run1O Try.prog noPS (csD φ) sy34 [true] [] (mask 34) 100 34 [.ptr 0 0,.u64 now,.str x] (hD (slQ 1 q) s) 8)=some (.tup [.u64 0,.str [],.int .i64 180],oD (slQ 1 q) s,[overD now s]):=by cases q <;> kernel_rfl
theorem w34b:ansM [0] (run1O Try.prog noPS (csD φ) sy34 [false,true] [] (mask 34) 100 34 [.ptr 0 0,.u64 now,.str x] (hD (slQ 1 q) s) 8)=some (.tup [.u64 0,.str [],.int .i64 180],oD (slQ 1 q) s,[decide (s.ct≤s.next),!overD now s]):=by cases q <;> kernel_rfl
theorem w34c:ansM [0] (run1O Try.prog noPS (csD φ) sy34 [false,false,true] [] (mask 34) 100 34 [.ptr 0 0,.u64 now,.str x] (hD (slQ 1 q) s) 8)=some (.tup [.u64 0,.str [],.int .i64 3],oD (slQ 1 q) s,[!s.sure,!decide (s.ct≤s.next),!overD now s]):=by cases q <;> kernel_rfl
theorem w34d:ansM [0] (run1O Try.prog noPS (csD φ) sy34 [false,false,false,true] [] (mask 34) 100 34 [.ptr 0 0,.u64 now,.str x] (hD (slQ 1 q) s) 8)=some (.tup [.u64 0,.str [],.int .i64 (φ.sr s.send (Ae.nonL s.next) [] x)],oD (slQ 1 q) s,[φ.sr s.send (Ae.nonL s.next) [] x != 0,!!s.sure,!decide (s.ct≤s.next),!overD now s]):=by cases q <;> kernel_rfl
theorem w34e:ansM [0] (run1O Try.prog noPS (csD φ) sy34 [false,false,false,false] [] (mask 34) 100 34 [.ptr 0 0,.u64 now,.str x] (hD (slQ 1 q) s) 8)=some (.tup [.u64 (s.next+1 - 1),.str (φ.sv s.send (Ae.nonL s.next) [] x),.int .i64 0],oD (slQ 1 q) (incD s),[!(φ.sr s.send (Ae.nonL s.next) [] x != 0),!!s.sure,!decide (s.ct≤s.next),!overD now s]):=by cases q <;> kernel_rfl
end
def g15:List AVal→Option EffA
 | [.ptr t 0,.u64 now]=>some (rdE t (decD t) (fun s=>.bool (wantsD now s.1)) fun _=>true)
 | _=>none
theorem g15_ok:CSOk Try.prog (csOne 15 g15):=csOne_ok fun args e he=>by
 unfold g15 at he
 split at he
 ·rename_i t now
  cases he
  refine readD (val:=fun s=>.bool (wantsD now s)) csD_ok rfl (fun _=>rfl) fun s q => ?_
  unfold wantsD
  cases h:s.first with
  | false=>exact runD1 (noPS_ok _) gl (w15d _ q s now) (by simp only [allT,h,Bool.not_false,cond_true])
  | true =>
   simp only [cond_true]
   cases h1:overD now s with
   | true=>exact runD1 (noPS_ok _) gl (w15c _ q s now) (by simp only [allT,h,h1,Bool.not_false,Bool.not_true,cond_true])
   | false =>
    simp only [cond_false]
    cases h2:decide (s.rc≤s.next) with
    | true=>exact runD1 (noPS_ok _) gl (w15a _ q s now) (by simp only [allT,h,h1,h2,Bool.not_false,cond_true])
    | false=>exact runD1 (noPS_ok _) gl (w15b _ q s now) (by simp only [allT,h,h1,h2,Bool.not_false,cond_true])
 ·cases he
def meD (t:Nat) (val:Dc→AVal) (next:Dc→Dc):EffA:=effF obD1 obD1 (atF t (decD t)) 0 (fun s=>List.range (kQ s.2)) (fun _ s=>val s.1) (fun s=>(next s.1,s.2)) fun _=>true
theorem meD_ok {cs:CS}(hcs:CSOk Try.prog cs){f:FuncId}{t o:Nat}{xs:List AVal}(hx:ltL 0 xs=true){val:Dc→AVal}{next:Dc→Dc}(hv:∀ s,ltV 0 (val s)=true)
  (h:∀ s q,RunF Try.prog cs f obD1 obD1 0 (List.range (obD1.k (s,q))) (fun ns=>.ptr (ns.getD 0 0) o::xs) (s,q) (fun _=>val s) (next s,q)):CallOk Try.prog f (.ptr t o::xs) (meD t val next):=
 effF_ok hcs hmix (by decide) (O:=obD1) (O2:=obD1) (A:=fun _ ns=>.ptr (ns.getD 0 0) o::xs) (fun {η ns s} hf=>decOk_find (decD_ok t) (fun _=>rfl) (fun s ns _ h0=>argP0 (ns:=[]) h0) hf) fun ⟨s,q⟩ _ =>
  ⟨relD1 _,relD1 _,.plain (hv s),nameP0 q hx,by rw [List.length_range]; rfl,List.nodup_range,fun j hj=>by have:=List.mem_range.1 hj; exact this,fun i j e1 e2=>.inl (by obtain ⟨_,rfl⟩:=range_at e1; exact e2),h s q⟩
def sealDG (now:UInt64) (x:List UInt8) (s:Dc):Bool:=!overD now s && (!decide (s.ct≤s.next) && (s.sure && !((Ae.seF s.send (Ae.nonL s.next) [] x).2 != 0)))
def sealDE (now:UInt64) (x:List UInt8) (s:Dc):Int:=cond (overD now s) 180 (cond (decide (s.ct≤s.next)) 180 (cond s.sure (Ae.seF s.send (Ae.nonL s.next) [] x).2 3))
def sealDV (now:UInt64) (x:List UInt8) (s:Dc):AVal:=cond (sealDG now x s) (.tup [.u64 s.next,.str (Ae.seF s.send (Ae.nonL s.next) [] x).1,.int .i64 0]) (.tup [.u64 0,.str [],.int .i64 (sealDE now x s)])
def sealDN (now:UInt64) (x:List UInt8) (s:Dc):Dc:=cond (sealDG now x s) (incD s) s
theorem lt_sealDV (now:UInt64) (x:List UInt8) (s:Dc):ltV 0 (sealDV now x s)=true:=by
 unfold sealDV
 cases sealDG now x s <;> rfl
def g34:List AVal→Option EffA
 | [.ptr t 0,.u64 now,.str x]=>some (meD t (sealDV now x) (sealDN now x))
 | _=>none
theorem g34_ok:CSOk Try.prog (csOne 34 g34):=csOne_ok fun args e he=>by
 unfold g34 at he
 split at he
 ·rename_i t now x
  cases he
  refine meD_ok csD_ok rfl (lt_sealDV now x) fun s q => ?_
  unfold sealDV sealDN sealDG sealDE
  cases h0:overD now s with
  | true=>exact runD1 (noPS_ok _) gl (w34a _ q s now x) (by simp only [allT,h0,cond_true])
  | false =>
   simp only [Bool.not_false,Bool.true_and,cond_false]
   cases h1:decide (s.ct≤s.next) with
   | true =>
    simp only [Bool.not_true,Bool.false_and,cond_false,cond_true]
    exact runD1 (noPS_ok _) gl (w34b _ q s now x) (by simp only [allT,h0,h1,Bool.not_false,cond_true])
   | false =>
    simp only [Bool.not_false,Bool.true_and,cond_false]
    cases h2:s.sure with
    | false =>
     simp only [Bool.false_and,cond_false]
     exact runD1 (noPS_ok _) gl (w34c _ q s now x) (by simp only [allT,h0,h1,h2,Bool.not_false,cond_true])
    | true =>
     simp only [Bool.true_and,cond_true]
     have hd:=w34d Ae.realFn q s now x
     have he:=w34e Ae.realFn q s now x
     rw [add_sub_one] at he
     cases h3:((Ae.seF s.send (Ae.nonL s.next) [] x).2 != 0) with
     | true =>
      simp only [Bool.not_true,cond_false]
      have h3':(Ae.realFn.sr s.send (Ae.nonL s.next) [] x != 0)=true:=h3
      exact runD1 (noPS_ok _) gl hd (by simp only [allT,h0,h1,h2,h3',Bool.not_false,Bool.not_true,cond_true])
     | false =>
      simp only [Bool.not_false,cond_true]
      have h3':(Ae.realFn.sr s.send (Ae.nonL s.next) [] x != 0)=false:=h3
      exact runD1 (noPS_ok _) gl he (by simp only [allT,h0,h1,h2,h3',Bool.not_false,Bool.not_true,cond_true])
 ·cases he
end Go.Proofs.Ytjdhndicgifnbaa.Tun
namespace Go.Eng
theorem allT_c {b:Bool}{l:List Bool}(h:b=true) (t:allT l=true):allT (b::l)=true:=by subst h; exact t
def finM (P:Program) (fn:Func) (ns:List Nat):Option (XA × SA)→Option (AVal × List (Option AObj))
 | none=>none
 | some (.exit _,_)=>none
 | some (_,s)=>match resA P s.T s.H fn.results.toList with
  | none=>none
  | some [v]=>some (v,ns.map (aget s.H))
  | some vs=>some (.tup vs,ns.map (aget s.H))
def ansR (ns:List Nat) (x:Option (AVal × HL × Nat)):Option (AVal × List (Option AObj)):=
 match x with
 | some (v,H,_)=>some (v,ns.map (aget H))
 | none=>none
theorem run1_M {P:Program}{cs:CS}{nn F:Nat}{f:FuncId}{fn:Func}{c:Code}{args:List AVal}{H:HL}{fr:Nat}(ns:List Nat) (hf:P.funcs[f]? = some fn) (hb:fn.body=some c) (hn:Nat.ble args.length fn.ntmps=true) :
  ansR ns (run1 P cs nn F f args H fr)=finM P fn ns (evS P cs fn.ntmps nn F fr (pieces c) ⟨startT args 0,H,fr⟩):=by
 unfold run1
 simp only [hf,hb]
 unfold runF
 rw [hn,evC_pieces]
 cases evS P cs fn.ntmps nn F fr (pieces c) ⟨startT args 0,H,fr⟩ with
 | none=>rfl
 | some p =>
  obtain ⟨x,s⟩:=p
  cases x with
  | exit id=>rfl
  | normal =>
   simp only [cond_true,finM]
   cases resA P s.T s.H fn.results.toList with
   | none=>rfl
   | some vs=>match vs with
    | []=>rfl
    | [_]=>rfl
    | _::_::_=>rfl
  | ret =>
   simp only [cond_true,finM]
   cases resA P s.T s.H fn.results.toList with
   | none=>rfl
   | some vs=>match vs with
    | []=>rfl
    | [_]=>rfl
    | _::_::_=>rfl
def ansG (P:Program) (fn:Func) (ns:List Nat) (x:Option (XA × SA × OS)):Option (AVal × List (Option AObj) × List Bool):=
 match x with
 | some (x,s,q)=>match finM P fn ns (some (x,s)) with
  | some (v,h)=>some (v,h,q.ob)
  | none=>none
 | none=>none
theorem ansG_some {P:Program}{fn:Func}{ns:List Nat}{x:XA}{s:SA}{q:OS}{v:AVal}{h:List (Option AObj)}{ob:List Bool}(e:ansG P fn ns (some (x,s,q))=some (v,h,ob)):finM P fn ns (some (x,s))=some (v,h)∧q.ob=ob:=by
 unfold ansG at e
 simp only at e
 cases hv:finM P fn ns (some (x,s)) with
 | none=>simp only [hv] at e; cases e
 | some u =>
  obtain ⟨u1,u2⟩:=u
  simp only [hv,Option.some.injEq,Prod.mk.injEq] at e
  obtain ⟨rfl,rfl,rfl⟩:=e
  exact ⟨rfl,rfl⟩
theorem ansG_ok {P:Program}{ps:PS}{cs:CS}(hps:PSOk ps cs){sy:List Nat}{fn:Func}{ns:List Nat}{nt nn F bs:Nat}{l:List Code}{s:SA}{q:OS}{v:AVal}{h:List (Option AObj)}{ob:List Bool}(e:ansG P fn ns (evSO P ps cs sy nt nn F bs l s q)=some (v,h,ob)) (ha:allT ob=true):finM P fn ns (evS P cs nt nn F bs l s)=some (v,h)∧allT q.ob=true:=by
 cases hx:evSO P ps cs sy nt nn F bs l s q with
 | none=>rw [hx] at e; cases e
 | some r =>
  obtain ⟨x,s',q'⟩:=r
  rw [hx] at e
  obtain ⟨h1,h2⟩:=ansG_some e
  have h3:=evSO_ok hps l s q x s' q' hx (by rw [h2]; exact ha)
  exact ⟨by rw [h3.1]; exact h1,h3.2⟩
noncomputable def endM (P:Program) (ps:PS) (cs:CS) (sy:List Nat) (fn:Func) (ns:List Nat) (nn F bs id:Nat) (b:Code) (l:List Code) (s:SA) (q:OS):Option (AVal × List (Option AObj) × List Bool):=
 match evT P ps cs sy fn.ntmps nn F bs b s q with
 | some (.exit id',s1,q1)=>cond (Nat.beq id' id) (ansG P fn ns (evSO P ps cs sy fn.ntmps nn F bs l s1 q1)) none
 | some (.ret,s1,q1)=>ansG P fn ns (some (.ret,s1,q1))
 | _=>none
theorem endM_ok {P:Program}{ps:PS}{cs:CS}(hps:PSOk ps cs){sy:List Nat}{fn:Func}{ns:List Nat}{nn F bs id:Nat}{b:Code}{l:List Code}{s:SA}{os:List Bool}{vs:List AVal}{v:AVal}{hc:List (Option AObj)}{ob:List Bool}(h:endM P ps cs sy fn ns nn F bs id b l s ⟨os,vs,[]⟩=some (v,hc,ob)) (ha:allT ob=true) :
  (∃ s1,evC P cs fn.ntmps nn F bs b s=some (.exit id,s1)∧finM P fn ns (evS P cs fn.ntmps nn F bs l s1)=some (v,hc)) ∨ ∃ s1,evC P cs fn.ntmps nn F bs b s=some (.ret,s1)∧finM P fn ns (some (.ret,s1))=some (v,hc):=by
 unfold endM at h
 split at h
 ·rename_i id' s1 q1 he
  cases hb:Nat.beq id' id with
  | false=>rw [hb] at h; cases h
  | true =>
   rw [hb,cond_true] at h
   have:=Nat.eq_of_beq_eq_true hb
   subst this
   obtain ⟨h1,h2⟩:=ansG_ok hps h ha
   exact .inl ⟨s1,(evT_ok hps b _ _ _ _ _ he h2).1,h1⟩
 ·rename_i s1 q1 he
  obtain ⟨h1,h2⟩:=ansG_some h
  exact .inr ⟨s1,(evT_ok hps b _ _ _ _ _ he (by rw [h2]; exact ha)).1,h1⟩
 ·cases h
theorem loopM {P:Program}{ps:PS}{cs:CS}(hps:PSOk ps cs){nn F bs:Nat}{fn:Func}{c:Code}{ns:List Nat}
  (k:Nat) {id:Nat} {b:Code} (hk:(pieces c)[k]? = some (.block id (.loop b))) (I:Nat→SA) (N:Nat) {sy1:List Nat} {os1:List Bool} {vs1:List AVal} {ob1:List Bool}
  (hstep:∀ j,j < N→roundA (evC P cs fn.ntmps nn F bs b) (headA P bs (I 0)) (I j)=some (I (j+1)))
  {v:AVal} {hc:List (Option AObj)} (hend:endM P ps cs sy1 fn ns nn F bs id b ((pieces c).drop (k+1)) (I N) ⟨os1,vs1,[]⟩=some (v,hc,ob1)) (ha1:allT ob1=true) (hF:N < F) :
  finM P fn ns (evS P cs fn.ntmps nn F bs ((pieces c).drop k) (I 0))=some (v,hc):=by
 rcases endM_ok hps hend ha1 with ⟨s1,h1,h2⟩ | ⟨s1,h1,h2⟩
 ·rw [evS_loop hk I N hstep h1 hF]; exact h2
 ·rw [evS_loopR hk I N hstep h1 hF]; exact h2
theorem preM {P:Program}{ps:PS}{cs:CS}(hps:PSOk ps cs){nn F:Nat}{f:FuncId}{fn:Func}{c:Code}{args:List AVal}{H:HL}{fr:Nat}{ns:List Nat}(hf:P.funcs[f]? = some fn) (hb:fn.body=some c) (hn:Nat.ble args.length fn.ntmps=true)
  (k:Nat) {s:SA} {sy0:List Nat} {os0:List Bool} {vs0:List AVal} {ob0:List Bool}
  (hpre:segO (evSO P ps cs sy0 fn.ntmps nn F fr ((pieces c).take k) ⟨startT args 0,H,fr⟩ ⟨os0,vs0,[]⟩)=some (s,ob0)) (ha0:allT ob0=true)
  {v:AVal} {hc:List (Option AObj)} (h:finM P fn ns (evS P cs fn.ntmps nn F fr ((pieces c).drop k) s)=some (v,hc)):ansR ns (run1 P cs nn F f args H fr)=some (v,hc):=by
 rw [run1_M ns hf hb hn]
 have e:pieces c=(pieces c).take k++(pieces c).drop k:=(List.take_append_drop k (pieces c)).symm
 rw [e,evS_append (segO_pre hps hpre ha0)]
 exact h
theorem run_loopM {P:Program}{ps:PS}{cs:CS}(hps:PSOk ps cs){nn F:Nat}{f:FuncId}{fn:Func}{c:Code}{args:List AVal}{H:HL}{fr:Nat}{ns:List Nat}(hf:P.funcs[f]? = some fn) (hb:fn.body=some c) (hn:Nat.ble args.length fn.ntmps=true)
  (k:Nat) {id:Nat} {b:Code} (hk:(pieces c)[k]? = some (.block id (.loop b))) (I:Nat→SA) (N:Nat) {sy0 sy1:List Nat} {os0 os1:List Bool} {vs0 vs1:List AVal} {ob0 ob1:List Bool}
  (hpre:segO (evSO P ps cs sy0 fn.ntmps nn F fr ((pieces c).take k) ⟨startT args 0,H,fr⟩ ⟨os0,vs0,[]⟩)=some (I 0,ob0)) (ha0:allT ob0=true)
  (hstep:∀ j,j < N→roundA (evC P cs fn.ntmps nn F fr b) (headA P fr (I 0)) (I j)=some (I (j+1)))
  {v:AVal} {hc:List (Option AObj)} (hend:endM P ps cs sy1 fn ns nn F fr id b ((pieces c).drop (k+1)) (I N) ⟨os1,vs1,[]⟩=some (v,hc,ob1)) (ha1:allT ob1=true) (hF:N < F):ansR ns (run1 P cs nn F f args H fr)=some (v,hc):=
 preM hps hf hb hn k hpre ha0 (loopM hps k hk I N hstep hend ha1 hF)
theorem runF_ofR {S S2:Type}{P:Program}{cs:CS}{G:Nat}(hG:P.globals.size=G){f:FuncId}{O:Ob S}{O2:Ob S2}{w:Nat}{src:List Nat}{A:List Nat→List AVal}{s:S}{v:List Nat→AVal}{s2:S2}{nn F fr:Nat}(kks:List Nat)
  (h:ansR ((src.map (nmC2 G (O.k s) kks)).take (O2.m s2)) (run1 P cs nn F f (A (canB G (O.k s))) (heapOf (canB G (O.k s)) (O.place (canB G (O.k s)) s)) fr)=some (v (src.map (nmC2 G (O.k s) kks)),(O2.place (src.map (nmC2 G (O.k s) kks)) s2).map fun c=>some (.cells false c)))
  (hkl:kks.length=w) (hkn:nodupB kks=true) (hfr:Nat.ble (G+O.k s) fr=true) (hkk:kks.all (fun q=>Nat.ble fr q)=true):RunF P cs f O O2 w src A s v s2:=by
 subst hG
 unfold ansR at h
 split at h
 ·rename_i v' H' fr' hr
  simp only [Option.some.injEq,Prod.mk.injEq] at h
  obtain ⟨rfl,h2⟩:=h
  refine ⟨nn,F,H',fr,fr',kks,hkl,nodupB_ok hkn,Nat.le_of_ble_eq_true hfr,fun q hq=>Nat.le_of_ble_eq_true (List.all_eq_true.1 hkk q hq),hr,fun i m c h1 h3 => ?_⟩
  have e:=congrArg (fun l=>l[i]?) h2
  simp only [List.getElem?_map] at e
  have him:i < O2.m s2:=by
   have:=(List.getElem?_eq_some_iff.1 h3).1
   rwa [O2.len] at this
  rw [List.getElem?_take,if_pos him,h1,h3] at e
  simp only [Option.map_some,Option.some.injEq] at e
  exact e
 ·cases h
end Go.Eng
namespace Go.Proofs.Ytjdhndicgifnbaa.Tun
open Go Go.Eng Go.Proofs.Ytjdhndicgifnbaa Go.Proofs.Ytjdhndicgifnbaa.Pol
abbrev Dn:=Dc × List UInt64
def qL:List UInt64→Option Nat
 | []=>none
 | a::l=>some (a::l).length
def mkL:List UInt64→List (List AVal)
 | []=>[]
 | a::l=>[(a::l).map .u64]
def dPlace (ns:List Nat) (s:Dn):List (List AVal):=cD (slQ (ns.getD 1 0) (qL s.2)) s.1::mkL s.2
theorem dPlace_len (ns:List Nat) (s:Dn):(dPlace ns s).length=kQ (qL s.2):=by
 obtain ⟨c,L⟩:=s
 cases L <;> rfl
def obD:Ob Dn:=⟨fun s=>kQ (qL s.2),dPlace,fun s=>kQ (qL s.2),dPlace_len,fun _=>Nat.le_refl _⟩
theorem relD (s:Dn):obD.Rel s:=fun ρ ns ns' h1 h2 hρ i c c' e1 e2=>by
 obtain ⟨d,L⟩:=s
 match i,e1,e2 with
 | 0,e1,e2=>cases e1; cases e2; exact relcD _ _ rfl (relQ h1 h2 hρ)
 | 1,e1,e2 =>
  cases L with
  | nil=>simp [obD,dPlace,mkL] at e1
  | cons a l =>
   have e1':some ((a::l).map AVal.u64)=some c:=e1
   have e2':some ((a::l).map AVal.u64)=some c':=e2
   cases e1'; cases e2'
   exact .same (ltL_u64 0 _)
 | i+2,e1,e2=>cases L <;> simp [obD,dPlace,mkL] at e1
def findM (η:Nat→Option AObj):List Nat→Option Nat→Option (List UInt64)
 | _,none=>some []
 | ns,some q=>match η (ns.getD 1 0) with
  | some (.cells false l)=>match unU l with
   | some (a::L)=>cond (Nat.beq q (a::L).length) (some (a::L)) none
   | _=>none
  | _=>none
def findD (t:Nat) (η:Nat→Option AObj):Option (List Nat × Dn):=
 match atF t (decD t) η with
 | some (ns,(s,q))=>match findM η ns q with
  | some L=>some (ns,(s,L))
  | none=>none
 | none=>none
theorem findM_ok {η:Nat→Option AObj}{ns:List Nat}{q:Option Nat}{L:List UInt64}(h:findM η ns q=some L):qL L=q∧∀ a l,L=a::l→η (ns.getD 1 0)=some (.cells false ((a::l).map .u64)):=by
 unfold findM at h
 split at h
 ·cases h; exact ⟨rfl,fun a l e=>by cases e⟩
 ·rename_i ns1 q'
  split at h
  ·rename_i l hη
   split at h
   ·rename_i a L' hu
    cases hq:Nat.beq q' (a::L').length <;> rw [hq] at h <;> simp only [cond_true,cond_false] at h
    ·cases h
    ·cases h
     refine ⟨?_,fun a l e => ?_⟩
     ·rw [Nat.eq_of_beq_eq_true hq]; rfl
     ·cases e
      rw [hη,unU_some hu]
   ·cases h
  ·cases h
theorem findD_ok {t:Nat}{args:List AVal}{A:List Nat→List AVal}(hA:∀ ns:List Nat,ns[0]? = some t→args=A ns){η:Nat→Option AObj}{ns:List Nat}{s:Dn}(h:findD t η=some (ns,s)) :
  ns.length=obD.k s∧(∀ n,n ∈ ns→Known η args n)∧(∀ (i n:Nat) (c:List AVal),ns[i]? = some n→(obD.place ns s)[i]? = some c→η n=some (.cells false c))∧args=A ns:=by
 unfold findD at h
 split at h
 ·rename_i ns' s' q h0
  split at h
  ·rename_i L hL
   cases h
   obtain ⟨e1,e2⟩:=findM_ok hL
   subst e1
   obtain ⟨a1,a2,a3,a4⟩:=decOk_find (O:=obD1) (args:=args) (A:=fun _=>A) (decD_ok t) (fun _=>rfl) (fun s ns _ h=>hA ns h) h0
   refine ⟨a1,a2,fun i n c g1 g2 => ?_,a4⟩
   match i,g1,g2 with
   | 0,g1,g2=>exact a3 0 n c g1 g2
   | 1,g1,g2 =>
    cases L with
    | nil=>simp [obD,dPlace,mkL] at g2
    | cons a l =>
     have g2':some ((a::l).map AVal.u64)=some c:=g2
     cases g2'
     rw [← e2 a l rfl,List.getD_eq_getElem?_getD,g1]; rfl
   | i+2,g1,g2=>cases L <;> simp [obD,dPlace,mkL] at g2
  ·cases h
 ·cases h
def dNs (t m:Nat):List UInt64→List Nat
 | []=>[t]
 | _::_=>[t,m]
theorem findD_at {H:HL}{t m:Nat}{c:Dc}{L:List UInt64}(h0:aget H t=some (.cells false (cD (slQ m (qL L)) c))) (h1:∀ a l,L=a::l→aget H m=some (.cells false ((a::l).map .u64))):findD t (aget H)=some (dNs t m L,(c,L)):=by
 unfold findD atF
 rw [h0]
 simp only [decD_at]
 cases L with
 | nil=>rfl
 | cons a l =>
  simp only [qL,findM,List.getD_cons_succ,List.getD_cons_zero,h1 a l rfl,unU_map]
  have:Nat.beq (a::l).length (a::l).length=true:=Nat.beq_refl _
  rw [this]
  rfl
def roD (t:Nat) (val:Dn→AVal) (ok:Dn→Bool):EffA:=effF obD obD (findD t) 0 (fun s=>List.range (kQ (qL s.2))) (fun _ s=>val s) id ok
def hM (c:Dc) (L:List UInt64):HL:=[(0,.cells false (cD (.slice 1 0 L.length 1) c)),(1,.cells false (L.map .u64))]
def oM (c:Dc) (L:List UInt64):List (Option AObj):=[some (.cells false (cD (.slice 1 0 L.length 1) c)),some (.cells false (L.map .u64))]
def hN (c:Dc):HL:=[(0,.cells false (cD .nilSlice c))]
def oN (c:Dc):List (Option AObj):=[some (.cells false (cD .nilSlice c))]
theorem roD_ok {cs:CS}(hcs:CSOk Try.prog cs){f:FuncId}{t o:Nat}{xs:List AVal}(hx:ltL 0 xs=true){val:Dn→AVal}{ok:Dn→Bool}(hv:∀ s,ltV 0 (val s)=true)
  (h0:∀ c,ok (c,[])=true→∃ nn F,ansR [0] (run1 Try.prog cs nn F f (.ptr 0 o::xs) (hN c) 8)=some (val (c,[]),oN c))
  (h1:∀ c L,L ≠ []→ok (c,L)=true→∃ nn F,ansR [0,1] (run1 Try.prog cs nn F f (.ptr 0 o::xs) (hM c L) 8)=some (val (c,L),oM c L)):CallOk Try.prog f (.ptr t o::xs) (roD t val ok):=
 effF_ok hcs hmix (by decide) (O:=obD) (O2:=obD) (A:=fun _ ns=>.ptr (ns.getD 0 0) o::xs) (fun {η ns s} hf=>findD_ok (A:=fun ns=>.ptr (ns.getD 0 0) o::xs) (fun ns h=>argP0 (ns:=[]) h) hf) fun ⟨c,L⟩ hok =>
  ⟨relD _,relD _,.plain (hv _),nameP0 _ hx,by rw [List.length_range]; rfl,List.nodup_range,fun j hj=>by have:=List.mem_range.1 hj; exact this,fun i j e1 e2=>.inl (by obtain ⟨_,rfl⟩:=range_at e1; exact e2),by
   cases L with
   | nil =>
    obtain ⟨nn,F,h⟩:=h0 c hok
    exact runF_ofR (nn:=nn) (F:=F) (fr:=8) gl [] h rfl rfl rfl rfl
   | cons a l =>
    obtain ⟨nn,F,h⟩:=h1 c (a::l) (by simp) hok
    exact runF_ofR (nn:=nn) (F:=F) (fr:=8) gl [] h rfl rfl rfl rfl⟩
noncomputable def L73:Code:=loopOf ((pieces (bodyOf Try.f73)).getD 3 .skip)
def S73 (c:Dc) (L:List UInt64) (x:UInt64) (i:Nat):SA:=⟨[(0,.ptr 0 10),(2,.u64 0),(3,.bool false),(4,.u64 x),(5,.int .i64 (i:Int))],hM c L,40⟩
section
variable (c:Dc) (L:List UInt64) (x y:UInt64) (i j F:Nat)
theorem p73_3:(pieces (bodyOf Try.f73))[3]? = some (.block 0 (.loop L73)):=by kernel_rfl
theorem w73n:ansM [0] (run1O Try.prog noPS noCS [] [] [] (mask 73) 100 73 [.ptr 0 10] (hN c) 8)=some (.tup [.u64 0,.bool false],oN c,[]):=by kernel_rfl
theorem w73p:segO (evSO Try.prog noPS noCS [] Try.f73.ntmps (mask 73) (F+100) 8 ((pieces (bodyOf Try.f73)).take 3) ⟨startT [.ptr 0 10] 0,hM c L,8⟩ ⟨[],[],[]⟩)=some (S73 c L 0 0,[]):=by kernel_rfl
theorem w73r:roundO2 Try.prog noPS noCS [12,21,22,200014] [true] [.u64 y,.int .i64 (j:Int)] Try.f73.ntmps (mask 73) F 8 L73 (S73 c L 0 0) (S73 c L x i)=some (S73 c L (if x < y then y else x) j,[eqS (.int .i64 (IntKind.wrap .i64 ((i:Int)+1))) (.int .i64 (j:Int)),isAt (L.map .u64) (0+(Int.toNat (i:Int)) * 1) (.u64 y),decide (0≤(i:Int)) && decide ((i:Int) < (L.length:Int)),decide ((i:Int) < (L.length:Int))]):=by kernel_rfl
theorem w73e:endM Try.prog noPS noCS [12] Try.f73 [0,1] (mask 73) F 8 0 L73 ((pieces (bodyOf Try.f73)).drop 4) (S73 c L x i) ⟨[false],[],[]⟩=some (.tup [.u64 x,.bool (decide (0 < (L.length:Int)))],oM c L,[!decide ((i:Int) < (L.length:Int))]):=by kernel_rfl
theorem okM {T:TL}{fr:Nat}(c:Dc) (L:List UInt64) (h1:Nat.ble Try.prog.globals.size fr=true) (h2:Nat.ble 2 fr=true) (h3:ltT fr T=true):okS Try.prog ⟨T,hM c L,fr⟩=true:=by
 have e2:ltL fr (L.map AVal.u64)=true:=ltL_u64 fr L
 have e3:ltH fr (hM c L)=true:=by
  simp only [hM,ltH,e2,cD,ltL,ltS,h2,cond_true]
  have:Nat.ble (1+1) fr=true:=h2
  simp [this]
  have:=Nat.le_of_ble_eq_true h2
  omega
 unfold okS
 simp only [h1,h3,e3]
 rfl
theorem ok73:okS Try.prog (S73 c L x i)=true:=okM c L (by kernel_rfl) rfl rfl
end
def maxU (L:List UInt64):UInt64:=L.foldl (fun x y=>if x < y then y else x) 0
theorem maxU_take {L:List UInt64}{i:Nat}(h:i < L.length):maxU (L.take (i+1))=(if maxU (L.take i) < L.getD i 0 then L.getD i 0 else maxU (L.take i)):=by
 unfold maxU
 rw [List.take_add_one,List.foldl_append,List.getElem?_eq_getElem h,List.getD_eq_getElem?_getD,List.getElem?_eq_getElem h]
 rfl
theorem isAt_u64 {L:List UInt64}{i:Nat}(h:i < L.length):isAt (L.map .u64) (0+(Int.toNat (i:Int)) * 1) (.u64 (L.getD i 0))=true:=by
 refine isAt_of (v:=.u64 (L.getD i 0)) ?_ (by simp [eqS])
 rw [Int.toNat_natCast,show 0+i * 1=i by omega,List.getElem?_map,List.getD_eq_getElem?_getD,List.getElem?_eq_getElem h]
 rfl
theorem eqI1 {i:Nat}(h:i < 1000000000000):eqS (.int .i64 (IntKind.wrap .i64 ((i:Int)+1))) (.int .i64 ((i+1:Nat):Int))=true:=by
 rw [wrapI _ (by omega) (by omega)]
 simp [eqS]
theorem inI {i n:Nat}(h:i < n):(decide (0≤(i:Int)) && decide ((i:Int) < (n:Int)))=true:=by
 simp; omega
theorem ltI {i n:Nat}(h:i < n):decide ((i:Int) < (n:Int))=true:=by simp; omega
theorem run73 (c:Dc) (L:List UInt64) (hL:L ≠ []) (hl:L.length < 1000000000):ansR [0,1] (run1 Try.prog noCS (mask 73) (L.length+100+100) 73 [.ptr 0 10] (hM c L) 8)=some (.tup [.u64 (maxU L),.bool true],oM c L):=by
 have he:=w73e c L (maxU (L.take L.length)) L.length (L.length+100+100)
 have e0:decide (0 < (L.length:Int))=true:=by
  have:0 < L.length:=List.length_pos_iff.2 hL
  simp; omega
 rw [e0,List.take_length] at he
 refine run_loopM (fn:=Try.f73) (noPS_ok _) (by kernel_rfl) (c:=bodyOf Try.f73) (by kernel_rfl) (by kernel_rfl) 3 p73_3 (fun i=>S73 c L (maxU (L.take i)) i) L.length (w73p c L (L.length+100)) rfl (fun i hi => ?_) (by rw [List.take_length]; exact he) ?_ (by omega)
 ·have r:=w73r c L (maxU (L.take i)) (L.getD i 0) i (i+1) (L.length+100+100)
  rw [← maxU_take hi] at r
  exact roundO2_ok (noPS_ok _) r (allT_c (eqI1 (by omega)) (allT_c (isAt_u64 hi) (allT_c (inI hi) (allT_c (ltI hi) rfl)))) (ok73 c L _ _)
 ·have:decide ((L.length:Int) < (L.length:Int))=false:=by simp
  simp only [allT,this,Bool.not_false,cond_true]
def lenOk (s:Dn):Bool:=Nat.blt s.2.length 1000000000
theorem lenOk_lt {s:Dn}(h:lenOk s=true):s.2.length < 1000000000:=by unfold lenOk at h; simpa [Nat.blt_eq] using h
def highD:Dn→AVal
 | (_,[])=>.tup [.u64 0,.bool false]
 | (_,L)=>.tup [.u64 (maxU L),.bool true]
theorem ansR_of {P:Program}{ps:PS}{cs:CS}(hps:PSOk ps cs){sy:List Nat}{os:List Bool}{vs:List AVal}{nn F:Nat}{f:FuncId}{args:List AVal}{H:HL}{fr:Nat}{ns:List Nat}{v:AVal}{hc:List (Option AObj)}{ob:List Bool}
  (h:ansM ns (run1O P ps cs sy os vs nn F f args H fr)=some (v,hc,ob)) (ha:allT ob=true):ansR ns (run1 P cs nn F f args H fr)=some (v,hc):=by
 unfold ansM at h
 split at h
 ·rename_i v' H' fr' ob' hr
  simp only [Option.some.injEq,Prod.mk.injEq] at h
  obtain ⟨rfl,rfl,rfl⟩:=h
  rw [run1O_ok hps hr ha]
  rfl
 ·cases h
def g73:List AVal→Option EffA
 | [.ptr t 10]=>some (roD t highD lenOk)
 | _=>none
theorem g73_ok:CSOk Try.prog (csOne 73 g73):=csOne_ok fun args e he=>by
 unfold g73 at he
 split at he
 ·cases he
  refine roD_ok (noCS_ok _) rfl (fun s => ?_) (fun c h=>⟨mask 73,100,ansR_of (noPS_ok _) (w73n c) rfl⟩) fun c L hL h=>⟨mask 73,L.length+100+100,?_⟩
  ·obtain ⟨c,L⟩:=s
   cases L <;> rfl
  ·have:=run73 c L hL (lenOk_lt h)
   cases L with
   | nil=>exact absurd rfl hL
   | cons a l=>exact this
 ·cases he
end Go.Proofs.Ytjdhndicgifnbaa.Tun
namespace Go.Proofs.Ytjdhndicgifnbaa.Tun
open Go Go.Eng Go.Proofs.Ytjdhndicgifnbaa Go.Proofs.Ytjdhndicgifnbaa.Pol
theorem mRoM {val:Dn→AVal}{ok:Dn→Bool}{c:Dc}{L:List UInt64}{base:Nat}(hL:L ≠ []) (hb:nodupB [0,1]=true) (ho:ok (c,L)=true):mOb (roD 0 val ok) base (hM c L) (val (c,L)) (hM c L)=true:=by
 refine decP_of ?_
 cases L with
 | nil=>exact absurd rfl hL
 | cons a l =>
  unfold roD
  rw [effF_app (w:=0) (H:=hM c (a::l)) (O:=obD) (O2:=obD) (ns:=[0,1]) (s:=(c,a::l)) (findD_at (t:=0) (m:=1) (L:=a::l) rfl (fun a' l' e=>by cases e; rfl)) hb ho]
  rfl
theorem mRoN {val:Dn→AVal}{ok:Dn→Bool}{c:Dc}{base:Nat}(hb:nodupB [0]=true) (ho:ok (c,[])=true):mOb (roD 0 val ok) base (hN c) (val (c,[])) (hN c)=true:=by
 refine decP_of ?_
 unfold roD
 rw [effF_app (w:=0) (H:=hN c) (O:=obD) (O2:=obD) (ns:=[0]) (s:=(c,[])) (findD_at (t:=0) (m:=1) (L:=[]) rfl (fun a' l' e=>by cases e)) hb ho]
 rfl
noncomputable def o73 (base:Nat) (c:Dc) (L:List UInt64) (x:UInt64):Bool:=mOb (roD 0 highD lenOk) base (hM c L) (.tup [.u64 x,.bool true]) (hM c L)
noncomputable def o73n (base:Nat) (c:Dc):Bool:=mOb (roD 0 highD lenOk) base (hN c) (.tup [.u64 0,.bool false]) (hN c)
theorem o73_ok {base:Nat}{c:Dc}{L:List UInt64}(hL:L ≠ []) (h:lenOk (c,L)=true):o73 base c L (maxU L)=true:=by
 have:=mRoM (val:=highD) (ok:=lenOk) (c:=c) (L:=L) (base:=base) hL rfl h
 cases L with
 | nil=>exact absurd rfl hL
 | cons a l=>exact this
theorem o73n_ok {base:Nat}{c:Dc}:o73n base c=true:=mRoN (val:=highD) (ok:=lenOk) (c:=c) (base:=base) rfl rfl
def cs57:CS:=csOne 73 g73
def sy57:List Nat:=[300010,13,17,28,36,44,45,47,200038]
def bkM (c:Dc) (L:List UInt64):AVal:=.tup [.ptr 0 0,.agg (cD (.slice 1 0 L.length 1) c),.ptr 1 0,.agg (L.map .u64)]
def bkN1 (c:Dc):AVal:=.tup [.ptr 0 0,.agg (cD .nilSlice c)]
noncomputable def L57:Code:=loopOf ((pieces (bodyOf Try.f57)).getD 5 .skip)
def S57 (c:Dc) (L:List UInt64) (n x:UInt64) (i:Nat):SA:=⟨[(0,.ptr 0 10),(1,.u64 n),(4,.int .i64 0),(5,.u64 x),(6,.bool true),(29,.bool false),(7,.int .i64 (i:Int))],hM c L,216⟩
section
variable (c:Dc) (L:List UInt64) (n x y:UInt64) (i j F:Nat)
theorem p57_5:(pieces (bodyOf Try.f57))[5]? = some (.block 0 (.loop L57)):=by kernel_rfl
theorem w57n:ansM [0] (run1O Try.prog noPS cs57 sy57 [false] [.tup [.u64 0,.bool false],bkN1 c] (mask 57) 100 57 [.ptr 0 10,.u64 n] (hN c) 8)=some (.int .i64 0,oN c,[true,o73n 24 c]):=by kernel_rfl
theorem w57o:ansM [0,1] (run1O Try.prog noPS cs57 sy57 [true,true,true] [.tup [.u64 x,.bool true],bkM c L] (mask 57) 100 57 [.ptr 0 10,.u64 n] (hM c L) 8)=some (.int .i64 170,oM c L,[decide (UInt64.ofInt c.size≤x - n),decide (n < x),true,o73 24 c L x]):=by kernel_rfl
theorem w57p:segO (evSO Try.prog noPS cs57 sy57 Try.f57.ntmps (mask 57) (F+100) 8 ((pieces (bodyOf Try.f57)).take 5) ⟨startT [.ptr 0 10,.u64 n] 0,hM c L,8⟩ ⟨[true,true,false],[.tup [.u64 x,.bool true],bkM c L],[]⟩)=some (S57 c L n x 0,[!decide (UInt64.ofInt c.size≤x - n),decide (n < x),true,o73 24 c L x]):=by kernel_rfl
theorem w57q:segO (evSO Try.prog noPS cs57 sy57 Try.f57.ntmps (mask 57) (F+100) 8 ((pieces (bodyOf Try.f57)).take 5) ⟨startT [.ptr 0 10,.u64 n] 0,hM c L,8⟩ ⟨[true,false],[.tup [.u64 x,.bool true],bkM c L],[]⟩)=some (S57 c L n x 0,[!decide (n < x),true,o73 24 c L x]):=by kernel_rfl
theorem w57r:roundO2 Try.prog noPS cs57 sy57 [true,false] [.u64 y,.int .i64 (j:Int)] Try.f57.ntmps (mask 57) F 8 L57 (S57 c L n x 0) (S57 c L n x i)=some (S57 c L n x j,[eqS (.int .i64 (IntKind.wrap .i64 ((i:Int)+1))) (.int .i64 (j:Int)),!(y == n),isAt (L.map .u64) (0+(Int.toNat (i:Int)) * 1) (.u64 y),decide (0≤(i:Int)) && decide ((i:Int) < (L.length:Int)),decide ((i:Int) < (L.length:Int))]):=by kernel_rfl
theorem w57f:endM Try.prog noPS cs57 sy57 Try.f57 [0,1] (mask 57) F 8 0 L57 ((pieces (bodyOf Try.f57)).drop 6) (S57 c L n x i) ⟨[true,true],[.u64 y],[]⟩=some (.int .i64 9,oM c L,[y == n,isAt (L.map .u64) (0+(Int.toNat (i:Int)) * 1) (.u64 y),decide (0≤(i:Int)) && decide ((i:Int) < (L.length:Int)),decide ((i:Int) < (L.length:Int))]):=by kernel_rfl
theorem w57e:endM Try.prog noPS cs57 sy57 Try.f57 [0,1] (mask 57) F 8 0 L57 ((pieces (bodyOf Try.f57)).drop 6) (S57 c L n x i) ⟨[false],[],[]⟩=some (.int .i64 0,oM c L,[!decide ((i:Int) < (L.length:Int))]):=by kernel_rfl
theorem ok57:okS Try.prog (S57 c L n x i)=true:=okM c L (by kernel_rfl) rfl rfl
end
def mayR (n:UInt64):Dn→Int
 | (_,[])=>0
 | (c,L)=>cond (decide (n < maxU L) && decide (UInt64.ofInt c.size≤maxU L - n)) 170 (cond (L.contains n) 9 0)
theorem first_at_n {L:List UInt64}{n:UInt64}(h:L.contains n=true):∃ N,N < L.length∧L.getD N 0=n∧∀ i,i < N→L.getD i 0 ≠ n:=by
 induction L with
 | nil=>simp at h
 | cons a l ih =>
  by_cases e:a=n
  ·subst e; exact ⟨0,by simp,rfl,fun i hi=>by omega⟩
  ·have h':l.contains n=true:=by
    rw [List.contains_cons] at h
    have:(n == a)=false:=by simpa using fun h=>e h.symm
    rw [this,Bool.false_or] at h; exact h
   obtain ⟨N,h1,h2,h3⟩:=ih h'
   refine ⟨N+1,by simpa using h1,h2,fun i hi => ?_⟩
   cases i with
   | zero=>exact e
   | succ i=>exact h3 i (by omega)
theorem none_at_n {L:List UInt64}{n:UInt64}(h:L.contains n=false){i:Nat}(hi:i < L.length):L.getD i 0 ≠ n:=by
 intro e
 rw [List.getD_eq_getElem?_getD,List.getElem?_eq_getElem hi] at e
 have e:L[i]=n:=e
 have:L.contains n=true:=by
  rw [List.contains_iff_mem,← e]; exact List.getElem_mem hi
 rw [h] at this; cases this
theorem loop57 (c:Dc) (L:List UInt64) (n x:UInt64) (hl:L.length < 1000000000){F:Nat}(hF:L.length < F):finM Try.prog Try.f57 [0,1] (evS Try.prog cs57 Try.f57.ntmps (mask 57) F 8 ((pieces (bodyOf Try.f57)).drop 5) (S57 c L n x 0))=some (.int .i64 (cond (L.contains n) 9 0),oM c L):=by
 have step:∀ N,N≤L.length→(∀ i,i < N→L.getD i 0 ≠ n)→∀ i,i < N→roundA (evC Try.prog cs57 Try.f57.ntmps (mask 57) F 8 L57) (headA Try.prog 8 (S57 c L n x 0)) (S57 c L n x i)=some (S57 c L n x (i+1)):=fun N hN hne i hi=>by
  have hiL:i < L.length:=by omega
  have r:=w57r c L n x (L.getD i 0) i (i+1) F
  have:(!(L.getD i 0 == n))=true:=by simpa using hne i hi
  exact roundO2_ok (noPS_ok _) r (allT_c (eqI1 (by omega)) (allT_c this (allT_c (isAt_u64 hiL) (allT_c (inI hiL) (allT_c (ltI hiL) rfl))))) (ok57 c L n x _)
 cases hc:L.contains n with
 | true =>
  obtain ⟨N,h1,h2,h3⟩:=first_at_n hc
  have e:=w57f c L n x (L.getD N 0) N F
  exact loopM (noPS_ok _) 5 p57_5 (fun i=>S57 c L n x i) N (step N (by omega) h3) e (allT_c (by rw [h2]; exact beq_self_eq_true n) (allT_c (isAt_u64 h1) (allT_c (inI h1) (allT_c (ltI h1) rfl)))) (by omega)
 | false =>
  have e:=w57e c L n x L.length F
  have:decide ((L.length:Int) < (L.length:Int))=false:=by simp
  exact loopM (noPS_ok _) 5 p57_5 (fun i=>S57 c L n x i) L.length (step L.length (Nat.le_refl _) (fun i hi=>none_at_n hc hi)) e (allT_c (by rw [this]; rfl) rfl) hF
theorem run57 (c:Dc) (L:List UInt64) (n:UInt64) (hL:L ≠ []) (hl:L.length < 1000000000):∃ F,ansR [0,1] (run1 Try.prog cs57 (mask 57) F 57 [.ptr 0 10,.u64 n] (hM c L) 8)=some (.int .i64 (mayR n (c,L)),oM c L):=by
 have hv:mayR n (c,L)=cond (decide (n < maxU L) && decide (UInt64.ofInt c.size≤maxU L - n)) 170 (cond (L.contains n) 9 0):=by
  cases L with
  | nil=>exact absurd rfl hL
  | cons a l=>rfl
 have ho:o73 24 c L (maxU L)=true:=o73_ok hL (by unfold lenOk; simpa [Nat.blt_eq] using hl)
 have hlp:=loop57 c L n (maxU L) hl (F:=L.length+100+100) (by omega)
 rw [hv]
 cases h1:decide (n < maxU L) with
 | false =>
  exact ⟨_,preM (noPS_ok _) (fn:=Try.f57) (c:=bodyOf Try.f57) (by kernel_rfl) (by kernel_rfl) (by kernel_rfl) 5 (w57q c L n (maxU L) (L.length+100)) (allT_c (by rw [h1]; rfl) (allT_c rfl (allT_c ho rfl))) hlp⟩
 | true =>
  cases h2:decide (UInt64.ofInt c.size≤maxU L - n) with
  | true =>
   exact ⟨100,ansR_of (noPS_ok _) (w57o c L n (maxU L)) (allT_c h2 (allT_c h1 (allT_c rfl (allT_c ho rfl))))⟩
  | false =>
   exact ⟨_,preM (noPS_ok _) (fn:=Try.f57) (c:=bodyOf Try.f57) (by kernel_rfl) (by kernel_rfl) (by kernel_rfl) 5 (w57p c L n (maxU L) (L.length+100)) (allT_c (by rw [h2]; rfl) (allT_c h1 (allT_c rfl (allT_c ho rfl)))) hlp⟩
def g57:List AVal→Option EffA
 | [.ptr t 10,.u64 n]=>some (roD t (fun s=>.int .i64 (mayR n s)) lenOk)
 | _=>none
theorem g57_ok:CSOk Try.prog (csOne 57 g57):=csOne_ok fun args e he=>by
 unfold g57 at he
 split at he
 ·rename_i t n
  cases he
  refine roD_ok (val:=fun s=>.int .i64 (mayR n s)) g73_ok rfl (fun s=>rfl) (fun c h=>⟨mask 57,100,ansR_of (noPS_ok _) (w57n c n) (allT_c rfl (allT_c o73n_ok rfl))⟩) fun c L hL h => ?_
  obtain ⟨F,hF⟩:=run57 c L n hL (lenOk_lt h)
  exact ⟨_,F,hF⟩
 ·cases he
end Go.Proofs.Ytjdhndicgifnbaa.Tun
namespace Go.Proofs.Ytjdhndicgifnbaa.Tun
open Go Go.Eng Go.Proofs.Ytjdhndicgifnbaa Go.Proofs.Ytjdhndicgifnbaa.Pol
def markR (n:UInt64) (s:Dn):Dn:=cond (mayR n s == 0) (s.1,s.2++[n]) s
def srcM (n:UInt64) (s:Dn):List Nat:=cond (mayR n s == 0) [0,kQ (qL s.2)] (List.range (kQ (qL s.2)))
noncomputable def o57n (base:Nat) (n:UInt64) (c:Dc) (e:Int):Bool:=mOb (roD 0 (fun s=>.int .i64 (mayR n s)) lenOk) base (hN c) (.int .i64 e) (hN c)
noncomputable def o57 (base:Nat) (n:UInt64) (c:Dc) (L:List UInt64) (e:Int):Bool:=mOb (roD 0 (fun s=>.int .i64 (mayR n s)) lenOk) base (hM c L) (.int .i64 e) (hM c L)
theorem o57n_ok {base:Nat}{n:UInt64}{c:Dc}:o57n base n c (mayR n (c,[]))=true:=mRoN (val:=fun s=>.int .i64 (mayR n s)) (ok:=lenOk) (c:=c) (base:=base) rfl rfl
theorem o57_ok {base:Nat}{n:UInt64}{c:Dc}{L:List UInt64}(hL:L ≠ []) (h:lenOk (c,L)=true):o57 base n c L (mayR n (c,L))=true:=mRoM (val:=fun s=>.int .i64 (mayR n s)) (ok:=lenOk) (c:=c) (L:=L) (base:=base) hL rfl h
def sy59:List Nat:=[300008,10,18]
def appO (L:List UInt64) (n:UInt64):Bool:=Nat.ble (0+(1 * 1)) (List.length [AVal.u64 n]) && (((Nat.ble ((L.length+1) * 8) 140737488355328 && Nat.ble (L.length+1) 140737488355328) && ([AVal.u64 n]).all oneA) && Nat.ble (0+L.length * 1) (L.map AVal.u64).length)
section
variable (c:Dc) (L:List UInt64) (n:UInt64) (e:Int)
theorem w59a:ansM [0] (run1O Try.prog noPS (csOne 57 g57) sy59 [false] [.int .i64 e,bkN1 c] (mask 59) 100 59 [.ptr 0 10,.u64 n] (hN c) 8)=some (.int .i64 e,oN c,[!(e == 0),o57n 32 n c e]):=by kernel_rfl
theorem w59b:ansM [0,120] (run1O Try.prog noPS (csOne 57 g57) [300008,10] [true] [.int .i64 e,bkN1 c] (mask 59) 100 59 [.ptr 0 10,.u64 n] (hN c) 8)=some (.int .i64 e,[some (.cells false (cD (.slice 120 0 1 1) c)),some (.cells false [.u64 n])],[e == 0,o57n 32 n c e]):=by kernel_rfl
theorem w59c:ansM [0,1] (run1O Try.prog noPS (csOne 57 g57) sy59 [false] [.int .i64 e,bkM c L] (mask 59) 100 59 [.ptr 0 10,.u64 n] (hM c L) 8)=some (.int .i64 e,oM c L,[!(e == 0),o57 32 n c L e]):=by kernel_rfl
theorem w59d:ansM [0,120] (run1O Try.prog noPS (csOne 57 g57) sy59 [true] [.int .i64 e,bkM c L] (mask 59) 100 59 [.ptr 0 10,.u64 n] (hM c L) 8)=some (.int .i64 e,[some (.cells false (cD (.slice 120 0 (L.length+1) 1) c)),some (.cells false ((L.map AVal.u64).take (L.length * 1)++[.u64 n]))],[appO L n,e == 0,o57 32 n c L e]):=by kernel_rfl
end
theorem appO_ok {L:List UInt64}(n:UInt64) (h:L.length < 1000000000):appO L n=true:=by
 unfold appO
 have e1:Nat.ble ((L.length+1) * 8) 140737488355328=true:=Nat.ble_eq_true_of_le (by omega)
 have e2:Nat.ble (L.length+1) 140737488355328=true:=Nat.ble_eq_true_of_le (by omega)
 have e3:Nat.ble (0+L.length * 1) (L.map AVal.u64).length=true:=Nat.ble_eq_true_of_le (by simp)
 rw [e1,e2,e3]
 rfl
theorem lastU (L:List UInt64) (n:UInt64):(L.map AVal.u64).take (L.length * 1)++[AVal.u64 n]=(L++[n]).map AVal.u64:=by
 rw [List.take_of_length_le (by simp)]
 simp
def meM (t:Nat) (n:UInt64):EffA:=effF obD obD (findD t) 1 (srcM n) (fun _ s=>.int .i64 (mayR n s)) (markR n) lenOk
def g59:List AVal→Option EffA
 | [.ptr t 10,.u64 n]=>some (meM t n)
 | _=>none
theorem g59_ok:CSOk Try.prog (csOne 59 g59):=csOne_ok fun args e he=>by
 unfold g59 at he
 split at he
 ·rename_i t n
  cases he
  refine effF_ok g57_ok hmix (by decide) (O:=obD) (O2:=obD) (A:=fun _ ns=>.ptr (ns.getD 0 0) 10::[.u64 n]) (fun {η ns s} hf=>findD_ok (A:=fun ns=>.ptr (ns.getD 0 0) 10::[.u64 n]) (fun ns h=>argP0 (ns:=[]) h) hf) fun ⟨c,L⟩ hok => ?_
  have hlen:=lenOk_lt hok
  refine ⟨relD _,relD _,.plain rfl,nameP0 _ rfl,?_⟩
  cases h0:(mayR n (c,L) == 0) with
  | false =>
   have es:srcM n (c,L)=List.range (kQ (qL L)):=by unfold srcM; rw [h0]; rfl
   have em:markR n (c,L)=(c,L):=by unfold markR; rw [h0]; rfl
   rw [es,em]
   have h0':(!(mayR n (c,L) == 0))=true:=by rw [h0]; rfl
   refine ⟨by rw [List.length_range]; rfl,List.nodup_range,fun j hj=>by have:=List.mem_range.1 hj; show j < kQ (qL L)+1; omega,fun i j e1 e2=>.inl (by obtain ⟨_,rfl⟩:=range_at e1; exact e2),?_⟩
   cases L with
   | nil=>exact runF_ofR (nn:=mask 59) (F:=100) (fr:=8) gl [120] (ansR_of (noPS_ok _) (w59a c n _) (allT_c h0' (allT_c o57n_ok rfl))) rfl rfl rfl rfl
   | cons a l=>exact runF_ofR (nn:=mask 59) (F:=100) (fr:=8) gl [120] (ansR_of (noPS_ok _) (w59c c (a::l) n _) (allT_c h0' (allT_c (o57_ok (by simp) hok) rfl))) rfl rfl rfl rfl
  | true =>
   have es:srcM n (c,L)=[0,kQ (qL L)]:=by unfold srcM; rw [h0]; rfl
   have em:markR n (c,L)=(c,L++[n]):=by unfold markR; rw [h0]; rfl
   rw [es,em]
   cases L with
   | nil =>
    refine ⟨rfl,show [0,1].Nodup by decide,fun j hj => ?_,fun i j e1 e2 => ?_,runF_ofR (nn:=mask 59) (F:=100) (fr:=8) gl [120] (ansR_of (noPS_ok _) (w59b c n _) (allT_c h0 (allT_c o57n_ok rfl))) rfl rfl rfl rfl⟩
    ·show j < 1+1
     have:j=0 ∨ j=1:=by simpa [kQ,qL] using hj
     omega
    ·match i,e1 with
     | 0,e1=>cases e1; exact .inl (show 0 < 1 by decide)
     | 1,e1=>cases e1; exact .inr (Nat.le_refl _)
     | i+2,e1=>simp at e1
   | cons a l =>
    have r:=ansR_of (noPS_ok _) (w59d c (a::l) n _) (allT_c (appO_ok n hlen) (allT_c h0 (allT_c (o57_ok (by simp) hok) rfl)))
    rw [lastU] at r
    have hk:((a::l).length+1)=(a::l++[n]).length:=by simp
    rw [hk] at r
    refine ⟨rfl,show [0,2].Nodup by decide,fun j hj => ?_,fun i j e1 e2 => ?_,runF_ofR (nn:=mask 59) (F:=100) (fr:=8) gl [120] r rfl rfl rfl rfl⟩
    ·show j < 2+1
     have:j=0 ∨ j=2:=by simpa [kQ,qL] using hj
     omega
    ·match i,e1 with
     | 0,e1=>cases e1; exact .inl (by show 0 < 2; decide)
     | 1,e1=>cases e1; exact .inr (Nat.le_refl _)
     | i+2,e1=>simp at e1
 ·cases he
end Go.Proofs.Ytjdhndicgifnbaa.Tun
namespace Go.Proofs.Ytjdhndicgifnbaa.Tun
open Go Go.Eng Go.Proofs.Ytjdhndicgifnbaa Go.Proofs.Ytjdhndicgifnbaa.Pol
def csE (φ:Ae.Fn):CS:=csAlt (csD φ) (csAlt (csOne 57 g57) (csOne 59 g59))
theorem csE_ok:CSOk Try.prog (csE Ae.realFn):=csAlt_ok csD_ok (csAlt_ok g57_ok g59_ok)
theorem csE_ps:PSOk (Ae.psn Ae.realFn) (csE Ae.realFn):=fun f args v h=>by
 unfold csE csD csAlt csP
 simp only [h,cond_true]
def sy35:List Nat:=[14,22,300028,30,40,44,300050]
def sureD (c:Dc):Dc:={ c with sure:=true }
def hN2 (c:Dc) (n:UInt64):HL:=[(0,.cells false (cD (.slice 336 0 1 1) c)),(336,.cells false [.u64 n])]
def hM2 (c:Dc) (L:List UInt64) (n:UInt64):HL:=[(0,.cells false (cD (.slice 336 0 (L.length+1) 1) c)),(336,.cells false ((L++[n]).map .u64))]
noncomputable def o59n (n:UInt64) (c:Dc) (r:Int):Bool:=mOb (meM 0 n) 336 (hN c) (.int .i64 r) (hN2 c n)
noncomputable def o59 (n:UInt64) (c:Dc) (L:List UInt64) (r:Int):Bool:=mOb (meM 0 n) 336 (hM c L) (.int .i64 r) (hM2 c L n)
theorem o59n_ok {n:UInt64}{c:Dc}(h:mayR n (c,[])=0):o59n n c 0=true:=by
 refine decP_of ?_
 have e1:srcM n (c,[])=[0,1]:=by unfold srcM; rw [h]; rfl
 have e2:markR n (c,[])=(c,[n]):=by unfold markR; rw [h]; rfl
 unfold meM
 rw [effF_app (w:=1) (H:=hN c) (O:=obD) (O2:=obD) (ns:=[0]) (s:=(c,[])) (findD_at (t:=0) (m:=1) (L:=[]) rfl (fun a' l' e=>by cases e)) rfl rfl,e1,e2,h]
 rfl
theorem o59_ok {n:UInt64}{c:Dc}{L:List UInt64}(hL:L ≠ []) (hl:lenOk (c,L)=true) (h:mayR n (c,L)=0):o59 n c L 0=true:=by
 cases L with
 | nil=>exact absurd rfl hL
 | cons a l =>
  refine decP_of ?_
  have e1:srcM n (c,a::l)=[0,2]:=by unfold srcM; rw [h]; rfl
  have e2:markR n (c,a::l)=(c,a::l++[n]):=by unfold markR; rw [h]; rfl
  unfold meM
  rw [effF_app (w:=1) (H:=hM c (a::l)) (O:=obD) (O2:=obD) (ns:=[0,1]) (s:=(c,a::l)) (findD_at (t:=0) (m:=1) (L:=a::l) rfl (fun a' l' e=>by cases e; rfl)) rfl hl,e1,e2,h]
  have hk:((a::l).length+1)=(a::l++[n]).length:=by simp
  unfold hM2
  rw [hk]
  rfl
section
variable (φ:Ae.Fn) (c:Dc) (L:List UInt64) (now n:UInt64) (t:List UInt8) (e r:Int)
theorem w35na:ansM [0] (run1O Try.prog (Ae.psn φ) (csE φ) sy35 [true] [] (mask 35) 100 35 [.ptr 0 0,.u64 now,.u64 n,.str t] (hN c) 8)=some (.tup [.str [],.int .i64 180],oN c,[overD now c]):=by kernel_rfl
theorem w35nb:ansM [0] (run1O Try.prog (Ae.psn φ) (csE φ) sy35 [false,true] [] (mask 35) 100 35 [.ptr 0 0,.u64 now,.u64 n,.str t] (hN c) 8)=some (.tup [.str [],.int .i64 180],oN c,[decide (c.ct≤n),!overD now c]):=by kernel_rfl
theorem w35nc:ansM [0] (run1O Try.prog (Ae.psn φ) (csE φ) sy35 [false,false,true] [.int .i64 e,bkN1 c] (mask 35) 100 35 [.ptr 0 0,.u64 now,.u64 n,.str t] (hN c) 8)=some (.tup [.str [],.int .i64 e],oN c,[e != 0,o57n 152 n c e,!decide (c.ct≤n),!overD now c]):=by kernel_rfl
theorem w35nd:ansM [0] (run1O Try.prog (Ae.psn φ) (csE φ) sy35 [false,false,false,true] [.int .i64 e,bkN1 c] (mask 35) 100 35 [.ptr 0 0,.u64 now,.u64 n,.str t] (hN c) 8)=some (.tup [.str [],.int .i64 (φ.wr c.recv (Ae.nonL n) [] t)],oN c,[φ.wr c.recv (Ae.nonL n) [] t != 0,φ.sl t,!(e != 0),o57n 152 n c e,!decide (c.ct≤n),!overD now c]):=by kernel_rfl
theorem w35ne:ansM [0,336] (run1O Try.prog (Ae.psn φ) (csE φ) sy35 [false,false,false,false] [.int .i64 e,bkN1 c,.int .i64 r,.tup [.ptr 0 0,.agg (cD (.slice 336 0 1 1) c),.ptr 336 0,.agg [.u64 n]]] (mask 35) 100 35 [.ptr 0 0,.u64 now,.u64 n,.str t] (hN c) 8)=some (.tup [.str (φ.ov c.recv (Ae.nonL n) [] t),.int .i64 0],[some (.cells false (cD (.slice 336 0 1 1) (sureD c))),some (.cells false [.u64 n])],[o59n n c r,!(φ.wr c.recv (Ae.nonL n) [] t != 0),φ.sl t,!(e != 0),o57n 152 n c e,!decide (c.ct≤n),!overD now c]):=by kernel_rfl
theorem w35ma:ansM [0,1] (run1O Try.prog (Ae.psn φ) (csE φ) sy35 [true] [] (mask 35) 100 35 [.ptr 0 0,.u64 now,.u64 n,.str t] (hM c L) 8)=some (.tup [.str [],.int .i64 180],oM c L,[overD now c]):=by kernel_rfl
theorem w35mb:ansM [0,1] (run1O Try.prog (Ae.psn φ) (csE φ) sy35 [false,true] [] (mask 35) 100 35 [.ptr 0 0,.u64 now,.u64 n,.str t] (hM c L) 8)=some (.tup [.str [],.int .i64 180],oM c L,[decide (c.ct≤n),!overD now c]):=by kernel_rfl
theorem w35mc:ansM [0,1] (run1O Try.prog (Ae.psn φ) (csE φ) sy35 [false,false,true] [.int .i64 e,bkM c L] (mask 35) 100 35 [.ptr 0 0,.u64 now,.u64 n,.str t] (hM c L) 8)=some (.tup [.str [],.int .i64 e],oM c L,[e != 0,o57 152 n c L e,!decide (c.ct≤n),!overD now c]):=by kernel_rfl
theorem w35md:ansM [0,1] (run1O Try.prog (Ae.psn φ) (csE φ) sy35 [false,false,false,true] [.int .i64 e,bkM c L] (mask 35) 100 35 [.ptr 0 0,.u64 now,.u64 n,.str t] (hM c L) 8)=some (.tup [.str [],.int .i64 (φ.wr c.recv (Ae.nonL n) [] t)],oM c L,[φ.wr c.recv (Ae.nonL n) [] t != 0,φ.sl t,!(e != 0),o57 152 n c L e,!decide (c.ct≤n),!overD now c]):=by kernel_rfl
theorem w35me:ansM [0,336] (run1O Try.prog (Ae.psn φ) (csE φ) sy35 [false,false,false,false] [.int .i64 e,bkM c L,.int .i64 r,.tup [.ptr 0 0,.agg (cD (.slice 336 0 (L.length+1) 1) c),.ptr 336 0,.agg ((L++[n]).map .u64),.ptr 1 0,.nilMap]] (mask 35) 100 35 [.ptr 0 0,.u64 now,.u64 n,.str t] (hM c L) 8)=some (.tup [.str (φ.ov c.recv (Ae.nonL n) [] t),.int .i64 0],[some (.cells false (cD (.slice 336 0 (L.length+1) 1) (sureD c))),some (.cells false ((L++[n]).map .u64))],[o59 n c L r,!(φ.wr c.recv (Ae.nonL n) [] t != 0),φ.sl t,!(e != 0),o57 152 n c L e,!decide (c.ct≤n),!overD now c]):=by kernel_rfl
end
def openDG (now n:UInt64) (t:List UInt8) (s:Dn):Bool:=!overD now s.1 && (!decide (s.1.ct≤n) && (!(mayR n s != 0) && !((Ae.opF s.1.recv (Ae.nonL n) [] t).2 != 0)))
def openDE (now n:UInt64) (t:List UInt8) (s:Dn):Int:=cond (overD now s.1) 180 (cond (decide (s.1.ct≤n)) 180 (cond (mayR n s != 0) (mayR n s) (Ae.opF s.1.recv (Ae.nonL n) [] t).2))
def openDV (now n:UInt64) (t:List UInt8) (s:Dn):AVal:=cond (openDG now n t s) (.tup [.str (Ae.opF s.1.recv (Ae.nonL n) [] t).1,.int .i64 0]) (.tup [.str [],.int .i64 (openDE now n t s)])
def openDN (now n:UInt64) (t:List UInt8) (s:Dn):Dn:=cond (openDG now n t s) (sureD s.1,s.2++[n]) s
def srcO (now n:UInt64) (t:List UInt8) (s:Dn):List Nat:=cond (openDG now n t s) [0,kQ (qL s.2)] (List.range (kQ (qL s.2)))
theorem lt_openDV (now n:UInt64) (t:List UInt8) (s:Dn):ltV 0 (openDV now n t s)=true:=by
 unfold openDV
 cases openDG now n t s <;> rfl
def meO (p:Nat) (now n:UInt64) (t:List UInt8):EffA:=effF obD obD (findD p) 1 (srcO now n t) (fun _ s=>openDV now n t s) (openDN now n t) lenOk
def g35:List AVal→Option EffA
 | [.ptr p 0,.u64 now,.u64 n,.str t]=>cond (Ae.slR t) (some (meO p now n t)) none
 | _=>none
theorem range_k {k:Nat}:∀ j,j ∈ List.range k→j < k+1:=fun j hj=>by have:=List.mem_range.1 hj; omega
def R35 (now n:UInt64) (t:List UInt8) (c:Dc) (L:List UInt64):Prop:=RunF Try.prog (csE Ae.realFn) 35 obD obD 1 (srcO now n t (c,L)) (fun ns=>.ptr (ns.getD 0 0) 0::[.u64 now,.u64 n,.str t]) (c,L) (fun _=>openDV now n t (c,L)) (openDN now n t (c,L))
theorem run35n (now n:UInt64) (t:List UInt8) (ht:Ae.slR t=true) (c:Dc) (hok:lenOk (c,[])=true):R35 now n t c []:=by
 unfold R35 srcO openDV openDN openDG openDE
 have hs:Ae.realFn.sl t=true:=ht
 have h5:=o57n_ok (base:=152) (n:=n) (c:=c)
 cases h0:overD now c with
 | true=>exact runF_ofR (nn:=mask 35) (F:=100) (fr:=8) gl [336] (ansR_of csE_ps (w35na Ae.realFn c now n t ) (allT_c h0 rfl)) rfl rfl rfl rfl
 | false =>
  simp only [h0,Bool.not_false,Bool.true_and,cond_false]
  have n0:(!overD now c)=true:=by rw [h0]; rfl
  cases h1:decide (c.ct≤n) with
  | true =>
   simp only [Bool.not_true,Bool.false_and,cond_false,cond_true]
   exact runF_ofR (nn:=mask 35) (F:=100) (fr:=8) gl [336] (ansR_of csE_ps (w35nb Ae.realFn c now n t ) (allT_c h1 (allT_c n0 rfl))) rfl rfl rfl rfl
  | false =>
   simp only [Bool.not_false,Bool.true_and,cond_false]
   have n1:(!decide (c.ct≤n))=true:=by rw [h1]; rfl
   cases h2:(mayR n (c,[]) != 0) with
   | true =>
    simp only [Bool.not_true,Bool.false_and,cond_false,cond_true]
    exact runF_ofR (nn:=mask 35) (F:=100) (fr:=8) gl [336] (ansR_of csE_ps (w35nc Ae.realFn c now n t (mayR n (c,[]))) (allT_c h2 (allT_c h5 (allT_c n1 (allT_c n0 rfl))))) rfl rfl rfl rfl
   | false =>
    simp only [Bool.not_false,Bool.true_and,cond_false]
    have n2:(!(mayR n (c,[]) != 0))=true:=by rw [h2]; rfl
    have h2z:mayR n (c,[])=0:=by simpa using h2
    cases h3:((Ae.opF c.recv (Ae.nonL n) [] t).2 != 0) with
    | true =>
     simp only [Bool.not_true,cond_false]
     have h3':(Ae.realFn.wr c.recv (Ae.nonL n) [] t != 0)=true:=h3
     exact runF_ofR (nn:=mask 35) (F:=100) (fr:=8) gl [336] (ansR_of csE_ps (w35nd Ae.realFn c now n t (mayR n (c,[]))) (allT_c h3' (allT_c hs (allT_c n2 (allT_c h5 (allT_c n1 (allT_c n0 rfl))))))) rfl rfl rfl rfl
    | false =>
     simp only [Bool.not_false,cond_true]
     have h3':(!(Ae.realFn.wr c.recv (Ae.nonL n) [] t != 0))=true:=by
      have:(Ae.realFn.wr c.recv (Ae.nonL n) [] t != 0)=false:=h3
      rw [this]; rfl
     exact runF_ofR (nn:=mask 35) (F:=100) (fr:=8) gl [336] (ansR_of csE_ps (w35ne Ae.realFn c now n t (mayR n (c,[])) 0) (allT_c (o59n_ok h2z) (allT_c h3' (allT_c hs (allT_c n2 (allT_c h5 (allT_c n1 (allT_c n0 rfl)))))))) rfl rfl rfl rfl
theorem run35m (now n:UInt64) (t:List UInt8) (ht:Ae.slR t=true) (c:Dc) (a:UInt64) (l:List UInt64) (hok:lenOk (c,(a::l))=true):R35 now n t c (a::l):=by
 unfold R35 srcO openDV openDN openDG openDE
 have hs:Ae.realFn.sl t=true:=ht
 have h5:=o57_ok (by simp) hok (base:=152) (n:=n) (c:=c)
 cases h0:overD now c with
 | true=>exact runF_ofR (nn:=mask 35) (F:=100) (fr:=8) gl [336] (ansR_of csE_ps (w35ma Ae.realFn c (a::l) now n t ) (allT_c h0 rfl)) rfl rfl rfl rfl
 | false =>
  simp only [h0,Bool.not_false,Bool.true_and,cond_false]
  have n0:(!overD now c)=true:=by rw [h0]; rfl
  cases h1:decide (c.ct≤n) with
  | true =>
   simp only [Bool.not_true,Bool.false_and,cond_false,cond_true]
   exact runF_ofR (nn:=mask 35) (F:=100) (fr:=8) gl [336] (ansR_of csE_ps (w35mb Ae.realFn c (a::l) now n t ) (allT_c h1 (allT_c n0 rfl))) rfl rfl rfl rfl
  | false =>
   simp only [Bool.not_false,Bool.true_and,cond_false]
   have n1:(!decide (c.ct≤n))=true:=by rw [h1]; rfl
   cases h2:(mayR n (c,(a::l)) != 0) with
   | true =>
    simp only [Bool.not_true,Bool.false_and,cond_false,cond_true]
    exact runF_ofR (nn:=mask 35) (F:=100) (fr:=8) gl [336] (ansR_of csE_ps (w35mc Ae.realFn c (a::l) now n t (mayR n (c,(a::l)))) (allT_c h2 (allT_c h5 (allT_c n1 (allT_c n0 rfl))))) rfl rfl rfl rfl
   | false =>
    simp only [Bool.not_false,Bool.true_and,cond_false]
    have n2:(!(mayR n (c,(a::l)) != 0))=true:=by rw [h2]; rfl
    have h2z:mayR n (c,(a::l))=0:=by simpa using h2
    cases h3:((Ae.opF c.recv (Ae.nonL n) [] t).2 != 0) with
    | true =>
     simp only [Bool.not_true,cond_false]
     have h3':(Ae.realFn.wr c.recv (Ae.nonL n) [] t != 0)=true:=h3
     exact runF_ofR (nn:=mask 35) (F:=100) (fr:=8) gl [336] (ansR_of csE_ps (w35md Ae.realFn c (a::l) now n t (mayR n (c,(a::l)))) (allT_c h3' (allT_c hs (allT_c n2 (allT_c h5 (allT_c n1 (allT_c n0 rfl))))))) rfl rfl rfl rfl
    | false =>
     simp only [Bool.not_false,cond_true]
     have h3':(!(Ae.realFn.wr c.recv (Ae.nonL n) [] t != 0))=true:=by
      have:(Ae.realFn.wr c.recv (Ae.nonL n) [] t != 0)=false:=h3
      rw [this]; rfl
     have r:=ansR_of csE_ps (w35me Ae.realFn c (a::l) now n t (mayR n (c,(a::l))) 0) (allT_c (o59_ok (by simp) hok h2z) (allT_c h3' (allT_c hs (allT_c n2 (allT_c h5 (allT_c n1 (allT_c n0 rfl)))))))
     have hk:((a::l).length+1)=(a::l++[n]).length:=by simp
     rw [hk] at r
     exact runF_ofR (nn:=mask 35) (F:=100) (fr:=8) gl [336] r rfl rfl rfl rfl
theorem g35_ok:CSOk Try.prog (csOne 35 g35):=csOne_ok fun args e he=>by
 unfold g35 at he
 split at he
 ·rename_i p now n t
  cases ht:Ae.slR t <;> rw [ht] at he <;> simp only [cond_true,cond_false] at he
  ·cases he
  cases he
  refine effF_ok csE_ok hmix (by decide) (O:=obD) (O2:=obD) (A:=fun _ ns=>.ptr (ns.getD 0 0) 0::[.u64 now,.u64 n,.str t]) (fun {η ns s} hf=>findD_ok (A:=fun ns=>.ptr (ns.getD 0 0) 0::[.u64 now,.u64 n,.str t]) (fun ns h=>argP0 (ns:=[]) h) hf) fun ⟨c,L⟩ hok => ?_
  refine ⟨relD _,relD _,.plain (lt_openDV now n t _),nameP0 _ rfl,?_⟩
  have hR:R35 now n t c L:=by
   cases L with
   | nil=>exact run35n now n t ht c hok
   | cons a l=>exact run35m now n t ht c a l hok
  cases hg:openDG now n t (c,L) with
  | false =>
   have es:srcO now n t (c,L)=List.range (kQ (qL L)):=by unfold srcO; rw [hg]; rfl
   have em:openDN now n t (c,L)=(c,L):=by unfold openDN; rw [hg]; rfl
   unfold R35 at hR
   rw [es,em] at hR ⊢
   exact ⟨by rw [List.length_range]; rfl,List.nodup_range,range_k,fun i j e1 e2=>.inl (by obtain ⟨_,rfl⟩:=range_at e1; exact e2),hR⟩
  | true =>
   have es:srcO now n t (c,L)=[0,kQ (qL L)]:=by unfold srcO; rw [hg]; rfl
   have em:openDN now n t (c,L)=(sureD c,L++[n]):=by unfold openDN; rw [hg]; rfl
   unfold R35 at hR
   rw [es,em] at hR ⊢
   have hp:=kQ_pos (qL L)
   refine ⟨?_,?_,fun j hj => ?_,fun i j e1 e2 => ?_,hR⟩
   ·cases L <;> rfl
   ·have:0 ≠ kQ (qL L):=by omega
    simp [this]
   ·show j < kQ (qL L)+1
    have:j=0 ∨ j=kQ (qL L):=by simpa using hj
    omega
   ·match i,e1 with
    | 0,e1=>cases e1; exact .inl hp
    | 1,e1=>cases e1; exact .inr (Nat.le_refl _)
    | i+2,e1=>simp at e1
 ·cases he
end Go.Proofs.Ytjdhndicgifnbaa.Tun
