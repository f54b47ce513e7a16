/- Texts Eng15, Eng16, Eng17, Eng18, Eng19, Eng22: what they show that this claim uses. -/
import Derived.Test.YtcplgmgpagekfaaGreatDoorP3
import Derived.LoopN
import GoSem.ClaimChange
set_option maxRecDepth 100000
set_option maxHeartbeats 1000000
set_option linter.unusedVariables false
set_option linter.unusedSimpArgs false
namespace Go.Eng
open Go
def ltS (m:Nat):AVal→Bool
 | .ptr n _=>Nat.ble (n+1) m
 | .tp n _ _=>Nat.ble (n+1) m
 | .mth _ n _=>Nat.ble (n+1) m
 | .slice n _ _ _=>Nat.ble (n+1) m
 | .map n=>Nat.ble (n+1) m
 | .agg cs=>match cs with
  | []=>true
  | _=>false
 | .tup cs=>match cs with
  | []=>true
  | _=>false
 | .fn _ cap=>match cap with
  | []=>true
  | _=>false
 | .iface _ _=>false
 | _=>true
def ltL (m:Nat):List AVal→Bool
 | []=>true
 | v::l=>cond (ltS m v) (ltL m l) false
def ltW (m:Nat) (v:AVal):Bool:=
 match v with
 | .agg cs=>ltL m cs
 | v=>ltS m v
def ltM (m:Nat):List AVal→Bool
 | []=>true
 | v::l=>cond (ltW m v) (ltM m l) false
def ltV (m:Nat) (v:AVal):Bool:=
 match v with
 | .agg cs=>ltL m cs
 | .tup cs=>ltM m cs
 | .fn _ cap=>ltL m cap
 | .iface _ v=>ltS m v
 | v=>ltS m v
def cut (m:Nat) (σ:Sig):Sig:=fun n=>if n < m then σ n else none
theorem Cp {m:Nat}{σ:Sig}{n:Nat}{p:Place}(h:σ n=some p) (hn:n < m):cut m σ n=some p:=by simp [cut,hn,h]
theorem KV (m:Nat) (σ:Sig):Sig.le (cut m σ) σ:=fun n p h=>by
 unfold cut at h
 split at h
 ·exact h
 ·cases h
theorem FB {m:Nat}{v:AVal}(h:ltS m v=true){σ:Sig}{v':Value}(hv:VR σ v v'):VR (cut m σ) v v':=by
 cases hv with
 | bool b=>exact .bool b
 | u8 x=>exact .u8 x
 | u32 x=>exact .u32 x
 | u64 x=>exact .u64 x
 | b64 b=>exact .b64 b
 | int k n=>exact .int k n
 | str l=>exact .str l
 | nilPtr=>exact .nilPtr
 | ptr hp=>exact .ptr (Cp hp (Nat.le_of_ble_eq_true h))
 | nilSlice=>exact .nilSlice
 | slice hp ho hc hs=>exact .slice (Cp hp (Nat.le_of_ble_eq_true h)) ho hc hs
 | nilMap=>exact .nilMap
 | map hp=>exact .map (Cp hp (Nat.le_of_ble_eq_true h))
 | nilFunc=>exact .nilFunc
 | @fn f cap cap' hs hc =>
  cases cap with
  | nil=>exact .fn hs fun i v v' h=>by simp at h
  | cons x l=>cases h
 | nilIface=>exact .nilIface
 | iface h'=>cases h
 | @agg cs cs' hs hc =>
  cases cs with
  | nil=>exact .agg hs fun i v v' h=>by simp at h
  | cons x l=>cases h
 | @tup cs cs' hs hc =>
  cases cs with
  | nil=>exact .tup hs fun i v v' h=>by simp at h
  | cons x l=>cases h
 | tp0 hp a b c=>exact .tp0 (Cp hp (Nat.le_of_ble_eq_true h)) a b c
 | tp1 hp a b c=>exact .tp1 (Cp hp (Nat.le_of_ble_eq_true h)) a b c
 | mth0=>exact .mth0
 | mth hp=>exact .mth (Cp hp (Nat.le_of_ble_eq_true h))
theorem EL {m:Nat}:∀ {l:List AVal},ltL m l=true→∀ v ∈ l,ltS m v=true
 | [],_,v,hv=>by cases hv
 | x::l,h,v,hv=>by
  simp only [ltL] at h
  cases hx:ltS m x <;> rw [hx] at h <;> simp only [cond_true,cond_false] at h
  ·cases h
  ·rcases List.mem_cons.1 hv with rfl | hv
   ·exact hx
   ·exact EL h v hv
theorem Qz {m:Nat}{l:List AVal}(h:ltL m l=true){σ:Sig}{l':Array Value}(hl:LR σ l l'):LR (cut m σ) l l':=
 ⟨hl.1,fun i v v' h1 h2=>FB (EL h v (List.mem_of_getElem? h1)) (hl.2 i v v' h1 h2)⟩
theorem agi {m:Nat}{v:AVal}(h:ltW m v=true){σ:Sig}{v':Value}(hv:VR σ v v'):VR (cut m σ) v v':=by
 unfold ltW at h
 split at h
 ·cases hv with
  | agg hs hc=>have:=Qz h ⟨hs,hc⟩; exact .agg this.1 this.2
 ·exact FB h hv
theorem Tx {m:Nat}:∀ {l:List AVal},ltM m l=true→∀ v ∈ l,ltW m v=true
 | [],_,v,hv=>by cases hv
 | x::l,h,v,hv=>by
  simp only [ltM] at h
  cases hx:ltW m x <;> rw [hx] at h <;> simp only [cond_true,cond_false] at h
  ·cases h
  ·rcases List.mem_cons.1 hv with rfl | hv
   ·exact hx
   ·exact Tx h v hv
theorem Je {m:Nat}{l:List AVal}(h:ltM m l=true){σ:Sig}{l':Array Value}(hl:LR σ l l'):LR (cut m σ) l l':=
 ⟨hl.1,fun i v v' h1 h2=>agi (Tx h v (List.mem_of_getElem? h1)) (hl.2 i v v' h1 h2)⟩
theorem Hn {m:Nat}{v:AVal}(h:ltV m v=true){σ:Sig}{v':Value}(hv:VR σ v v'):VR (cut m σ) v v':=by
 unfold ltV at h
 split at h
 ·cases hv with
  | agg hs hc=>have:=Qz h ⟨hs,hc⟩; exact .agg this.1 this.2
 ·cases hv with
  | tup hs hc=>have:=Je h ⟨hs,hc⟩; exact .tup this.1 this.2
 ·cases hv with
  | fn hs hc=>have:=Qz h ⟨hs,hc⟩; exact .fn this.1 this.2
 ·cases hv with
  | iface hv=>exact .iface (FB h hv)
 ·exact FB h hv
def ltT (m:Nat):TL→Bool
 | []=>true
 | (_,v)::l=>cond (ltV m v) (ltT m l) false
def ltH (m:Nat):HL→Bool
 | []=>true
 | (n,.cells _ c)::l=>cond (Nat.ble (n+1) m && ltL m c) (ltH m l) false
theorem SR {m:Nat}:∀ {T:TL},ltT m T=true→∀ s v,Aa T s=some v→ltV m v=true
 | [],_,s,v,hv=>by simp [Aa] at hv
 | (k,u)::l,h,s,v,hv=>by
  simp only [ltT] at h
  cases hx:ltV m u <;> rw [hx] at h <;> simp only [cond_true,cond_false] at h
  ·cases h
  ·simp only [Aa] at hv
   cases hb:Nat.beq k s <;> rw [hb] at hv <;> simp only [cond_true,cond_false] at hv
   ·exact SR h s v hv
   ·cases hv; exact hx
theorem Uc {m:Nat}:∀ {H:HL},ltH m H=true→∀ n ro c,Aa H n=some (.cells ro c)→n < m∧ltL m c=true
 | [],_,s,ro,c,hv=>by simp [Aa] at hv
 | (k,.cells ro' c')::l,h,s,ro,c,hv=>by
  simp only [ltH] at h
  cases hx:(Nat.ble (k+1) m && ltL m c') <;> rw [hx] at h <;> simp only [cond_true,cond_false] at h
  ·cases h
  ·simp only [Aa] at hv
   rcases beq_cases k s with ⟨he,hb⟩ | ⟨he,hb⟩ <;> rw [hb] at hv <;> simp only [cond_true,cond_false] at hv
   ·cases hv
    simp only [Bool.and_eq_true] at hx
    have:=Nat.le_of_ble_eq_true hx.1
    exact ⟨by omega,hx.2⟩
   ·exact Uc h s ro c hv
structure SA where
 T:TL
 H:HL
 fr:Nat
inductive XA where
 | normal
 | exit (id:Nat)
 | ret
def XA.out:XA→Exit
 | .normal=>.normal
 | .exit id=>.exit id
 | .ret=>.ret
def Eu (mask:Nat):TL→TL
 | []=>[]
 | (k,v)::l=>cond (mask.testBit k) ((k,v)::Eu mask l) (Eu mask l)
theorem Mf {mask:Nat}:∀ {T:TL}{s:Nat}{v:AVal},Aa (Eu mask T) s=some v→Aa T s=some v:=by
 have key:∀ (T:TL) (s:Nat),Aa (Eu mask T) s=if mask.testBit s=true then Aa T s else none:=by
  intro T
  induction T with
  | nil=>intro s; simp [Eu,Aa]
  | cons p l ih =>
   intro s
   obtain ⟨k,u⟩:=p
   simp only [Eu]
   cases hb:mask.testBit k with
   | true =>
    simp only [cond_true,Aa]
    rcases beq_cases k s with ⟨he,hb2⟩ | ⟨he,hb2⟩
    ·subst he; rw [hb2]; simp [hb]
    ·rw [hb2]; simp only [cond_false]; exact ih s
   | false =>
    simp only [cond_false,Aa]
    rw [ih s]
    rcases beq_cases k s with ⟨he,hb2⟩ | ⟨he,hb2⟩
    ·subst he; simp [hb]
    ·rw [hb2]; simp only [cond_false]
 intro T s v h
 rw [key] at h
 split at h
 ·exact h
 ·cases h
def BU:TL→TL→TL
 | [],_=>[]
 | (k,_)::l,T=>match Aa T k with
  | some v=>(k,v)::BU l T
  | none=>BU l T
theorem Dk:∀ {l:TL}{T:TL}{s:Nat}{v:AVal},Aa (BU l T) s=some v→Aa T s=some v
 | [],T,s,v,h=>by simp [BU,Aa] at h
 | (k,u)::l,T,s,v,h=>by
  simp only [BU] at h
  split at h
  ·rename_i x hx
   simp only [Aa] at h
   rcases beq_cases k s with ⟨he,hb⟩ | ⟨he,hb⟩ <;> rw [hb] at h <;> simp only [cond_true,cond_false] at h
   ·subst he; rw [hx]; exact h
   ·exact Dk h
  ·exact Dk h
def BQ:HL→HL→HL
 | [],_=>[]
 | (k,_)::l,T=>match Aa T k with
  | some v=>(k,v)::BQ l T
  | none=>BQ l T
theorem EI:∀ {l:HL}{T:HL}{s:Nat}{v:AObj},Aa (BQ l T) s=some v→Aa T s=some v
 | [],T,s,v,h=>by simp [BQ,Aa] at h
 | (k,u)::l,T,s,v,h=>by
  simp only [BQ] at h
  split at h
  ·rename_i x hx
   simp only [Aa] at h
   rcases beq_cases k s with ⟨he,hb⟩ | ⟨he,hb⟩ <;> rw [hb] at h <;> simp only [cond_true,cond_false] at h
   ·subst he; rw [hx]; exact h
   ·exact EI h
  ·exact EI h
theorem aget_append {α:Type}:∀ {l k:List (Nat × α)}{m:Nat}{o:α},Aa (l++k) m=some o→Aa l m=some o ∨ Aa k m=some o
 | [],k,m,o,h=>.inr h
 | (n,u)::l,k,m,o,h=>by
  simp only [List.cons_append,Aa] at h ⊢
  cases hb:Nat.beq n m <;> rw [hb] at h <;> simp only [cond_true,cond_false] at h ⊢
  ·exact aget_append h
  ·exact .inl h
def CD (l:HL) (m:Nat):HL→HL
 | []=>[]
 | (k,o)::H=>match Aa l k with
  | some _=>CD l m H
  | none=>cond (Nat.ble (k+1) m) ((k,o)::CD l m H) (CD l m H)
theorem Q8 {l:HL}{m:Nat}:∀ {H:HL}{n:Nat}{o:AObj},Aa (CD l m H) n=some o→Aa H n=some o:=by
 have key:∀ (H:HL) (n:Nat),Aa (CD l m H) n=if Aa l n=none∧n < m then Aa H n else none:=by
  intro H
  induction H with
  | nil=>intro n; simp [CD,Aa]
  | cons p H ih =>
   intro n
   obtain ⟨k,o⟩:=p
   simp only [CD]
   split
   ·rename_i x hx
    rw [ih n]
    simp only [Aa]
    rcases beq_cases k n with ⟨he,hb⟩ | ⟨he,hb⟩ <;> rw [hb]
    ·subst he; rw [hx]; simp
    ·simp only [cond_false]
   ·rename_i hx
    cases hm:Nat.ble (k+1) m with
    | true =>
     have hm:=Nat.le_of_ble_eq_true hm
     simp only [cond_true,Aa]
     rcases beq_cases k n with ⟨he,hb⟩ | ⟨he,hb⟩ <;> rw [hb]
     ·subst he
      rw [if_pos ⟨hx,by omega⟩]
      simp only [cond_true]
     ·simp only [cond_false]; exact ih n
    | false =>
     have hm:¬ k+1≤m:=fun h=>by rw [Nat.ble_eq_true_of_le h] at hm; cases hm
     simp only [cond_false]
     rw [ih n]
     simp only [Aa]
     rcases beq_cases k n with ⟨he,hb⟩ | ⟨he,hb⟩ <;> rw [hb]
     ·subst he
      rw [if_neg (by omega),if_neg (by omega)]
     ·simp only [cond_false]
 intro H n o h
 rw [key] at h
 split at h
 ·exact h
 ·cases h
theorem MZ {l H:HL}{m n:Nat}{o:AObj}(h:Aa (BQ l H++CD l m H) n=some o):Aa H n=some o:=by
 rcases aget_append h with h | h
 ·exact EI h
 ·exact Q8 h
theorem HRel.less {σ:Sig}{H H':BP}{w:World}(h:HRel σ H w) (hs:∀ n o,H' n=some o→H n=some o):HRel σ H' w:=
 ⟨fun n o hn=>h.obj n o (hs n o hn),fun n m o o' p q h1 h2=>h.inj n m o o' p q (hs n o h1) (hs m o' h2)⟩
theorem RRel.less {P:Program}{σ:Sig}{nt:Nat}{T T':TL}{H H':HL}{a:Act}{w:World}(h:RRel P σ nt T H a w) (hT:∀ s v,Aa T' s=some v→Aa T s=some v) (hH:∀ n o,Aa H' n=some o→Aa H n=some o):RRel P σ nt T' H' a w:=
 ⟨fun s v hv=>h.tmps s v (hT s v hv),h.size,h.defers,h.heap.less hH,h.glob⟩
theorem Frm.less {σ σ':Sig}{H H' H'':BP}{w w':World}(h:Frm σ H w σ' H' w') (hs:∀ n o,H'' n=some o→H' n=some o):Frm σ H w σ' H'' w':=
 ⟨h.ext,h.size,h.os,h.output,h.tape,fun b hb hn=>by
  obtain ⟨h1,h2⟩:=h.old b hb hn
  exact ⟨h1,fun ⟨n,o,p,a1,a2,a3,a4⟩=>h2 ⟨n,o,p,hs n o a1,a2,a3,a4⟩⟩⟩
theorem RRel.cut {P:Program}{σ:Sig}{nt:Nat}{T:TL}{H:HL}{a:Act}{w:World}{m:Nat}(h:RRel P σ nt T H a w) (hT:ltT m T=true) (hH:ltH m H=true) (hg:P.globals.size≤m):RRel P (cut m σ) nt T H a w:=by
 refine ⟨fun s v hv => ?_,h.size,h.defers,⟨fun n o hn => ?_,fun n n' o o' p q h1 h2 h3 h4=>h.heap.inj n n' o o' p q h1 h2 (KV m σ n p h3) (KV m σ n' q h4)⟩,fun g hgl => ?_⟩
 ·obtain ⟨v',h1,h2⟩:=h.tmps s v hv
  exact ⟨v',h1,Hn (SR hT s v hv) h2⟩
 ·obtain ⟨p,hp,ho⟩:=h.heap.obj n o hn
  cases o with
  | cells ro c =>
   obtain ⟨hn1,hc⟩:=Uc hH n ro c hn
   obtain ⟨c',t,fz,e1,e2,e3,e4⟩:=ho
   refine ⟨p,Cp hp hn1,c',t,fz,e1,e2,fun i v hi => ?_,e4⟩
   obtain ⟨v',g1,g2⟩:=e3 i v hi
   exact ⟨v',g1,FB (EL hc v (List.mem_of_getElem? hi)) g2⟩
 ·obtain ⟨sz,hs⟩:=h.glob g hgl
  exact ⟨sz,Cp hs (by omega)⟩
theorem Br (m:Nat) (σ:Sig):AO (cut m σ) m:=fun n hn=>by simp [cut]; omega
def Kk (m n k:Nat):Option Nat:=cond (Nat.beq k m) (some n) (cond (Nat.beq k n) none (some k))
def Sig.ren (m n:Nat) (σ:Sig):Sig:=fun k=>if k=n then σ m else if k=m then none else σ k
theorem ER {m n k k':Nat}(h:Kk m n k=some k') (σ:Sig):Sig.ren m n σ k'=σ k∧(k=m∧k'=n ∨ k ≠ m∧k ≠ n∧k'=k):=by
 unfold Kk at h
 rcases beq_cases k m with ⟨he,hb⟩ | ⟨he,hb⟩ <;> rw [hb] at h <;> simp only [cond_true,cond_false] at h
 ·cases h
  exact ⟨by simp [Sig.ren,he],.inl ⟨he,rfl⟩⟩
 ·rcases beq_cases k n with ⟨he2,hb2⟩ | ⟨he2,hb2⟩ <;> rw [hb2] at h <;> simp only [cond_true,cond_false] at h
  ·cases h
  ·cases h
   exact ⟨by simp [Sig.ren,he,he2],.inr ⟨he,he2,rfl⟩⟩
def F7 (m n:Nat):AVal→Option AVal
 | .tp k t b=>match Kk m n k with
  | some k=>some (.tp k t b)
  | none=>none
 | .mth f k off=>match Kk m n k with
  | some k=>some (.mth f k off)
  | none=>none
 | .ptr k off=>match Kk m n k with
  | some k=>some (.ptr k off)
  | none=>none
 | .slice k off len esz=>match Kk m n k with
  | some k=>some (.slice k off len esz)
  | none=>none
 | .map k=>match Kk m n k with
  | some k=>some (.map k)
  | none=>none
 | .agg cs=>match cs with
  | []=>some (.agg [])
  | _=>none
 | .tup cs=>match cs with
  | []=>some (.tup [])
  | _=>none
 | .fn f cap=>match cap with
  | []=>some (.fn f [])
  | _=>none
 | .iface _ _=>none
 | v=>some v
theorem J6 {m n:Nat}{v u:AVal}(h:F7 m n v=some u){σ:Sig}{v':Value}(hv:VR σ v v'):VR (Sig.ren m n σ) u v':=by
 cases hv with
 | bool b=>cases h; exact .bool b
 | u8 x=>cases h; exact .u8 x
 | u32 x=>cases h; exact .u32 x
 | u64 x=>cases h; exact .u64 x
 | b64 b=>cases h; exact .b64 b
 | int k n=>cases h; exact .int k n
 | str l=>cases h; exact .str l
 | nilPtr=>cases h; exact .nilPtr
 | @ptr k off p hp =>
  simp only [F7] at h
  split at h
  ·rename_i k' hk
   cases h
   exact .ptr (by rw [(ER hk σ).1]; exact hp)
  ·cases h
 | nilSlice=>cases h; exact .nilSlice
 | @slice k off len esz p o cap hp ho hc hs =>
  simp only [F7] at h
  split at h
  ·rename_i k' hk
   cases h
   exact .slice (by rw [(ER hk σ).1]; exact hp) ho hc hs
  ·cases h
 | nilMap=>cases h; exact .nilMap
 | @map k p hp =>
  simp only [F7] at h
  split at h
  ·rename_i k' hk
   cases h
   exact .map (by rw [(ER hk σ).1]; exact hp)
  ·cases h
 | nilFunc=>cases h; exact .nilFunc
 | @fn f cap cap' hs hc =>
  simp only [F7] at h
  split at h
  ·cases h
   exact .fn hs fun i v v' h1=>by simp at h1
  ·cases h
 | nilIface=>cases h; exact .nilIface
 | iface h'=>cases h
 | @agg cs cs' hs hc =>
  simp only [F7] at h
  split at h
  ·cases h
   exact .agg hs fun i v v' h1=>by simp at h1
  ·cases h
 | @tup cs cs' hs hc =>
  simp only [F7] at h
  split at h
  ·cases h
   exact .tup hs fun i v v' h1=>by simp at h1
  ·cases h
 | @tp0 k T p hp a b c =>
  simp only [F7] at h
  split at h
  ·rename_i k' hk
   cases h
   exact .tp0 (by rw [(ER hk σ).1]; exact hp) a b c
  ·cases h
 | @tp1 k T p hp a b c =>
  simp only [F7] at h
  split at h
  ·rename_i k' hk
   cases h
   exact .tp1 (by rw [(ER hk σ).1]; exact hp) a b c
  ·cases h
 | mth0=>cases h; exact .mth0
 | @mth f k off p hp =>
  simp only [F7] at h
  split at h
  ·rename_i k' hk
   cases h
   exact .mth (by rw [(ER hk σ).1]; exact hp)
  ·cases h
def JR (m n:Nat):List AVal→Option (List AVal)
 | []=>some []
 | v::l=>match F7 m n v,JR m n l with
  | some v,some l=>some (v::l)
  | _,_=>none
theorem Kp {m n:Nat}:∀ {l l':List AVal},JR m n l=some l'→l'.length=l.length∧∀ (i:Nat) u,l'[i]? = some u→∃ v,l[i]? = some v∧F7 m n v=some u
 | [],l',h=>by cases h; exact ⟨rfl,fun i u hi=>by simp at hi⟩
 | v::l,l',h=>by
  simp only [JR] at h
  split at h
  ·rename_i v1 l1 h1 h2
   cases h
   obtain ⟨e1,e2⟩:=Kp h2
   refine ⟨by simp [e1],fun i u hi => ?_⟩
   cases i with
   | zero=>simp at hi; subst hi; exact ⟨v,by simp,h1⟩
   | succ i=>exact (e2 i u (by simpa using hi)).imp fun x hx=>⟨by simpa using hx.1,hx.2⟩
  ·cases h
theorem Oo {m n:Nat}{l l1:List AVal}(h:JR m n l=some l1){σ:Sig}{l':Array Value}(hl:LR σ l l'):LR (Sig.ren m n σ) l1 l':=by
 obtain ⟨e1,e2⟩:=Kp h
 refine ⟨by rw [e1]; exact hl.1,fun i u u' h1 h2 => ?_⟩
 obtain ⟨v,h3,h4⟩:=e2 i u h1
 exact J6 h4 (hl.2 i v u' h3 h2)
def Gx (m n:Nat) (v:AVal):Option AVal:=
 match v with
 | .agg cs=>match JR m n cs with
  | some cs=>some (.agg cs)
  | none=>none
 | .tup cs=>match JR m n cs with
  | some cs=>some (.tup cs)
  | none=>none
 | .fn f cap=>match JR m n cap with
  | some cap=>some (.fn f cap)
  | none=>none
 | .iface t v=>match F7 m n v with
  | some v=>some (.iface t v)
  | none=>none
 | v=>F7 m n v
theorem Ht {m n:Nat}{v u:AVal}(h:Gx m n v=some u){σ:Sig}{v':Value}(hv:VR σ v v'):VR (Sig.ren m n σ) u v':=by
 unfold Gx at h
 split at h
 ·split at h
  ·rename_i hl
   cases h
   cases hv with
   | agg hs hc=>have:=Oo hl ⟨hs,hc⟩; exact .agg this.1 this.2
  ·cases h
 ·split at h
  ·rename_i hl
   cases h
   cases hv with
   | tup hs hc=>have:=Oo hl ⟨hs,hc⟩; exact .tup this.1 this.2
  ·cases h
 ·split at h
  ·rename_i hl
   cases h
   cases hv with
   | fn hs hc=>have:=Oo hl ⟨hs,hc⟩; exact .fn this.1 this.2
  ·cases h
 ·split at h
  ·rename_i hl
   cases h
   cases hv with
   | iface h'=>exact .iface (J6 hl h')
  ·cases h
 ·exact J6 h hv
def Y4 (m n:Nat):TL→Option TL
 | []=>some []
 | (k,v)::l=>match Gx m n v,Y4 m n l with
  | some v,some l=>some ((k,v)::l)
  | _,_=>none
theorem P8 {m n:Nat}:∀ {T T':TL},Y4 m n T=some T'→∀ s u,Aa T' s=some u→∃ v,Aa T s=some v∧Gx m n v=some u
 | [],T',h,s,u,hu=>by cases h; simp [Aa] at hu
 | (k,v)::l,T',h,s,u,hu=>by
  simp only [Y4] at h
  split at h
  ·rename_i v1 l1 h1 h2
   cases h
   simp only [Aa] at hu ⊢
   cases hb:Nat.beq k s <;> rw [hb] at hu <;> simp only [cond_true,cond_false] at hu ⊢
   ·exact P8 h2 s u hu
   ·cases hu; exact ⟨v,rfl,h1⟩
  ·cases h
def Sq (m n:Nat):HL→Option HL
 | []=>some []
 | (k,.cells ro c)::l=>match Kk m n k,JR m n c,Sq m n l with
  | some k,some c,some l=>some ((k,.cells ro c)::l)
  | _,_,_=>none
theorem FE {m n:Nat}(hmn:m ≠ n):∀ {H H':HL},Sq m n H=some H'→∀ k' ro c',Aa H' k'=some (.cells ro c')→∃ k c,Aa H k=some (.cells ro c)∧JR m n c=some c'∧(k=m∧k'=n ∨ k ≠ m∧k ≠ n∧k'=k)
 | [],H',h,k',ro,c',hu=>by cases h; simp [Aa] at hu
 | (k,.cells ro0 c)::l,H',h,k',ro,c',hu=>by
  simp only [Sq] at h
  split at h
  ·rename_i k1 c1 l1 h1 h2 h3
   cases h
   have hk:=(ER h1 (fun _=>none)).2
   simp only [Aa] at hu
   rcases beq_cases k1 k' with ⟨he,hb⟩ | ⟨he,hb⟩ <;> rw [hb] at hu <;> simp only [cond_true,cond_false] at hu
   ·cases hu
    subst he
    refine ⟨k,c,?_,h2,hk⟩
    have:Nat.beq k k=true:=Nat.beq_refl k
    simp [Aa,this]
   ·obtain ⟨j,cj,a1,a2,a3⟩:=FE hmn h3 k' ro c' hu
    refine ⟨j,cj,?_,a2,a3⟩
    simp only [Aa]
    rcases beq_cases k j with ⟨e,hb2⟩ | ⟨e,hb2⟩ <;> rw [hb2] <;> simp only [cond_true,cond_false]
    ·subst e
     exfalso
     rcases hk with ⟨x1,x2⟩ | ⟨x1,x2,x3⟩ <;> rcases a3 with ⟨y1,y2⟩ | ⟨y1,y2,y3⟩
     ·exact he (x2.trans y2.symm)
     ·exact y1 x1
     ·exact x1 y1
     ·exact he (x3.trans y3.symm)
    ·exact a1
  ·cases h
def abX (P:Program) (bs m n:Nat) (s:SA):Option SA:=
 cond (Nat.ble bs m && Nat.ble bs n && Nat.ble P.globals.size bs && Nat.ble (n+1) s.fr && !(Nat.beq m n)) (match Y4 m n s.T,Sq m n s.H with
  | some T,some H=>some ⟨T,H,s.fr⟩
  | _,_=>none) none
structure FrmB (bs:Nat) (σ:Sig) (H:BP) (w:World) (σ':Sig) (H':BP) (w':World):Prop where
 ext:∀ n p,n < bs→σ n=some p→σ' n=some p
 size:w.heap.size≤w'.heap.size
 os:w'.os=w.os
 output:w'.output=w.output
 tape:w'.tape=w.tape
 old:∀ b,b < w.heap.size → ¬ Own σ H b→w'.heap[b]? = w.heap[b]? ∧ ¬ Own σ' H' b
theorem Frm.b {σ σ':Sig}{H H':BP}{w w':World}(h:Frm σ H w σ' H' w') (bs:Nat):FrmB bs σ H w σ' H' w':=⟨fun n p _ hp=>h.ext n p hp,h.size,h.os,h.output,h.tape,h.old⟩
theorem FrmB.refl (bs:Nat) (σ:Sig) (H:BP) (w:World):FrmB bs σ H w σ H w:=(Frm.refl σ H w).b bs
theorem FrmB.trans {bs:Nat}{σ σ' σ'':Sig}{H H' H'':BP}{w w' w'':World}(h:FrmB bs σ H w σ' H' w') (k:FrmB bs σ' H' w' σ'' H'' w''):FrmB bs σ H w σ'' H'' w'':=
 ⟨fun n p hn hp=>k.ext n p hn (h.ext n p hn hp),Nat.le_trans h.size k.size,k.os.trans h.os,k.output.trans h.output,k.tape.trans h.tape,fun b hb hn=>by
  obtain ⟨h1,h2⟩:=h.old b hb hn
  obtain ⟨k1,k2⟩:=k.old b (Nat.lt_of_lt_of_le hb h.size) h2
  exact ⟨k1.trans h1,k2⟩⟩
theorem FrmB.less {bs:Nat}{σ σ':Sig}{H H' H'':BP}{w w':World}(h:FrmB bs σ H w σ' H' w') (hs:∀ n o,H'' n=some o→H' n=some o):FrmB bs σ H w σ' H'' w':=
 ⟨h.ext,h.size,h.os,h.output,h.tape,fun b hb hn=>by
  obtain ⟨h1,h2⟩:=h.old b hb hn
  exact ⟨h1,fun ⟨n,o,p,a1,a2,a3,a4⟩=>h2 ⟨n,o,p,hs n o a1,a2,a3,a4⟩⟩⟩
theorem FrmB.cut {bs:Nat}{σ σ':Sig}{H H':BP}{w w':World}{m:Nat}(h:FrmB bs σ H w σ' H' w') (hf:AO σ m):FrmB bs σ H w (cut m σ') H' w':=by
 refine ⟨fun n p hb hp => ?_,h.size,h.os,h.output,h.tape,fun b hb hn => ?_⟩
 ·have hn:n < m:=by
   rcases Nat.lt_or_ge n m with h1 | h1
   ·exact h1
   ·rw [hf n h1] at hp; cases hp
  exact Cp (h.ext n p hb hp) hn
 ·obtain ⟨h1,h2⟩:=h.old b hb hn
  exact ⟨h1,fun ⟨n,o,p,a1,a2,a3,a4⟩=>h2 ⟨n,o,p,a1,a2,KV m σ' n p a3,a4⟩⟩
theorem aar {P:Program}{bs m n:Nat}{s s':SA}(h:abX P bs m n s=some s'){σ:Sig}{nt:Nat}{a:Act}{w:World}(hr:RRel P σ nt s.T s.H a w) (hf:AO σ s.fr){σ0:Sig}{H0:BP}{w0:World}(hm:FrmB bs σ0 H0 w0 σ (Aa s.H) w) :
  RRel P (Sig.ren m n σ) nt s'.T s'.H a w∧AO (Sig.ren m n σ) s'.fr∧FrmB bs σ0 H0 w0 (Sig.ren m n σ) (Aa s'.H) w∧s'.fr=s.fr:=by
 unfold abX at h
 cases hc:(Nat.ble bs m && Nat.ble bs n && Nat.ble P.globals.size bs && Nat.ble (n+1) s.fr && !(Nat.beq m n)) <;> rw [hc] at h <;> simp only [cond_true,cond_false] at h
 ·cases h
 simp only [Bool.and_eq_true,Bool.not_eq_true'] at hc
 obtain ⟨⟨⟨⟨c1,c2⟩,c3⟩,c4⟩,c5⟩:=hc
 have c1:=Nat.le_of_ble_eq_true c1
 have c2:=Nat.le_of_ble_eq_true c2
 have c3:=Nat.le_of_ble_eq_true c3
 have c4:=Nat.le_of_ble_eq_true c4
 have hmn:m ≠ n:=by
  rcases beq_cases m n with ⟨_,hb⟩ | ⟨h,_⟩
  ·rw [hb] at c5; cases c5
  ·exact h
 split at h
 ·rename_i T H hT hH
  cases h
  have sg:∀ k k',(k=m∧k'=n ∨ k ≠ m∧k ≠ n∧k'=k)→Sig.ren m n σ k'=σ k:=fun k k' hk=>by
   rcases hk with ⟨rfl,rfl⟩ | ⟨x1,x2,rfl⟩
   ·simp [Sig.ren]
   ·simp [Sig.ren,x1,x2]
  have low:∀ k,k < bs→Sig.ren m n σ k=σ k:=fun k hk=>by
   unfold Sig.ren
   rw [if_neg (by omega),if_neg (by omega)]
  refine ⟨⟨fun sl u hu => ?_,hr.size,hr.defers,⟨fun k ob hk => ?_,fun k1 k2 o1 o2 p q h1 h2 g1 g2 he => ?_⟩,fun g hg => ?_⟩,fun k hk => ?_,⟨fun k p hk hp => ?_,hm.size,hm.os,hm.output,hm.tape,fun b hb hn => ?_⟩,rfl⟩
  ·obtain ⟨v,a1,a2⟩:=P8 hT sl u hu
   obtain ⟨v',b1,b2⟩:=hr.tmps sl v a1
   exact ⟨v',b1,Ht a2 b2⟩
  ·obtain ⟨ro,c'⟩:=ob
   obtain ⟨j,c,a1,a2,a3⟩:=FE hmn hH k ro c' hk
   obtain ⟨p,hp,cc,t,fz,e1,e2,e3,e4⟩:=hr.heap.obj j _ a1
   refine ⟨p,by rw [sg j k a3]; exact hp,cc,t,fz,e1,e2,fun i u hi => ?_,e4⟩
   obtain ⟨v,b1,b2⟩:=(Kp a2).2 i u hi
   obtain ⟨v',d1,d2⟩:=e3 i v b1
   exact ⟨v',d1,J6 b2 d2⟩
  ·obtain ⟨ro1,c1'⟩:=o1
   obtain ⟨ro2,c2'⟩:=o2
   obtain ⟨j1,d1,a1,_,a3⟩:=FE hmn hH k1 ro1 c1' h1
   obtain ⟨j2,d2,b1,_,b3⟩:=FE hmn hH k2 ro2 c2' h2
   rw [sg j1 k1 a3] at g1
   rw [sg j2 k2 b3] at g2
   rcases hr.heap.inj j1 j2 _ _ p q a1 b1 g1 g2 he with e | e
   ·subst e
    left
    rcases a3 with ⟨x1,x2⟩ | ⟨x1,x2,x3⟩ <;> rcases b3 with ⟨y1,y2⟩ | ⟨y1,y2,y3⟩
    ·exact x2.trans y2.symm
    ·exact absurd x1 y1
    ·exact absurd y1 x1
    ·exact x3.trans y3.symm
   ·exact .inr e
  ·obtain ⟨sz,hs⟩:=hr.glob g hg
   exact ⟨sz,by rw [low g (by omega)]; exact hs⟩
  ·show Sig.ren m n σ k=none
   simp only at hk
   unfold Sig.ren
   rw [if_neg (by omega)]
   split
   ·rfl
   ·exact hf k hk
  ·rw [low k hk]; exact hm.ext k p hk hp
  ·obtain ⟨y1,y2⟩:=hm.old b hb hn
   refine ⟨y1,fun ⟨k,ob,p,z1,z2,z3,z4⟩=>y2 ?_⟩
   obtain ⟨ro,c'⟩:=ob
   obtain ⟨j,c,a1,a2,a3⟩:=FE hmn hH k ro c' z1
   rw [sg j k a3] at z3
   exact ⟨j,_,p,a1,z2,z3,z4⟩
 ·cases h
def Ws (P:Program) (bs m n:Nat) (s:SA):Option SA:=abX P bs m n ⟨s.T,Hd s.H n,s.fr⟩
theorem aap {P:Program}{bs m n:Nat}{s s':SA}(h:Ws P bs m n s=some s'){σ:Sig}{nt:Nat}{a:Act}{w:World}(hr:RRel P σ nt s.T s.H a w) (hf:AO σ s.fr){σ0:Sig}{H0:BP}{w0:World}(hm:FrmB bs σ0 H0 w0 σ (Aa s.H) w) :
  RRel P (Sig.ren m n σ) nt s'.T s'.H a w∧AO (Sig.ren m n σ) s'.fr∧FrmB bs σ0 H0 w0 (Sig.ren m n σ) (Aa s'.H) w∧s'.fr=s.fr:=by
 have hs:∀ k o,Aa (Hd s.H n) k=some o→Aa s.H k=some o:=fun k o hk=>by
  rw [DF] at hk
  split at hk
  ·cases hk
  ·exact hk
 exact aar (s:=⟨s.T,Hd s.H n,s.fr⟩) h (hr.less (fun _ _ h=>h) hs) hf (hm.less hs)
def Cd (fr:Nat):Nat→TL→TL→List (Nat × Nat)
 | _,[],_=>[]
 | c,(k,v0)::l,T=>match v0 with
  | .slice n0 _ _ _=>match Aa T k with
   | some (.slice n1 _ _ _)=>cond (Nat.beq n0 n1) (Cd fr c l T) ((n1,n0)::Cd fr c l T)
   | _=>Cd fr c l T
  | .nilSlice=>match Aa T k with
   | some (.slice n1 _ _ _)=>cond (Nat.ble (n1+1) fr) (Cd fr (c+1) l T) ((n1,fr - 1 - c)::Cd fr (c+1) l T)
   | _=>Cd fr (c+1) l T
  | _=>Cd fr c l T
def BS (P:Program) (bs:Nat):List (Nat × Nat)→SA→SA
 | [],s=>s
 | (m,n)::l,s=>match Ws P bs m n s with
  | some s'=>BS P bs l s'
  | none=>BS P bs l s
theorem Gm {P:Program}{bs:Nat}{nt:Nat}{a:Act}{w:World}{σ0:Sig}{H0:BP}{w0:World}:∀ (l:List (Nat × Nat)) (s:SA) (σ:Sig),RRel P σ nt s.T s.H a w→AO σ s.fr→FrmB bs σ0 H0 w0 σ (Aa s.H) w →
  ∃ σ',RRel P σ' nt (BS P bs l s).T (BS P bs l s).H a w∧AO σ' (BS P bs l s).fr∧FrmB bs σ0 H0 w0 σ' (Aa (BS P bs l s).H) w
 | [],s,σ,hr,hf,hm=>⟨σ,hr,hf,hm⟩
 | (m,n)::l,s,σ,hr,hf,hm=>by
  simp only [BS]
  cases h:Ws P bs m n s with
  | none=>exact Gm l s σ hr hf hm
  | some s' =>
   obtain ⟨a1,a2,a3,_⟩:=aap h hr hf hm
   exact Gm l s' _ a1 a2 a3
def GK (P:Program) (s0 s:SA):SA:=
 cond (ltT s0.fr (BU s0.T s.T) && ltH s0.fr (BQ s0.H s.H++CD s0.H s0.fr s.H) && Nat.ble P.globals.size s0.fr) ⟨BU s0.T s.T,BQ s0.H s.H++CD s0.H s0.fr s.H,s0.fr⟩ ⟨BU s0.T s.T,s.H,s.fr⟩
def KG (fr:Nat):Nat→List AVal→List (Nat × Nat)
 | _,[]=>[]
 | c,v::l=>match v with
  | .slice m _ _ _=>cond (Nat.ble fr m) ((m,fr - 1 - c)::KG fr (c+1) l) (KG fr c l)
  | _=>KG fr c l
def G3 (fr:Nat):Nat→HL→HL→List (Nat × Nat)
 | _,[],_=>[]
 | c,(k,_)::l,H=>match Aa H k with
  | some (.cells false cs)=>KG fr c cs++G3 fr (c+(KG fr c cs).length) l H
  | _=>G3 fr c l H
def okHead (P:Program) (s0 s:SA):Bool:=ltT s0.fr (BU s0.T s.T) && ltH s0.fr (BQ s0.H s.H++CD s0.H s0.fr s.H) && Nat.ble P.globals.size s0.fr
def SX (P:Program) (bs:Nat) (s0 r:SA):SA:=cond (okHead P s0 r) (GK P s0 r) (cond (okHead P s0 (BS P bs (G3 s0.fr 0 s0.H r.H) r)) (GK P s0 (BS P bs (G3 s0.fr 0 s0.H r.H) r)) (GK P s0 r))
def AW (P:Program) (bs:Nat) (s0 s:SA):SA:=SX P bs s0 (BS P bs (Cd s0.fr 0 s0.T s.T) s)
theorem Lr {P:Program}{bs:Nat}{nt:Nat}{a:Act}{w:World}{σ0:Sig}{H0:BP}{w0:World}(s0 s:SA){σ:Sig}(hr:RRel P σ nt s.T s.H a w) (hf:AO σ s.fr) (hf0:AO σ0 s0.fr) (hm:FrmB bs σ0 H0 w0 σ (Aa s.H) w) :
  ∃ σ',RRel P σ' nt (GK P s0 s).T (GK P s0 s).H a w∧AO σ' (GK P s0 s).fr∧FrmB bs σ0 H0 w0 σ' (Aa (GK P s0 s).H) w:=by
 unfold GK
 cases hc:(ltT s0.fr (BU s0.T s.T) && ltH s0.fr (BQ s0.H s.H++CD s0.H s0.fr s.H) && Nat.ble P.globals.size s0.fr) with
 | false=>exact ⟨σ,hr.less (fun _ _=>Dk) (fun _ _ h=>h),hf,hm⟩
 | true =>
  simp only [Bool.and_eq_true] at hc
  exact ⟨Go.Eng.cut s0.fr σ,(hr.less (fun _ _=>Dk) (fun _ _=>MZ)).cut hc.1.1 hc.1.2 (Nat.le_of_ble_eq_true hc.2),Br _ _,(hm.less (fun _ _=>MZ)).cut hf0⟩
theorem Pr {P:Program}{bs:Nat}{nt:Nat}{a:Act}{w:World}{σ0:Sig}{H0:BP}{w0:World}(s0 s:SA){σ:Sig}(hr:RRel P σ nt s.T s.H a w) (hf:AO σ s.fr) (hf0:AO σ0 s0.fr) (hm:FrmB bs σ0 H0 w0 σ (Aa s.H) w) :
  ∃ σ',RRel P σ' nt (AW P bs s0 s).T (AW P bs s0 s).H a w∧AO σ' (AW P bs s0 s).fr∧FrmB bs σ0 H0 w0 σ' (Aa (AW P bs s0 s).H) w:=by
 obtain ⟨σ1,g1,g2,g3⟩:=Gm (P:=P) (Cd s0.fr 0 s0.T s.T) s σ hr hf hm
 unfold AW SX
 cases okHead P s0 (BS P bs (Cd s0.fr 0 s0.T s.T) s) with
 | true=>exact Lr s0 _ g1 g2 hf0 g3
 | false =>
  simp only [cond_false]
  cases okHead P s0 (BS P bs (G3 s0.fr 0 s0.H (BS P bs (Cd s0.fr 0 s0.T s.T) s).H) (BS P bs (Cd s0.fr 0 s0.T s.T) s)) with
  | false=>exact Lr s0 _ g1 g2 hf0 g3
  | true =>
   obtain ⟨σ2,k1,k2,k3⟩:=Gm (P:=P) (G3 s0.fr 0 s0.H (BS P bs (Cd s0.fr 0 s0.T s.T) s).H) (BS P bs (Cd s0.fr 0 s0.T s.T) s) σ1 g1 g2 g3
   exact Lr s0 _ k1 k2 hf0 k3
def Ev (f:SA→Option (XA × SA)) (hd:SA→SA):Nat→SA→Option (XA × SA)
 | 0,_=>none
 | n+1,s=>match f s with
  | some (.normal,s')=>Ev f hd n (hd s')
  | r=>r
def evC (P:Program) (cs:CS) (nt nn F bs:Nat):Code→SA→Option (XA × SA)
 | .skip,s=>some (.normal,s)
 | .label _,s=>some (.normal,s)
 | .region _ ops d,s=>match Nh P cs nt ops d s.fr s.T s.H with
  | some (T',H')=>some (.normal,⟨Eu nn T',H',s.fr+8 * ops.size⟩)
  | none=>none
 | .seq a b,s=>match evC P cs nt nn F bs a s with
  | some (.normal,s')=>evC P cs nt nn F bs b s'
  | r=>r
 | .cond c a b,s=>match opd P (Aa s.T) c with
  | some (.bool t)=>cond t (evC P cs nt nn F bs a s) (evC P cs nt nn F bs b s)
  | _=>none
 | .block id b,s=>match evC P cs nt nn F bs b s with
  | some (.exit id',s')=>cond (Nat.beq id' id) (some (.normal,s')) (some (.exit id',s'))
  | r=>r
 | .loop b,s=>Ev (evC P cs nt nn F bs b) (AW P bs s) F s
 | .exit id,s=>some (.exit id,s)
 | .ret,s=>some (.ret,s)
 | _,_=>none
def Sim (P:Program) (bs nt:Nat) (c:Code) (s:SA) (x:XA) (s':SA):Prop:=
 ∀ (σ:Sig) (a:Act) (w:World) (Q:Exit→Act→World→Prop),RRel P σ nt s.T s.H a w→AO σ s.fr →
  (∀ σ' a' w',RRel P σ' nt s'.T s'.H a' w'→FrmB bs σ (Aa s.H) w σ' (Aa s'.H) w'→AO σ' s'.fr→Q x.out a' w')→c.wp P Q a w
theorem PZ {P:Program}{bs nt:Nat}{b:Code}{f:SA→Option (XA × SA)}(hf:∀ s x s',f s=some (x,s')→Sim P bs nt b s x s') (s0:SA):∀ (n:Nat) (s:SA) (x:XA) (s':SA),Ev f (AW P bs s0) n s=some (x,s') →
  ∀ (σ0:Sig) (w0:World),AO σ0 s0.fr→∀ (σ:Sig) (a:Act) (w:World) (Q:Exit→Act→World→Prop),RRel P σ nt s.T s.H a w→AO σ s.fr→FrmB bs σ0 (Aa s0.H) w0 σ (Aa s.H) w →
  (∀ σ' a' w',RRel P σ' nt s'.T s'.H a' w'→FrmB bs σ0 (Aa s0.H) w0 σ' (Aa s'.H) w'→AO σ' s'.fr→Q x.out a' w')→Code.rounds P b Q n a w
 | 0,s,x,s',h,_,_,_,_,_,_,_,_,_,_,_=>by cases h
 | n+1,s,x,s',h,σ0,w0,hf0,σ,a,w,Q,hr,hfr,hfm,hQ=>by
  rw [rounds_succ]
  simp only [Ev] at h
  cases hs:f s with
  | none=>rw [hs] at h; cases h
  | some p =>
   obtain ⟨y,s1⟩:=p
   rw [hs] at h
   refine hf s y s1 hs σ a w _ hr hfr fun σ1 a1 w1 g1 g2 g3 => ?_
   cases y with
   | normal =>
    simp only at h
    obtain ⟨σ2,q1,q2,q3⟩:=Pr (bs:=bs) s0 s1 g1 g3 hf0 (hfm.trans g2)
    exact PZ hf s0 n _ x s' h σ0 w0 hf0 σ2 a1 w1 Q q1 q2 q3 hQ
   | exit id =>
    simp only [Option.some.injEq,Prod.mk.injEq] at h
    obtain ⟨rfl,rfl⟩:=h
    exact hQ σ1 a1 w1 g1 (hfm.trans g2) g3
   | ret =>
    simp only [Option.some.injEq,Prod.mk.injEq] at h
    obtain ⟨rfl,rfl⟩:=h
    exact hQ σ1 a1 w1 g1 (hfm.trans g2) g3
theorem BT {P:Program}{cs:CS}(hcs:Ai P cs) (hm:P.follows .mixedOrders=true){nt nn F bs:Nat}:∀ (c:Code) (s:SA) (x:XA) (s':SA),evC P cs nt nn F bs c s=some (x,s')→Sim P bs nt c s x s'
 | .skip,s,x,s',h=>by
  simp only [evC,Option.some.injEq,Prod.mk.injEq] at h
  obtain ⟨rfl,rfl⟩:=h
  exact fun σ a w Q hr hf hQ=>wp_skip (hQ σ a w hr (FrmB.refl _ _ _ _) hf)
 | .label l,s,x,s',h=>by
  simp only [evC,Option.some.injEq,Prod.mk.injEq] at h
  obtain ⟨rfl,rfl⟩:=h
  exact fun σ a w Q hr hf hQ=>wp_label (hQ σ a w hr (FrmB.refl _ _ _ _) hf)
 | .region id ops d,s,x,s',h=>by
  simp only [evC] at h
  split at h
  ·rename_i T' H' hreg
   cases h
   exact fun σ a w Q hr hf hQ=>aaq hcs hm hreg hr hf fun σ' a' w' g1 g2 g3=>hQ σ' a' w' (g1.less (fun _ _=>Mf) (fun _ _ h=>h)) (g2.b bs) g3
  ·cases h
 | .seq a b,s,x,s',h=>by
  simp only [evC] at h
  cases hs:evC P cs nt nn F bs a s with
  | none=>rw [hs] at h; cases h
  | some p =>
   obtain ⟨y,s1⟩:=p
   rw [hs] at h
   have ha:=BT hcs hm a s y s1 hs
   intro σ ac w Q hr hf hQ
   refine wp_seq (ha σ ac w _ hr hf fun σ1 a1 w1 g1 g2 g3 => ?_)
   cases y with
   | normal =>
    simp only at h
    exact BT hcs hm b s1 x s' h σ1 a1 w1 Q g1 g3 fun σ2 a2 w2 q1 q2 q3=>hQ σ2 a2 w2 q1 (g2.trans q2) q3
   | exit id=>simp only [Option.some.injEq,Prod.mk.injEq] at h; obtain ⟨rfl,rfl⟩:=h; exact hQ σ1 a1 w1 g1 g2 g3
   | ret=>simp only [Option.some.injEq,Prod.mk.injEq] at h; obtain ⟨rfl,rfl⟩:=h; exact hQ σ1 a1 w1 g1 g2 g3
 | .cond c a b,s,x,s',h=>by
  simp only [evC] at h
  split at h
  ·rename_i t ht
   intro σ ac w Q hr hf hQ
   have hv:=hr.env c _ ht
   have hb:ac.eval c=.bool t:=by generalize ac.eval c=z at hv; cases hv; rfl
   refine wp_cond hb ?_
   cases t with
   | true=>exact BT hcs hm a s x s' h σ ac w Q hr hf hQ
   | false=>exact BT hcs hm b s x s' h σ ac w Q hr hf hQ
  ·cases h
 | .block id b,s,x,s',h=>by
  simp only [evC] at h
  cases hs:evC P cs nt nn F bs b s with
  | none=>rw [hs] at h; cases h
  | some p =>
   obtain ⟨y,s1⟩:=p
   rw [hs] at h
   have hb:=BT hcs hm b s y s1 hs
   intro σ ac w Q hr hf hQ
   refine wp_block (hb σ ac w _ hr hf fun σ1 a1 w1 g1 g2 g3 => ?_)
   cases y with
   | normal=>simp only [Option.some.injEq,Prod.mk.injEq] at h; obtain ⟨rfl,rfl⟩:=h; exact hQ σ1 a1 w1 g1 g2 g3
   | ret=>simp only [Option.some.injEq,Prod.mk.injEq] at h; obtain ⟨rfl,rfl⟩:=h; exact hQ σ1 a1 w1 g1 g2 g3
   | exit id' =>
    simp only at h
    simp only [XA.out,Exit.inBlock]
    rcases beq_cases id' id with ⟨he,hbe⟩ | ⟨he,hbe⟩ <;> rw [hbe] at h <;> simp only [cond_true,cond_false,Option.some.injEq,Prod.mk.injEq] at h
    ·obtain ⟨rfl,rfl⟩:=h
     rw [if_pos he]; exact hQ σ1 a1 w1 g1 g2 g3
    ·obtain ⟨rfl,rfl⟩:=h
     rw [if_neg he]; exact hQ σ1 a1 w1 g1 g2 g3
 | .loop b,s,x,s',h=>by
  simp only [evC] at h
  intro σ ac w Q hr hf hQ
  exact wp_loop_rounds F (PZ (fun s x s' hs=>BT hcs hm b s x s' hs) s F s x s' h σ w hf σ ac w Q hr hf (FrmB.refl _ _ _ _) hQ)
 | .exit id,s,x,s',h=>by
  simp only [evC,Option.some.injEq,Prod.mk.injEq] at h
  obtain ⟨rfl,rfl⟩:=h
  exact fun σ a w Q hr hf hQ=>wp_exit (hQ σ a w hr (FrmB.refl _ _ _ _) hf)
 | .ret,s,x,s',h=>by
  simp only [evC,Option.some.injEq,Prod.mk.injEq] at h
  obtain ⟨rfl,rfl⟩:=h
  exact fun σ a w Q hr hf hQ=>wp_ret (hQ σ a w hr (FrmB.refl _ _ _ _) hf)
 | .rangeFunc _ _ _ _,s,x,s',h=>by simp [evC] at h
 | .scope _,s,x,s',h=>by simp [evC] at h
 | .goto _,s,x,s',h=>by simp [evC] at h
 | .refuse _,s,x,s',h=>by simp [evC] at h
end Go.Eng
namespace Go.Eng
open Go
def AY:List AVal→Nat→TL
 | [],_=>[]
 | v::l,i=>(i,v)::AY l (i+1)
theorem E8:∀ {l:List AVal}{i s:Nat}{v:AVal},Aa (AY l i) s=some v→i≤s∧l[s - i]? = some v
 | [],i,s,v,h=>by simp [AY,Aa] at h
 | x::l,i,s,v,h=>by
  simp only [AY,Aa] at h
  rcases beq_cases i s with ⟨he,hb⟩ | ⟨he,hb⟩ <;> rw [hb] at h <;> simp only [cond_true,cond_false] at h
  ·subst he; simpa using h
  ·obtain ⟨h1,h2⟩:=E8 h
   refine ⟨by omega,?_⟩
   rw [show s - i=(s - (i+1))+1 by omega]
   simpa using h2
def resA (P:Program) (T:TL) (H:HL):List ResultVar→Option (List AVal)
 | []=>some []
 | .tmp t::l=>match Aa T t,resA P T H l with
  | some v,some vs=>some (v::vs)
  | _,_=>none
 | .cell a t::l=>match Aa T a with
  | none=>none
  | some x=>match Lp P t x with
   | none=>none
   | some e=>match e.app 0 H,resA P T H l with
    | some (v,_),some vs=>some (v::vs)
    | _,_=>none
theorem J1 {P:Program}{σ:Sig}{nt:Nat}{T:TL}{H:HL}{a:Act}{w:World}(hr:RRel P σ nt T H a w):∀ {l:List ResultVar}{vs:List AVal},resA P T H l=some vs →
  ∃ vs':List Value,(l.mapM (m:=Sem) fun
   | .tmp t=>pure (a.tmps.getD t undef)
   | .cell b t=>do loadVar t (← asAddr (a.tmps.getD b undef))).run P w=.ok vs' w∧LR σ vs vs'.toArray
 | [],vs,h=>by simp only [resA,Option.some.injEq] at h; subst h; exact ⟨[],rfl,LR.nil σ⟩
 | .tmp t::l,vs,h=>by
  simp only [resA] at h
  split at h
  ·rename_i v vs1 h1 h2
   cases h
   obtain ⟨vs',g1,g2⟩:=J1 hr h2
   obtain ⟨v',q1,q2⟩:=hr.tmps t v h1
   refine ⟨v'::vs',?_,LR.cons q2 g2⟩
   have e:a.tmps.getD t undef=v':=by simp [Array.getD_eq_getD_getElem?,q1]
   simp only [List.mapM_cons,Sem.run_bind,Sem.run_pure,e,Result.andThen_ok,g1]
  ·cases h
 | .cell b t::l,vs,h=>by
  simp only [resA] at h
  split at h
  ·cases h
  ·rename_i x hx
   split at h
   ·cases h
   ·rename_i e he
    split at h
    ·rename_i v H1 vs1 h1 h2
     cases h
     obtain ⟨vs',g1,g2⟩:=J1 hr h2
     obtain ⟨x',q1,q2⟩:=hr.tmps b x hx
     obtain ⟨_,v',k1,k2⟩:=Pa (P:=P) (w:=w) he q2 h1 hr.heap
     refine ⟨v'::vs',?_,LR.cons k2 g2⟩
     have e:a.tmps.getD b undef=x':=by simp [Array.getD_eq_getD_getElem?,q1]
     have hk:((do loadVar t (← asAddr x')):Sem Value).run P w=.ok v' w:=by
      cases x <;> simp only [Lp] at he <;> try (cases he; done)
      cases q2
      simpa only [Instr.loadAt,Instr.sureAddr,asAddr,Sem.run_bind,Sem.run_pure,Result.andThen_ok] using k1
     simp only [List.mapM_cons,Sem.run_bind,Sem.run_pure,e] at hk ⊢
     rw [hk]
     simp only [Result.andThen_ok,g1]
    ·cases h
def NN (P:Program) (cs:CS) (nn F:Nat) (fn:Func) (c:Code) (args:List AVal) (H:HL) (fr:Nat):Option (AVal × HL × Nat):=
 cond (Nat.ble args.length fn.ntmps) (match evC P cs fn.ntmps nn F fr c ⟨AY args 0,H,fr⟩ with
  | none=>none
  | some (.exit _,_)=>none
  | some (_,s)=>match resA P s.T s.H fn.results.toList with
   | none=>none
   | some [v]=>some (v,s.H,s.fr)
   | some vs=>some (.tup vs,s.H,s.fr)) none
theorem CO {P:Program}{cs:CS}(hcs:Ai P cs) (hm:P.follows .mixedOrders=true){f:FuncId}{fn:Func}{c:Code}(hf:P.funcs[f]? = some fn) (hb:fn.body=some c){nn F:Nat}{args:List AVal}{H:HL}{fr:Nat}{v:AVal}{H':HL}{fr':Nat}
  (h:NN P cs nn F fn c args H fr=some (v,H',fr')) {σ:Sig} {args':Array Value} {w:World} (ha:LR σ args args') (hH:HRel σ (Aa H) w) (hg:CN P σ) (hfr:AO σ fr) :
  Calls P f args' w fun r w' => ∃ σ' v',r=.returned v'∧VR σ' v v'∧HRel σ' (Aa H') w'∧Frm σ (Aa H) w σ' (Aa H') w'∧AO σ' fr':=by
 unfold NN at h
 cases hn:Nat.ble args.length fn.ntmps <;> rw [hn] at h <;> simp only [cond_true,cond_false] at h
 ·cases h
 have hn:=Nat.le_of_ble_eq_true hn
 refine calls_of_wp hf hb ?_
 have hr0:RRel P σ fn.ntmps (AY args 0) H { tmps:=args' ++ Array.replicate (fn.ntmps - args'.size) undef,defers:=[] } w:=by
  refine ⟨fun s v hv => ?_,by simp [← ha.1]; omega,rfl,hH,hg⟩
  obtain ⟨_,h1⟩:=E8 hv
  obtain ⟨v',g1,g2⟩:=ha.get (by simpa using h1)
  refine ⟨v',?_,g2⟩
  simp only
  rw [Array.getElem?_append_left (Array.getElem?_eq_some_iff.1 g1).1]
  exact g1
 have full:∀ {σ':Sig} {Hx:BP} {w':World},FrmB fr σ (Aa H) w σ' Hx w'→Frm σ (Aa H) w σ' Hx w':=fun {σ' Hx w'} g=>⟨fun n p hp=>g.ext n p (Nat.lt_of_not_le fun hle=>by rw [hfr n hle] at hp; cases hp) hp,g.size,g.os,g.output,g.tape,g.old⟩
 have fin:∀ (s:SA),(match resA P s.T s.H fn.results.toList with
   | none=>none
   | some [v]=>some (v,s.H,s.fr)
   | some vs=>some (.tup vs,s.H,s.fr))=some (v,H',fr')→∀ σ' a' w',RRel P σ' fn.ntmps s.T s.H a' w'→FrmB fr σ (Aa H) w σ' (Aa s.H) w'→AO σ' s.fr →
   a'.defers=[]∧∃ u,(results fn a'.tmps).run P w'=.ok u w'∧∃ σ'' v',Ending.returned u=.returned v'∧VR σ'' v v'∧HRel σ'' (Aa H') w'∧Frm σ (Aa H) w σ'' (Aa H') w'∧AO σ'' fr':=fun s hs σ' a' w' g1 g2 g3=>by
  refine ⟨g1.defers,?_⟩
  cases hres:resA P s.T s.H fn.results.toList with
  | none=>rw [hres] at hs; cases hs
  | some vs =>
   rw [hres] at hs
   obtain ⟨vs',k1,k2⟩:=J1 g1 hres
   have hrun:(fn.results.mapM (m:=Sem) fun
     | .tmp t=>pure (a'.tmps.getD t undef)
     | .cell b t=>do loadVar t (← asAddr (a'.tmps.getD b undef))).run P w'=.ok vs'.toArray w':=by
    rw [Array.mapM_eq_mapM_toList]
    simp only [Sem.run_map,k1,Result.andThen_ok]
   have hres2:(results fn a'.tmps).run P w'=.ok (if h:vs'.toArray.size=1 then vs'.toArray[0] else .tuple vs'.toArray) w':=by
    unfold results
    simp only [Sem.run_bind]
    exact congrArg (fun r=>Result.andThen r fun (vs:Array Value) w''=>(pure (if h:vs.size=1 then vs[0] else .tuple vs):Sem Value).run P w'') hrun
   refine ⟨_,hres2,?_⟩
   match vs,k2,hs with
   | [u],k2,hs =>
    simp only [Option.some.injEq,Prod.mk.injEq] at hs
    obtain ⟨rfl,rfl,rfl⟩:=hs
    obtain ⟨x',e1,e2⟩:=k2.inv1
    have:vs'=[x']:=by simpa using e1
    subst this
    exact ⟨σ',x',rfl,e2,g1.heap,full g2,g3⟩
   | [],k2,hs =>
    simp only [Option.some.injEq,Prod.mk.injEq] at hs
    obtain ⟨rfl,rfl,rfl⟩:=hs
    have hl:vs'.toArray.size ≠ 1:=by have:=k2.1; simp at this ⊢; omega
    rw [dif_neg hl]
    exact ⟨σ',_,rfl,.tup k2.1 k2.2,g1.heap,full g2,g3⟩
   | x::y::l,k2,hs =>
    simp only [Option.some.injEq,Prod.mk.injEq] at hs
    obtain ⟨rfl,rfl,rfl⟩:=hs
    have hl:vs'.toArray.size ≠ 1:=by have:=k2.1; simp at this ⊢; omega
    rw [dif_neg hl]
    exact ⟨σ',_,rfl,.tup k2.1 k2.2,g1.heap,full g2,g3⟩
 cases he:evC P cs fn.ntmps nn F fr c ⟨AY args 0,H,fr⟩ with
 | none=>rw [he] at h; cases h
 | some p =>
  obtain ⟨x,s⟩:=p
  rw [he] at h
  refine BT hcs hm c _ x s he σ _ w _ hr0 hfr fun σ' a' w' g1 g2 g3 => ?_
  cases x with
  | exit id=>cases h
  | normal=>exact fin s h σ' a' w' g1 g2 g3
  | ret=>exact fin s h σ' a' w' g1 g2 g3
theorem LR.cut0 {σ:Sig}{l:List AVal}{l':Array Value}(h:∀ v ∈ l,ltV 0 v=true) (hl:LR σ l l') (σ':Sig):LR σ' l l':=
 ⟨hl.1,fun i v v' h1 h2=>(Hn (h v (List.mem_of_getElem? h1)) (hl.2 i v v' h1 h2)).mono fun n p hp=>by simp [cut] at hp⟩
theorem VR.cut0 {σ:Sig}{v:AVal}{v':Value}(h:ltV 0 v=true) (hv:VR σ v v') (σ':Sig):VR σ' v v':=
 (Hn h hv).mono fun n p hp=>by simp [cut] at hp
def C0:List AVal→Bool
 | []=>true
 | v::l=>cond (ltV 0 v) (C0 l) false
theorem CT:∀ {l:List AVal},C0 l=true→∀ v ∈ l,ltV 0 v=true
 | [],_,v,hv=>by cases hv
 | x::l,h,v,hv=>by
  simp only [C0] at h
  cases hx:ltV 0 x <;> rw [hx] at h <;> simp only [cond_true,cond_false] at h
  ·cases h
  ·rcases List.mem_cons.1 hv with rfl | hv
   ·exact hx
   ·exact CT h v hv
theorem Jn {P:Program}{cs:CS}(hcs:Ai P cs) (hm:P.follows .mixedOrders=true){f:FuncId}{fn:Func}{c:Code}(hf:P.funcs[f]? = some fn) (hb:fn.body=some c){nn F:Nat}{args:List AVal}{v:AVal}{H':HL}{fr':Nat}
  (h:NN P cs nn F fn c args [] P.globals.size=some (v,H',fr')) (ha:C0 args=true) (hv:ltV 0 v=true):AG P f args (.pure v):=by
 intro σ args' H w base v0 H0 hl hg hH happ hfree
 simp only [EffA.app,Option.some.injEq,Prod.mk.injEq] at happ
 obtain ⟨rfl,rfl⟩:=happ
 have hl0:LR (cut P.globals.size σ) args args':=hl.cut0 (CT ha) _
 have hg0:CN P (cut P.globals.size σ):=fun g hgl=>by
  obtain ⟨sz,hs⟩:=hg g hgl
  exact ⟨sz,Cp hs hgl⟩
 refine (CO hcs hm hf hb h hl0 ⟨fun n o hn=>by simp [Aa] at hn,fun n m o o' p q hn=>by simp [Aa] at hn⟩ hg0 (Br _ _)).mono fun r w' hrw => ?_
 obtain ⟨σ',v',rfl,g1,g2,g3,g4⟩:=hrw
 have hold:∀ b,b < w.heap.size→w'.heap[b]? = w.heap[b]?:=fun b hb=>(g3.old b hb fun ⟨n,o,p,a1,_⟩=>by simp [Aa] at a1).1
 refine ⟨σ,v',rfl,g1.cut0 hv σ,⟨fun n o hn => ?_,hH.inj⟩,⟨Sig.le_refl σ,g3.size,g3.os,g3.output,g3.tape,fun b hb hn=>⟨hold b hb,hn⟩⟩,BR.refl σ base⟩
 obtain ⟨p,hp,ho⟩:=hH.obj n o hn
 exact ⟨p,hp,ho.mono (Sig.le_refl σ) (hold _ ho.lt)⟩
end Go.Eng
namespace Go.Eng
open Go
def Au (P:Program) (cs:CS) (nn F:Nat) (f:FuncId) (args:List AVal) (H:HL) (fr:Nat):Option (AVal × HL × Nat):=
 match P.funcs[f]? with
 | none=>none
 | some fn=>match fn.body with
  | none=>none
  | some c=>NN P cs nn F fn c args H fr
theorem BJ {P:Program}{cs:CS}{nn F:Nat}{f:FuncId}{args:List AVal}{H:HL}{fr:Nat}{r:AVal × HL × Nat}(h:Au P cs nn F f args H fr=some r):∃ fn c,P.funcs[f]? = some fn∧fn.body=some c∧NN P cs nn F fn c args H fr=some r:=by
 unfold Au at h
 split at h
 ·cases h
 ·rename_i fn hf
  split at h
  ·cases h
  ·rename_i c hb
   exact ⟨fn,c,hf,hb,h⟩
def Xd (P:Program) (cs:CS) (nn F:Nat) (f:FuncId) (n off:Nat) (rest:List AVal):EffA:=
 .eff fun _ η=>match η n with
  | some (.cells false c)=>cond (ltL 0 c) (match Au P cs nn F f (.ptr P.globals.size off::rest) [(P.globals.size,.cells false c)] (P.globals.size+1) with
   | some (v,H',_)=>match Aa H' P.globals.size with
    | some (.cells false c')=>cond (ltV 0 v && ltL 0 c') (some (v,[(n,some (.cells false c'))])) none
    | _=>none
   | none=>none) none
  | _=>none
theorem KR {P:Program}{cs:CS}(hcs:Ai P cs) (hm:P.follows .mixedOrders=true){nn F:Nat}{f:FuncId}{n off:Nat}{rest:List AVal}(ha:C0 rest=true):AG P f (.ptr n off::rest) (Xd P cs nn F f n off rest):=by
 intro σ args' H w base v0 H0 hl hg hH happ hfree
 simp only [Xd,EffA.app] at happ
 -- what the effect found
 have hx:∃ c r v c',Aa H n=some (.cells false c)∧ltL 0 c=true∧Au P cs nn F f (.ptr P.globals.size off::rest) [(P.globals.size,.cells false c)] (P.globals.size+1)=some r∧r.1=v ∧
   Aa r.2.1 P.globals.size=some (.cells false c')∧ltV 0 v=true∧ltL 0 c'=true∧v0=v∧H0=AX H n (.cells false c'):=by
  cases hn:Aa H n with
  | none=>rw [hn] at happ; cases happ
  | some ob =>
   rw [hn] at happ
   cases ob with
   | cells ro c =>
    cases ro with
    | true=>cases happ
    | false =>
     simp only at happ
     cases hc:ltL 0 c with
     | false=>rw [hc] at happ; cases happ
     | true =>
      rw [hc] at happ
      simp only [cond_true] at happ
      cases hr:Au P cs nn F f (.ptr P.globals.size off::rest) [(P.globals.size,.cells false c)] (P.globals.size+1) with
      | none=>rw [hr] at happ; cases happ
      | some r =>
       obtain ⟨v,H',fr'⟩:=r
       rw [hr] at happ
       simp only at happ
       cases ho:Aa H' P.globals.size with
       | none=>rw [ho] at happ; cases happ
       | some ob' =>
        rw [ho] at happ
        cases ob' with
        | cells ro' c' =>
         cases ro' with
         | true=>cases happ
         | false =>
          simp only at happ
          cases hv:(ltV 0 v && ltL 0 c') with
          | false=>rw [hv] at happ; cases happ
          | true =>
           rw [hv] at happ
           simp only [cond_true,Option.some.injEq,Prod.mk.injEq] at happ
           simp only [Bool.and_eq_true] at hv
           exact ⟨c,_,v,c',rfl,hc,hr,rfl,ho,hv.1,hv.2,happ.1.symm,happ.2.symm⟩
 obtain ⟨c,⟨v,H',fr'⟩,_,c',hn,hc,hrun,rfl,ho,hv,hc',rfl,rfl⟩:=hx
 obtain ⟨fn,body,hf,hb,hrunF⟩:=BJ hrun
 obtain ⟨p,hp,hob⟩:=hH.obj n _ hn
 -- the callee's own names
 let σc:Sig:=fun m=>if m < P.globals.size then σ m else if m=P.globals.size then some p else none
 have hσG:σc P.globals.size=some p:=by simp [σc]
 have hgc:CN P σc:=fun g hgl=>by
  obtain ⟨sz,hs⟩:=hg g hgl
  exact ⟨sz,by simp [σc,hgl,hs]⟩
 have hfr:AO σc (P.globals.size+1):=fun m hm'=>by
  simp only [σc]
  rw [if_neg (by omega),if_neg (by omega)]
 have hlc:LR σc (.ptr P.globals.size off::rest) args':=by
  refine ⟨by simpa using hl.1,fun i u u' h1 h2 => ?_⟩
  cases i with
  | zero =>
   simp at h1; subst h1
   have h3:VR σ (.ptr n off) u':=hl.2 0 _ u' rfl h2
   cases h3 with
   | @ptr _ _ q hq =>
    rw [hp] at hq; cases hq
    exact .ptr hσG
  | succ i =>
   have h3:=hl.2 (i+1) u u' (by simpa using h1) h2
   exact h3.cut0 (CT ha u (List.mem_of_getElem? (by simpa using h1))) _
 have hHc:HRel σc (Aa [(P.globals.size,.cells false c)]) w:=by
  refine ⟨fun m o hm' => ?_,fun m m' o o' q q' h1 h2 _ _ _ => ?_⟩
  ·simp only [Aa] at hm'
   rcases beq_cases P.globals.size m with ⟨he,hbq⟩ | ⟨he,hbq⟩ <;> rw [hbq] at hm' <;> simp only [cond_true,cond_false] at hm'
   ·cases hm'
    subst he
    obtain ⟨d,t,fz,e1,e2,e3,e4⟩:=hob
    refine ⟨p,hσG,d,t,fz,e1,e2,fun i u hi => ?_,e4⟩
    obtain ⟨u',g1,g2⟩:=e3 i u hi
    exact ⟨u',g1,(FB (EL hc u (List.mem_of_getElem? hi)) g2).mono fun n p hp=>by simp [cut] at hp⟩
   ·cases hm'
  ·simp only [Aa] at h1 h2
   rcases beq_cases P.globals.size m with ⟨he,hbq⟩ | ⟨he,hbq⟩ <;> rw [hbq] at h1 <;> simp only [cond_true,cond_false] at h1
   ·rcases beq_cases P.globals.size m' with ⟨he',hbq'⟩ | ⟨he',hbq'⟩ <;> rw [hbq'] at h2 <;> simp only [cond_true,cond_false] at h2
    ·exact .inl (he.symm.trans he')
    ·cases h2
   ·cases h1
 refine (CO hcs hm hf hb hrunF hlc hHc hgc hfr).mono fun r w' hrw => ?_
 obtain ⟨σ',v',rfl,g1,g2,g3,g4⟩:=hrw
 have hold:∀ b,b < w.heap.size→b ≠ p.blk→w'.heap[b]? = w.heap[b]?:=fun b hb hne=>(g3.old b hb fun ⟨m,o,q,a1,a2,a3,a4⟩=>by
  simp only [Aa] at a1
  rcases beq_cases P.globals.size m with ⟨he,hbq⟩ | ⟨he,hbq⟩ <;> rw [hbq] at a1 <;> simp only [cond_true,cond_false] at a1
  ·subst he; rw [hσG] at a3; cases a3; exact hne a4.symm
  ·cases a1).1
 -- the block as it lies behind the call
 have hob':Cu σ w' p (.cells false c'):=by
  obtain ⟨q,hq,hor⟩:=g2.obj _ _ ho
  have:q=p:=Option.some.inj (hq.symm.trans (g3.ext _ _ hσG))
  subst this
  obtain ⟨d,t,fz,e1,e2,e3,e4⟩:=hor
  refine ⟨d,t,fz,e1,e2,fun i u hi => ?_,e4⟩
  obtain ⟨u',k1,k2⟩:=e3 i u hi
  exact ⟨u',k1,(FB (EL hc' u (List.mem_of_getElem? hi)) k2).mono fun n p hp=>by simp [cut] at hp⟩
 refine ⟨σ,v',rfl,g1.cut0 hv σ,?_,?_,BR.refl σ base⟩
 ·rw [Az]
  refine ⟨fun m ob hm' => ?_,fun m1 m2 o1 o2 q1 q2 h1 h2 hq1 hq2 he => ?_⟩
  ·unfold upd at hm'
   split at hm'
   ·rename_i e; subst e; cases hm'; exact ⟨p,hp,hob'⟩
   ·rename_i e
    obtain ⟨q,hq,hr⟩:=hH.obj m ob hm'
    refine ⟨q,hq,hr.mono (Sig.le_refl σ) (hold _ hr.lt fun e' => ?_)⟩
    rcases hH.inj m n ob _ q p hm' hn hq hp e' with e2 | ⟨_,e2⟩
    ·exact e e2.symm
    ·cases e2
  ·unfold upd at h1 h2
   split at h1 <;> split at h2
   ·rename_i e1 e2; exact .inl (e1.symm.trans e2)
   ·rename_i e1 e2; subst e1
    rcases hH.inj n m2 _ o2 q1 q2 hn h2 hq1 hq2 he with e3 | ⟨e3,_⟩
    ·exact .inl e3
    ·cases e3
   ·rename_i e1 e2; subst e2
    rcases hH.inj m1 n o1 _ q1 q2 h1 hn hq1 hq2 he with e3 | ⟨_,e3⟩
    ·exact .inl e3
    ·cases e3
   ·exact hH.inj m1 m2 o1 o2 q1 q2 h1 h2 hq1 hq2 he
 ·rw [Az]
  have hown:Own σ (Aa H) p.blk:=⟨n,_,p,hn,rfl,hp,rfl⟩
  refine ⟨Sig.le_refl σ,g3.size,g3.os,g3.output,g3.tape,fun b hb hno=>⟨hold b hb fun e=>hno (e ▸ hown),?_⟩⟩
  rintro ⟨m,o2,q,k1,k2,k3,k4⟩
  unfold upd at k1
  split at k1
  ·rename_i e; subst e; rw [hp] at k3; cases k3; exact hno (k4 ▸ hown)
  ·exact hno ⟨m,o2,q,k1,k2,k3,k4⟩
def inl (P:Program) (nn:FuncId→Nat) (F:Nat) (cs:CS):Nat→CS
 | 0=>cs
 | n+1=>fun f args=>match cs f args with
  | some e=>some e
  | none=>match args with
   | .ptr m off::rest=>cond (C0 rest) (some (Xd P (inl P nn F cs n) (nn f) F f m off rest)) none
   | args=>cond (C0 args) (match Au P (inl P nn F cs n) (nn f) F f args [] P.globals.size with
    | some (v,_,_)=>cond (ltV 0 v) (some (.pure v)) none
    | none=>none) none
theorem Q6 {P:Program}(hm:P.follows .mixedOrders=true){nn:FuncId→Nat}{F:Nat}{cs:CS}(hcs:Ai P cs):∀ n,Ai P (inl P nn F cs n)
 | 0=>hcs
 | n+1=>fun f args e h=>by
  have ih:=Q6 hm (nn:=nn) (F:=F) hcs n
  simp only [inl] at h
  split at h
  ·rename_i e' he
   cases h
   exact hcs f args e he
  ·split at h
   ·rename_i m off rest _
    cases ha:C0 rest with
    | false=>rw [ha] at h; cases h
    | true =>
     rw [ha] at h
     simp only [cond_true,Option.some.injEq] at h
     subst h
     exact KR ih hm ha
   ·cases ha:C0 args with
    | false=>rw [ha] at h; cases h
    | true =>
     rw [ha] at h
     simp only [cond_true] at h
     split at h
     ·rename_i v H' fr' hr
      cases hv:ltV 0 v with
      | false=>rw [hv] at h; cases h
      | true =>
       rw [hv] at h
       simp only [cond_true,Option.some.injEq] at h
       subst h
       obtain ⟨fn,c,hf,hb,hrun⟩:=BJ hr
       exact Jn ih hm hf hb hrun ha hv
     ·cases h
def Bn:CS:=fun _ _=>none
theorem A7 (P:Program):Ai P Bn:=fun _ _ _ h=>by cases h
end Go.Eng
namespace Go.Eng
open Go
theorem AG.less {P:Program}{f:FuncId}{args:List AVal}{e e':EffA}(h:AG P f args e) (he:∀ base H r,e'.app base H=some r→e.app base H=some r):AG P f args e':=
 fun σ args' H w base v H' hl hg hH happ hf=>h σ args' H w base v H' hl hg hH (he base H (v,H') happ) hf
theorem E3 {P:Program}{cs:CS}(hcs:Ai P cs) (hm:P.follows .mixedOrders=true){nn F:Nat}{f:FuncId}{args:List AVal}{r:AVal × HL × Nat}(h:Au P cs nn F f args [] P.globals.size=some r) (ha:C0 args=true) (hv:ltV 0 r.1=true):AG P f args (.pure r.1):=by
 obtain ⟨fn,c,hf,hb,hr⟩:=BJ h
 obtain ⟨v,H',fr'⟩:=r
 exact Jn hcs hm hf hb hr ha hv
def EH:List AVal→Option (List UInt32)
 | []=>some []
 | .u32 x::l=>match EH l with
  | some xs=>some (x::xs)
  | none=>none
 | _=>none
theorem G5:∀ {c:List AVal}{x:List UInt32},EH c=some x→c=x.map .u32
 | [],x,h=>by simp only [EH,Option.some.injEq] at h; subst h; rfl
 | v::l,x,h=>by
  cases v <;> simp only [EH] at h <;> try (cases h; done)
  split at h
  ·rename_i xs hx
   cases h
   rw [G5 hx]; rfl
  ·cases h
theorem Hv (m:Nat):∀ (x:List UInt32),ltL m (x.map .u32)=true
 | []=>rfl
 | _::l=>Hv m l
theorem Tr (m:Nat):∀ (x:List UInt64),ltL m (x.map .u64)=true
 | []=>rfl
 | _::l=>Tr m l
theorem FJ (m:Nat):∀ (x:List UInt8),ltL m (x.map .u8)=true
 | []=>rfl
 | _::l=>FJ m l
theorem XG {P:Program}{cs:CS}{nn F:Nat}{f:FuncId}{n off base:Nat}{rest:List AVal}{H:HL}{c c':List AVal}{v:AVal}{r:AVal × HL × Nat}(hn:Aa H n=some (.cells false c)) (hc:ltL 0 c=true)
  (hr:Au P cs nn F f (.ptr P.globals.size off::rest) [(P.globals.size,.cells false c)] (P.globals.size+1)=some r) (h1:r.1=v) (h2:Aa r.2.1 P.globals.size=some (.cells false c')) (hv:ltV 0 v=true) (hc':ltL 0 c'=true) :
  (Xd P cs nn F f n off rest).app base H=some (v,AX H n (.cells false c')):=by
 obtain ⟨v',H',fr'⟩:=r
 simp only at h1 h2
 subst h1
 simp only [Xd,EffA.app,hn,hc,cond_true,hr,h2,hv,hc',Bool.and_self,Bo]
def Aw:Code→List Code
 | .seq a b=>Aw a++Aw b
 | c=>[c]
def evS (P:Program) (cs:CS) (nt nn F bs:Nat):List Code→SA→Option (XA × SA)
 | [],s=>some (.normal,s)
 | c::l,s=>match evC P cs nt nn F bs c s with
  | some (.normal,s')=>evS P cs nt nn F bs l s'
  | r=>r
theorem BL {P:Program}{cs:CS}{nt nn F bs:Nat}{c:Code}{s:SA}:evS P cs nt nn F bs [c] s=evC P cs nt nn F bs c s:=by
 simp only [evS]
 split
 ·rename_i h; rw [h]
 ·rfl
theorem NY {P:Program}{cs:CS}{nt nn F bs:Nat}:∀ {l m:List Code}{s:SA},evS P cs nt nn F bs (l++m) s=match evS P cs nt nn F bs l s with
  | some (.normal,s')=>evS P cs nt nn F bs m s'
  | r=>r
 | [],m,s=>rfl
 | c::l,m,s=>by
  simp only [evS,List.cons_append]
  cases hc:evC P cs nt nn F bs c s with
  | none=>rfl
  | some p =>
   obtain ⟨x,s1⟩:=p
   cases x with
   | normal=>exact NY
   | exit id=>rfl
   | ret=>rfl
theorem Ca {P:Program}{cs:CS}{nt nn F bs:Nat}:∀ (c:Code) (s:SA),evC P cs nt nn F bs c s=evS P cs nt nn F bs (Aw c) s
 | .seq a b,s=>by
  rw [Aw,NY,← Ca a s]
  simp only [evC]
  cases evC P cs nt nn F bs a s with
  | none=>rfl
  | some p =>
   obtain ⟨x,s1⟩:=p
   cases x with
   | normal=>exact Ca b s1
   | exit id=>rfl
   | ret=>rfl
 | .skip,s=>BL.symm
 | .label _,s=>BL.symm
 | .region _ _ _,s=>BL.symm
 | .cond _ _ _,s=>BL.symm
 | .block _ _,s=>BL.symm
 | .loop _,s=>BL.symm
 | .exit _,s=>BL.symm
 | .ret,s=>BL.symm
 | .rangeFunc _ _ _ _,s=>BL.symm
 | .scope _,s=>BL.symm
 | .goto _,s=>BL.symm
 | .refuse _,s=>BL.symm
theorem DI {P:Program}{cs:CS}{nt nn F bs:Nat}{l m:List Code}{s s':SA}(h:evS P cs nt nn F bs l s=some (.normal,s')):evS P cs nt nn F bs (l++m) s=evS P cs nt nn F bs m s':=by
 rw [NY,h]
theorem Nq {P:Program}{cs:CS}{nt nn F bs:Nat}{l:List Code}{k m:Nat}{s s':SA}(h:evS P cs nt nn F bs ((l.drop k).take m) s=some (.normal,s')) :
  evS P cs nt nn F bs (l.drop k) s=evS P cs nt nn F bs (l.drop (k+m)) s':=by
 have e:l.drop k=(l.drop k).take m++l.drop (k+m):=by rw [← List.drop_drop]; exact (List.take_append_drop m (l.drop k)).symm
 rw [e,DI h]
def A6:Code→Code
 | .block _ (.loop b)=>b
 | c=>c
theorem MY {f:SA→Option (XA × SA)}{hd:SA→SA}(I:Nat→SA){x:XA}{s1:SA}(hx:x ≠ .normal):∀ (N:Nat),(∀ k,k < N→∃ s',f (I k)=some (.normal,s')∧hd s'=I (k+1))→f (I N)=some (x,s1)→∀ F,N < F→∀ j,j≤N→Ev f hd (F - j) (I j)=some (x,s1):=by
 intro N hstep hend F hF j hj
 obtain ⟨m,hm⟩:∃ m,N - j=m:=⟨_,rfl⟩
 induction m generalizing j with
 | zero =>
  have:j=N:=by omega
  subst this
  obtain ⟨n,hn⟩:∃ n,F - j=n+1:=⟨F - j - 1,by omega⟩
  rw [hn]
  simp only [Ev,hend]
  cases x with
  | normal=>exact absurd rfl hx
  | exit id=>rfl
  | ret=>rfl
 | succ m ih =>
  obtain ⟨s',h1,h2⟩:=hstep j (by omega)
  obtain ⟨n,hn⟩:∃ n,F - j=n+1:=⟨F - j - 1,by omega⟩
  rw [hn]
  simp only [Ev,h1,h2]
  have:=ih (j+1) (by omega) (by omega)
  rw [show F - (j+1)=n by omega] at this
  exact this
theorem Wr {P:Program}{cs:CS}{nt nn F bs:Nat}{id:Nat}{b:Code}(I:Nat→SA) (N:Nat){s1:SA}(hstep:∀ k,k < N→∃ s',evC P cs nt nn F bs b (I k)=some (.normal,s')∧AW P bs (I 0) s'=I (k+1)) (hend:evC P cs nt nn F bs b (I N)=some (.exit id,s1)) (hF:N < F) :
  evC P cs nt nn F bs (.block id (.loop b)) (I 0)=some (.normal,s1):=by
 have:=MY (f:=evC P cs nt nn F bs b) (hd:=AW P bs (I 0)) I (x:=.exit id) (s1:=s1) (by simp) N hstep hend F hF 0 (by omega)
 simp only [evC]
 rw [Nat.sub_zero] at this
 rw [this]
 simp
theorem NS {P:Program}{cs:CS}{nt nn F bs:Nat}{id:Nat}{b:Code}(I:Nat→SA) (N:Nat){s1:SA}(hstep:∀ k,k < N→∃ s',evC P cs nt nn F bs b (I k)=some (.normal,s')∧AW P bs (I 0) s'=I (k+1)) (hend:evC P cs nt nn F bs b (I N)=some (.ret,s1)) (hF:N < F) :
  evC P cs nt nn F bs (.block id (.loop b)) (I 0)=some (.ret,s1):=by
 have:=MY (f:=evC P cs nt nn F bs b) (hd:=AW P bs (I 0)) I (x:=.ret) (s1:=s1) (by simp) N hstep hend F hF 0 (by omega)
 simp only [evC]
 rw [Nat.sub_zero] at this
 rw [this]
def AU (f:SA→Option (XA × SA)) (hd:SA→SA) (s:SA):Option SA:=
 match f s with
 | some (.normal,s')=>some (hd s')
 | _=>none
theorem Jl {f:SA→Option (XA × SA)}{hd:SA→SA}{s s1:SA}(h:AU f hd s=some s1):∃ s',f s=some (.normal,s')∧hd s'=s1:=by
 unfold AU at h
 split at h
 ·rename_i s' hs
  cases h
  exact ⟨s',hs,rfl⟩
 ·cases h
theorem BZ {P:Program}{cs:CS}{nt nn F bs:Nat}{l:List Code}{k id:Nat}{b:Code}(hk:l[k]? = some (.block id (.loop b))) (I:Nat→SA) (N:Nat){s1:SA}(hstep:∀ k,k < N→AU (evC P cs nt nn F bs b) (AW P bs (I 0)) (I k)=some (I (k+1)))
  (hend:evC P cs nt nn F bs b (I N)=some (.exit id,s1)) (hF:N < F):evS P cs nt nn F bs (l.drop k) (I 0)=evS P cs nt nn F bs (l.drop (k+1)) s1:=by
 have hlt:=(List.getElem?_eq_some_iff.1 hk).1
 have e:l.drop k=.block id (.loop b)::l.drop (k+1):=by
  rw [List.drop_eq_getElem_cons hlt]
  rw [List.getElem?_eq_getElem hlt] at hk
  rw [Option.some.inj hk]
 rw [e]
 simp only [evS,Wr I N (fun k h=>Jl (hstep k h)) hend hF]
def CM (P:Program) (fn:Func):Option (XA × SA)→Option AVal
 | none=>none
 | some (.exit _,_)=>none
 | some (_,s)=>match resA P s.T s.H fn.results.toList with
  | none=>none
  | some [v]=>some v
  | some vs=>some (.tup vs)
theorem Gc {P:Program}{cs:CS}{nn F:Nat}{f:FuncId}{fn:Func}{c:Code}{args:List AVal}{H:HL}{fr:Nat}(hf:P.funcs[f]? = some fn) (hb:fn.body=some c) (hn:Nat.ble args.length fn.ntmps=true) :
  (Au P cs nn F f args H fr).map (·.1)=CM P fn (evS P cs fn.ntmps nn F fr (Aw c) ⟨AY args 0,H,fr⟩):=by
 unfold Au
 simp only [hf,hb]
 unfold NN
 rw [hn,Ca]
 cases evS P cs fn.ntmps nn F fr (Aw c) ⟨AY args 0,H,fr⟩ with
 | none=>rfl
 | some p =>
  obtain ⟨x,s⟩:=p
  cases x with
  | exit id=>rfl
  | normal =>
   simp only [cond_true,CM]
   cases resA P s.T s.H fn.results.toList with
   | none=>rfl
   | some vs=>match vs with
    | []=>rfl
    | [_]=>rfl
    | _::_::_=>rfl
  | ret =>
   simp only [cond_true,CM]
   cases resA P s.T s.H fn.results.toList with
   | none=>rfl
   | some vs=>match vs with
    | []=>rfl
    | [_]=>rfl
    | _::_::_=>rfl
theorem aah {P:Program}{cs:CS}{nn F:Nat}{f:FuncId}{fn:Func}{c:Code}{args:List AVal}{H:HL}{fr:Nat}(hf:P.funcs[f]? = some fn) (hb:fn.body=some c) (hn:Nat.ble args.length fn.ntmps=true){x:XA}{s:SA}
  (h:evS P cs fn.ntmps nn F fr (Aw c) ⟨AY args 0,H,fr⟩=some (x,s)) (hx:(match x with | .exit _=>false | _=>true)=true):Au P cs nn F f args H fr=match resA P s.T s.H fn.results.toList with
   | none=>none
   | some [v]=>some (v,s.H,s.fr)
   | some vs=>some (.tup vs,s.H,s.fr):=by
 unfold Au
 simp only [hf,hb]
 unfold NN
 rw [hn,Ca,h]
 cases x with
 | normal=>rfl
 | ret=>rfl
 | exit id=>cases hx
end Go.Eng
namespace Go.Eng
open Go
theorem afI (a b:Nat):Nat.ble a b=decide (a≤b):=by rw [Bool.eq_iff_iff]; simp
theorem QF {α β:Type}{x:Option α}{g:α→β}{y:β}(h:x.map g=some y):∃ r,x=some r∧g r=y:=by
 cases x with
 | none=>cases h
 | some r=>exact ⟨r,rfl,Option.some.inj h⟩
def Ag (f:FuncId) (g:List AVal→Option EffA):CS:=fun f' args=>match Nat.beq f' f with
 | true=>g args
 | false=>none
theorem Ak {P:Program}{f:FuncId}{g:List AVal→Option EffA}(h:∀ args e,g args=some e→AG P f args e):Ai P (Ag f g):=by
 intro f' args e he
 unfold Ag at he
 split at he
 ·rename_i hb
  rw [Nat.eq_of_beq_eq_true hb]
  exact h args e he
 ·cases he
def At (a b:CS):CS:=fun f args=>match a f args with
 | some e=>some e
 | none=>b f args
theorem Af {P:Program}{a b:CS}(ha:Ai P a) (hb:Ai P b):Ai P (At a b):=by
 intro f args e he
 unfold At at he
 split at he
 ·rename_i e' h'
  cases he
  exact ha f args _ h'
 ·exact hb f args e he
theorem Ac {P:Program}{cs:CS}(hcs:Ai P cs) (hm:P.follows .mixedOrders=true){nn F:Nat}{f:FuncId}{args:List AVal}{v:AVal}(h:(Au P cs nn F f args [] P.globals.size).map (·.1)=some v) (ha:C0 args=true) (hv:ltV 0 v=true):AG P f args (.pure v):=by
 obtain ⟨r,hr,hrv⟩:=QF h
 have:=E3 hcs hm hr ha (by rw [hrv]; exact hv)
 rwa [hrv] at this
def YC (P:Program):Sig:=fun g=>if g < P.globals.size then some ⟨g,0,0,none⟩ else none
theorem afD (P:Program):CN P (YC P):=fun g hg=>⟨0,by simp [YC,hg]⟩
def UI (W w':World):Prop:=W.keptBut w' (fun _=>False)∧(∀ a:Addr,a.block < W.heap.size→w'.frozen? a=W.frozen? a)∧W.heap.size≤w'.heap.size
theorem aat {w w':World}(h1:w'.os=w.os) (h2:w'.output=w.output) (h3:w.heap.size≤w'.heap.size) (h4:∀ b,b < w.heap.size→w'.heap[b]? = w.heap[b]?):UI w w':=by
 refine ⟨⟨h1,h2,fun i hi => ?_⟩,fun a ha => ?_,h3⟩
 ·rw [h4 i hi]
  cases w.heap[i]? with
  | none=>exact rfl
  | some o=>cases o with
   | cells c t fz=>exact ⟨rfl,rfl,rfl,fun _ _=>rfl⟩
   | map es cl=>exact .inr ⟨rfl,rfl⟩
   | _=>exact rfl
 ·unfold World.frozen?
  rw [h4 a.block ha]
end Go.Eng
namespace Go.Eng
open Go
theorem Gt {P:Program}{cs:CS}{nt:Nat}{ops:Array Oper}{o:Oper}{l:List Oper}{b b1:Nat}{T T1:TL}{H H1:HL}{r:Option (TL × HL)}(h:DX P cs nt ops b o T H=some (T1,H1)) (hb:b+8=b1) (hr:DS P cs nt ops l b1 T1 H1=r):DS P cs nt ops (o::l) b T H=r:=by
 subst hb
 simp only [DS,h]
 exact hr
theorem ML {P:Program}{cs:CS}{nt nn F bs id:Nat}{b:Code}{s s1:SA}(h:evC P cs nt nn F bs b s=some (.normal,s1)):evC P cs nt nn F bs (.block id b) s=some (.normal,s1):=by
 simp only [evC,h]
theorem EG {x:Int}{n:Nat}(h1:0≤x) (h2:x < n):idx x n=some x.toNat:=by
 unfold idx
 rw [decide_eq_true h1,decide_eq_true h2]; rfl
theorem V8 {α:Type}(f:α→AVal) (w:List α) (i:Nat) (x:α) (h:i < w.length):B4 (w.map f) i [f x]=(w.set i x).map f:=by
 unfold B4
 rw [List.set_eq_take_append_cons_drop,if_pos h]
 simp [List.map_take,List.map_drop]
end Go.Eng
