/- Texts Eng1, Eng2, Eng3, Eng4, Eng5: what they show that this claim uses. -/
import Derived.WalkKit
import Derived.Lib.Strings
set_option maxRecDepth 100000
set_option maxHeartbeats 1000000
set_option linter.unusedVariables false
set_option linter.unusedSimpArgs false
namespace Go.Eng
open Go
inductive AVal where
 | bool (b:Bool)
 | u8 (x:UInt8)
 | u32 (x:UInt32)
 | u64 (x:UInt64)
 | b64 (b:Bool)
 | int (k:IntKind) (n:Int)
 | str (s:List UInt8)
 | nilPtr
 | ptr (n off:Nat)
 | nilSlice
 | slice (n off len esz:Nat)
 | nilMap
 | map (n:Nat)
 | nilFunc
 | fn (f:FuncId) (cap:List AVal)
 | nilIface
 | iface (t:TypeId) (v:AVal)
 | agg (cs:List AVal)
 | tup (vs:List AVal)
 | tp (n:Nat) (t:TypeId) (b:Bool)
 | mth0 (f:FuncId)
 | mth (f:FuncId) (n off:Nat)
inductive AObj where
 | cells (ro:Bool) (c:List AVal)
 | mp (c:List AVal)
def AObj.ro:AObj→Bool
 | .cells ro _=>ro
 | .mp _=>false
def aget {α:Type}:List (Nat × α)→Nat→Option α
 | [],_=>none
 | (k,v)::l,n=>cond (Nat.beq k n) (some v) (aget l n)
def aset {α:Type}:List (Nat × α)→Nat→α→List (Nat × α)
 | [],n,v=>[(n,v)]
 | (k,u)::l,n,v=>cond (Nat.beq k n) ((n,v)::l) ((k,u)::aset l n v)
def adel {α:Type}:List (Nat × α)→Nat→List (Nat × α)
 | [],_=>[]
 | (k,u)::l,n=>cond (Nat.beq k n) (adel l n) ((k,u)::adel l n)
theorem beq_cases (k n:Nat):(k=n∧Nat.beq k n=true) ∨ (k ≠ n∧Nat.beq k n=false):=by
 by_cases h:k=n
 ·exact .inl ⟨h,by subst h; exact Nat.beq_refl k⟩
 ·refine .inr ⟨h,?_⟩
  cases hb:Nat.beq k n with
  | false=>rfl
  | true=>exact absurd (Nat.eq_of_beq_eq_true hb) h
theorem aget_aset {α:Type}(l:List (Nat × α)) (n:Nat) (v:α) (m:Nat):aget (aset l n v) m=if n=m then some v else aget l m:=by
 induction l with
 | nil =>
  rcases beq_cases n m with ⟨h,hb⟩ | ⟨h,hb⟩ <;> simp [aset,aget,h,hb]
 | cons x l ih =>
  obtain ⟨k,u⟩:=x
  rcases beq_cases k n with ⟨h,hb⟩ | ⟨h,hb⟩
  ·subst h
   rcases beq_cases k m with ⟨h2,hb2⟩ | ⟨h2,hb2⟩ <;> simp [aset,aget,hb2,h2]
  ·simp only [aset,hb,cond_false,aget]
   rcases beq_cases k m with ⟨h2,hb2⟩ | ⟨h2,hb2⟩
   ·subst h2
    simp [Ne.symm h]
   ·simp [hb2,ih]
theorem aget_adel {α:Type}(l:List (Nat × α)) (n m:Nat):aget (adel l n) m=if n=m then none else aget l m:=by
 induction l with
 | nil=>simp [adel,aget]
 | cons x l ih =>
  obtain ⟨k,u⟩:=x
  rcases beq_cases k n with ⟨h,hb⟩ | ⟨h,hb⟩
  ·subst h
   simp only [adel,hb,cond_true,ih,aget]
   rcases beq_cases k m with ⟨h2,hb2⟩ | ⟨h2,hb2⟩
   ·simp [h2]
   ·simp [hb2,h2]
  ·simp only [adel,hb,cond_false,aget,ih]
   rcases beq_cases k m with ⟨h2,hb2⟩ | ⟨h2,hb2⟩
   ·subst h2
    simp [Ne.symm h]
   ·simp [hb2]
structure Place where
 blk:Nat
 sh:Nat
 sz:Nat
 ty:Option TypeId
abbrev Sig:=Nat→Option Place
inductive VR (σ:Sig):AVal→Value→Prop where
 | bool (b:Bool):VR σ (.bool b) (.bool b)
 | u8 (x:UInt8):VR σ (.u8 x) (.int .u8 x.toNat)
 | u32 (x:UInt32):VR σ (.u32 x) (.int .u32 x.toNat)
 | u64 (x:UInt64):VR σ (.u64 x) (.int .u64 x.toNat)
 | b64 (b:Bool):VR σ (.b64 b) (.int .u64 ((cond b (1:UInt64) 0).toNat:Int))
 | int (k:IntKind) (n:Int):VR σ (.int k n) (.int k n)
 | str (l:List UInt8):VR σ (.str l) (.string ⟨l.toArray⟩)
 | nilPtr:VR σ .nilPtr (.pointer none)
 | ptr {n off:Nat} {p:Place} (h:σ n=some p):VR σ (.ptr n off) (.pointer (some ⟨p.blk,p.sh+off,none⟩))
 | nilSlice:VR σ .nilSlice (.slice none 0 0)
 | slice {n off len esz:Nat} {p:Place} {o cap:Nat} (h:σ n=some p) (ho:len=0 ∨ o=p.sh+off) (hc:len≤cap) (hs:o+cap * esz≤p.sz) :
   VR σ (.slice n off len esz) (.slice (some ⟨p.blk,o,none⟩) len cap)
 | nilMap:VR σ .nilMap (.map none)
 | map {n:Nat} {p:Place} (h:σ n=some p):VR σ (.map n) (.map (some p.blk))
 | nilFunc:VR σ .nilFunc .nilFunc
 | fn {f:FuncId} {cap:List AVal} {cap':Array Value} (hs:cap.length=cap'.size) (h:∀ (i:Nat) v v',cap[i]? = some v→cap'[i]? = some v'→VR σ v v') :
   VR σ (.fn f cap) (.func (.func f) #[] cap')
 | nilIface:VR σ .nilIface .nilIface
 | iface {t:TypeId} {v:AVal} {v':Value} (h:VR σ v v'):VR σ (.iface t v) (.iface t v')
 | agg {cs:List AVal} {cs':Array Value} (hs:cs.length=cs'.size) (h:∀ (i:Nat) v v',cs[i]? = some v→cs'[i]? = some v'→VR σ v v'):VR σ (.agg cs) (.agg cs')
 | tup {vs:List AVal} {vs':Array Value} (hs:vs.length=vs'.size) (h:∀ (i:Nat) v v',vs[i]? = some v→vs'[i]? = some v'→VR σ v v'):VR σ (.tup vs) (.tuple vs')
 | tp0 {n:Nat} {t:TypeId} {p:Place} (h:σ n=some p) (ht:p.ty=some t) (h0:p.sh=0) (h2:p.sz=2):VR σ (.tp n t false) (.pointer none)
 | tp1 {n:Nat} {t:TypeId} {p:Place} (h:σ n=some p) (ht:p.ty=some t) (h0:p.sh=0) (h2:p.sz=2):VR σ (.tp n t true) (.pointer (some ⟨p.blk,0,none⟩))
 | mth0 {f:FuncId}:VR σ (.mth0 f) (.func (.func f) #[.pointer none] #[])
 | mth {f:FuncId} {n off:Nat} {p:Place} (h:σ n=some p):VR σ (.mth f n off) (.func (.func f) #[.pointer (some ⟨p.blk,p.sh+off,none⟩)] #[])
def Sig.le (σ σ':Sig):Prop:=∀ n p,σ n=some p→σ' n=some p
theorem Sig.le_refl (σ:Sig):Sig.le σ σ:=fun _ _ h=>h
theorem Sig.le_trans {σ σ' σ'':Sig}(h:Sig.le σ σ') (k:Sig.le σ' σ''):Sig.le σ σ'':=fun n p hp=>k n p (h n p hp)
theorem VR.mono {σ σ':Sig}(h:Sig.le σ σ'){v:AVal}{v':Value}(hv:VR σ v v'):VR σ' v v':=by
 induction hv with
 | bool b=>exact .bool b
 | u8 x=>exact .u8 x
 | u32 x=>exact .u32 x
 | u64 x=>exact .u64 x
 | b64 b=>exact .b64 b
 | int k n=>exact .int k n
 | str l=>exact .str l
 | nilPtr=>exact .nilPtr
 | ptr hp=>exact .ptr (h _ _ hp)
 | nilSlice=>exact .nilSlice
 | slice hp ho hc hs=>exact .slice (h _ _ hp) ho hc hs
 | nilMap=>exact .nilMap
 | map hp=>exact .map (h _ _ hp)
 | nilFunc=>exact .nilFunc
 | fn hs _ ih=>exact .fn hs ih
 | nilIface=>exact .nilIface
 | iface _ ih=>exact .iface ih
 | agg hs _ ih=>exact .agg hs ih
 | tup hs _ ih=>exact .tup hs ih
 | tp0 hp a b c=>exact .tp0 (h _ _ hp) a b c
 | tp1 hp a b c=>exact .tp1 (h _ _ hp) a b c
 | mth0=>exact .mth0
 | mth hp=>exact .mth (h _ _ hp)
def LR (σ:Sig) (l:List AVal) (l':Array Value):Prop:=l.length=l'.size∧∀ (i:Nat) v v',l[i]? = some v→l'[i]? = some v'→VR σ v v'
theorem LR.mono {σ σ':Sig}(h:Sig.le σ σ'){l:List AVal}{l':Array Value}(hl:LR σ l l'):LR σ' l l':=⟨hl.1,fun i v v' h1 h2=>(hl.2 i v v' h1 h2).mono h⟩
theorem LR.get {σ:Sig}{l:List AVal}{l':Array Value}(hl:LR σ l l'){i:Nat}{v:AVal}(h:l[i]? = some v):∃ v',l'[i]? = some v'∧VR σ v v':=by
 have hi:i < l.length:=(List.getElem?_eq_some_iff.1 h).1
 have hi':i < l'.size:=hl.1 ▸ hi
 exact ⟨l'[i],by simp [hi'],hl.2 i v _ h (by simp [hi'])⟩
theorem LR.nil (σ:Sig):LR σ [] #[]:=⟨rfl,fun i v v' h=>by simp at h⟩
theorem LR.of_list {σ:Sig}{l:List AVal}{l':List Value}(hs:l.length=l'.length) (h:∀ (i:Nat) v v',l[i]? = some v→l'[i]? = some v'→VR σ v v'):LR σ l l'.toArray:=
 ⟨by simpa using hs,fun i v v' h1 h2=>h i v v' h1 (by simpa using h2)⟩
theorem LR.cons {σ:Sig}{v:AVal}{v':Value}{l:List AVal}{l':List Value}(hv:VR σ v v') (hl:LR σ l l'.toArray):LR σ (v::l) (v'::l').toArray:=by
 refine LR.of_list (by have:=hl.1; simpa using this) fun i u u' h h' => ?_
 cases i with
 | zero=>simp at h h'; subst h; subst h'; exact hv
 | succ i=>exact hl.2 i u u' (by simpa using h) (by simpa using h')
def Stm (en:List MapEntry) (clk:Nat):Prop:=(∀ x ∈ en,x.born < clk)∧(en.map (·.born)).Nodup
def flatE (es:List MapEntry):Array Value:=(es.flatMap fun e=>[e.key,e.val]).toArray
def MR (σ:Sig) (c:List AVal) (en:Array MapEntry):Prop:=∃ L,L.Perm en.toList∧LR σ c (flatE L)
theorem MR.imp {σ σ':Sig}{c c':List AVal}{en:Array MapEntry}(h:MR σ c en) (f:∀ l',LR σ c l'→LR σ' c' l'):MR σ' c' en:=by
 obtain ⟨L,h1,h2⟩:=h
 exact ⟨L,h1,f _ h2⟩
def ORel (σ:Sig) (w:World) (p:Place):AObj→Prop
 | .cells ro c => ∃ c' t fz,w.heap[p.blk]? = some (.cells c' t fz)∧c'.size=p.sz ∧
   (∀ (i:Nat) v,c[i]? = some v→∃ v',c'[p.sh+i]? = some v'∧VR σ v v')∧(ro=false→p.sz≤fz.1 ∨ fz.2≤fz.1)∧∀ T,p.ty=some T→t=T
 | .mp c => ∃ en clk,w.heap[p.blk]? = some (.map en clk)∧Stm en.toList clk∧MR σ c en
abbrev Heap:=Nat→Option AObj
abbrev Tmps:=Nat→Option AVal
def upd {α:Type}(f:Nat→Option α) (n:Nat) (v:α):Nat→Option α:=fun m=>if n=m then some v else f m
theorem aget_aset_fun {α:Type}(l:List (Nat × α)) (n:Nat) (v:α):aget (aset l n v)=upd (aget l) n v:=funext fun m=>aget_aset l n v m
theorem upd_same {α:Type}(f:Nat→Option α) (n:Nat) (v:α):upd f n v n=some v:=by simp [upd]
theorem upd_other {α:Type}(f:Nat→Option α){n m:Nat}(v:α) (h:n ≠ m):upd f n v m=f m:=by simp [upd,h]
theorem upd_comm {α:Type}(f:Nat→Option α){n m:Nat}(u v:α) (h:n ≠ m):upd (upd f n u) m v=upd (upd f m v) n u:=by
 funext k
 by_cases h1:n=k
 ·subst h1; simp [upd,Ne.symm h]
 ·simp [upd,h1]
structure HRel (σ:Sig) (H:Heap) (w:World):Prop where
 obj:∀ n o,H n=some o→∃ p,σ n=some p∧ORel σ w p o
 inj:∀ n m o o' p q,H n=some o→H m=some o'→σ n=some p→σ m=some q→p.blk=q.blk→n=m ∨ (o.ro=true∧o'.ro=true)
def TRel (σ:Sig) (T:Tmps) (a:Act):Prop:=∀ s v,T s=some v→∃ v',a.tmps[s]? = some v'∧VR σ v v'
def Own (σ:Sig) (H:Heap) (b:Nat):Prop:=∃ n o p,H n=some o∧o.ro=false∧σ n=some p∧p.blk=b
structure Frm (σ:Sig) (H:Heap) (w:World) (σ':Sig) (H':Heap) (w':World):Prop where
 ext:Sig.le σ σ'
 size:w.heap.size≤w'.heap.size
 os:w'.os=w.os
 output:w'.output=w.output
 tape:w'.tape=w.tape
 old:∀ b,b < w.heap.size → ¬ Own σ H b→w'.heap[b]? = w.heap[b]? ∧ ¬ Own σ' H' b
theorem Frm.refl (σ:Sig) (H:Heap) (w:World):Frm σ H w σ H w:=⟨Sig.le_refl σ,Nat.le_refl _,rfl,rfl,rfl,fun _ _ h=>⟨rfl,h⟩⟩
theorem Frm.trans {σ σ' σ'':Sig}{H H' H'':Heap}{w w' w'':World}(h:Frm σ H w σ' H' w') (k:Frm σ' H' w' σ'' H'' w''):Frm σ H w σ'' H'' w'':=
 ⟨Sig.le_trans h.ext k.ext,Nat.le_trans h.size k.size,k.os.trans h.os,k.output.trans h.output,k.tape.trans h.tape,fun b hb hn=>by
  obtain ⟨h1,h2⟩:=h.old b hb hn
  obtain ⟨k1,k2⟩:=k.old b (Nat.lt_of_lt_of_le hb h.size) h2
  exact ⟨k1.trans h1,k2⟩⟩
theorem ORel.lt {σ:Sig}{w:World}{p:Place}{o:AObj}(h:ORel σ w p o):p.blk < w.heap.size:=by
 cases o with
 | cells ro c =>
  obtain ⟨c',t,fz,hb,_⟩:=h
  exact (Array.getElem?_eq_some_iff.1 hb).1
 | mp c =>
  obtain ⟨en,clk,hb,_⟩:=h
  exact (Array.getElem?_eq_some_iff.1 hb).1
theorem ORel.mono {σ σ':Sig}{w w':World}{p:Place}{o:AObj}(he:Sig.le σ σ') (hb:w'.heap[p.blk]? = w.heap[p.blk]?) (h:ORel σ w p o):ORel σ' w' p o:=by
 cases o with
 | cells ro c =>
  obtain ⟨c',t,fz,h1,h2,h3,h4⟩:=h
  exact ⟨c',t,fz,hb.trans h1,h2,fun i v hi=>by
   obtain ⟨v',a,b⟩:=h3 i v hi
   exact ⟨v',a,b.mono he⟩,h4⟩
 | mp c =>
  obtain ⟨en,clk,h1,hst,h2⟩:=h
  exact ⟨en,clk,hb.trans h1,hst,h2.imp fun _ h=>h.mono he⟩
theorem HRel.drew {σ:Sig}{H:Heap}{w w':World}(h:HRel σ H w) (e:w'.heap=w.heap):HRel σ H w':=
 ⟨fun n o hn=>by
  obtain ⟨p,hp,ho⟩:=h.obj n o hn
  exact ⟨p,hp,ho.mono (Sig.le_refl σ) (by rw [e])⟩,h.inj⟩
def Sig.set (σ:Sig) (n:Nat) (p:Place):Sig:=fun m=>if m=n then some p else σ m
theorem Sig.set_same (σ:Sig) (n:Nat) (p:Place):σ.set n p n=some p:=by simp [Sig.set]
theorem Sig.set_other (σ:Sig){n m:Nat}(p:Place) (h:m ≠ n):σ.set n p m=σ m:=by simp [Sig.set,h]
theorem Sig.le_set {σ:Sig}{n:Nat}(h:σ n=none) (p:Place):Sig.le σ (σ.set n p):=fun m q hq=>by
 by_cases e:m=n
 ·subst e; rw [h] at hq; cases hq
 ·rw [Sig.set_other σ p e]; exact hq
theorem HRel.alloc {σ:Sig}{H:Heap}{w:World}(h:HRel σ H w){n:Nat}(hn:σ n=none){o:AObj}{ob:Obj}{sz:Nat}{ty:Option TypeId}
  (ho:ORel (σ.set n ⟨w.heap.size,0,sz,ty⟩) (w.alloc ob) ⟨w.heap.size,0,sz,ty⟩ o) :
  HRel (σ.set n ⟨w.heap.size,0,sz,ty⟩) (upd H n o) (w.alloc ob):=by
 have hle:=Sig.le_set (σ:=σ) hn ⟨w.heap.size,0,sz,ty⟩
 have hlt:∀ m o',H m=some o'→∃ p,σ m=some p∧ORel σ w p o'∧p.blk < w.heap.size∧m ≠ n:=fun m o' hm=>by
  obtain ⟨p,hp,hr⟩:=h.obj m o' hm
  exact ⟨p,hp,hr,hr.lt,fun e=>by subst e; rw [hn] at hp; cases hp⟩
 refine ⟨fun m o' hm => ?_,fun m1 m2 o1 o2 p q h1 h2 hp hq he => ?_⟩
 ·unfold upd at hm
  split at hm
  ·rename_i e; subst e; cases hm
   exact ⟨_,Sig.set_same σ n _,ho⟩
  ·obtain ⟨p,hp,hr,hl,hne⟩:=hlt m o' hm
   exact ⟨p,hle _ _ hp,hr.mono hle (by show (w.heap.push ob)[p.blk]? = _; rw [Array.getElem?_push,if_neg (by omega)])⟩
 ·unfold upd at h1 h2
  split at h1 <;> split at h2
  ·rename_i e1 e2; exact .inl (e1.symm.trans e2)
  ·rename_i e1 e2
   obtain ⟨p',hp',_,hl,hne⟩:=hlt m2 o2 h2
   subst e1
   rw [Sig.set_same] at hp; cases hp
   rw [hle _ _ hp'] at hq; cases hq
   simp only at he; omega
  ·rename_i e1 e2
   obtain ⟨p',hp',_,hl,hne⟩:=hlt m1 o1 h1
   subst e2
   rw [Sig.set_same] at hq; cases hq
   rw [hle _ _ hp'] at hp; cases hp
   simp only at he; omega
  ·obtain ⟨p',hp',_,_,_⟩:=hlt m1 o1 h1
   obtain ⟨q',hq',_,_,_⟩:=hlt m2 o2 h2
   rw [hle _ _ hp'] at hp; cases hp
   rw [hle _ _ hq'] at hq; cases hq
   exact h.inj m1 m2 o1 o2 _ _ h1 h2 hp' hq' he
theorem Frm.alloc {σ:Sig}{H:Heap}{w:World}{n:Nat}(hn:σ n=none) (ho:∀ m o,H m=some o→∃ p,σ m=some p){o:AObj}{ob:Obj}{sz:Nat}{ty:Option TypeId} :
  Frm σ H w (σ.set n ⟨w.heap.size,0,sz,ty⟩) (upd H n o) (w.alloc ob):=by
 refine ⟨Sig.le_set hn _,by simp,rfl,rfl,rfl,fun b hb hno=>⟨by show (w.heap.push ob)[b]? = _; rw [Array.getElem?_push,if_neg (by omega)],?_⟩⟩
 rintro ⟨m,o',p,h1,h2,h3,h4⟩
 unfold upd at h1
 split at h1
 ·rename_i e; subst e; rw [Sig.set_same] at h3; cases h3; simp only at h4; omega
 ·obtain ⟨q,hq⟩:=ho m o' h1
  have h5:=Sig.le_set (σ:=σ) hn ⟨w.heap.size,0,sz,ty⟩ m q hq
  have h6:q=p:=Option.some.inj (h5.symm.trans h3)
  exact hno ⟨m,o',q,h1,h2,hq,h6 ▸ h4⟩
theorem HRel.write {σ:Sig}{H:Heap}{w w':World}(h:HRel σ H w){n:Nat}{o o':AObj}{p:Place}(hn:H n=some o) (hro:o.ro=false) (hp:σ n=some p)
  (ho:ORel σ w' p o') (hw:∀ b,b ≠ p.blk→w'.heap[b]? = w.heap[b]?):HRel σ (upd H n o') w':=by
 refine ⟨fun m ob hm => ?_,fun m1 m2 o1 o2 q1 q2 h1 h2 hq1 hq2 he => ?_⟩
 ·unfold upd at hm
  split at hm
  ·rename_i e; subst e; cases hm; exact ⟨p,hp,ho⟩
  ·rename_i e
   obtain ⟨q,hq,hr⟩:=h.obj m ob hm
   refine ⟨q,hq,hr.mono (Sig.le_refl σ) (hw _ fun e' => ?_)⟩
   rcases h.inj m n ob o q p hm hn hq hp e' with e2 | ⟨_,e2⟩
   ·exact e e2.symm
   ·rw [hro] at e2; cases e2
 ·unfold upd at h1 h2
  split at h1 <;> split at h2
  ·rename_i e1 e2; exact .inl (e1.symm.trans e2)
  ·rename_i e1 e2; subst e1
   rcases h.inj n m2 o o2 q1 q2 hn h2 hq1 hq2 he with e3 | ⟨e3,_⟩
   ·exact .inl e3
   ·rw [hro] at e3; cases e3
  ·rename_i e1 e2; subst e2
   rcases h.inj m1 n o1 o q1 q2 h1 hn hq1 hq2 he with e3 | ⟨_,e3⟩
   ·exact .inl e3
   ·rw [hro] at e3; cases e3
  ·exact h.inj m1 m2 o1 o2 q1 q2 h1 h2 hq1 hq2 he
theorem Frm.write {σ:Sig}{H:Heap}{w w':World}{n:Nat}{o o':AObj}{p:Place}(hn:H n=some o) (hro:o.ro=false) (hp:σ n=some p)
  (hw:∀ b,b ≠ p.blk→w'.heap[b]? = w.heap[b]?) (hs:w'.heap.size=w.heap.size) (h1:w'.os=w.os) (h2:w'.output=w.output) (h3:w'.tape=w.tape) :
  Frm σ H w σ (upd H n o') w':=by
 have hown:Own σ H p.blk:=⟨n,o,p,hn,hro,hp,rfl⟩
 refine ⟨Sig.le_refl σ,by omega,h1,h2,h3,fun b hb hno=>⟨hw b fun e=>hno (e ▸ hown),?_⟩⟩
 rintro ⟨m,o2,q,g1,g2,g3,g4⟩
 unfold upd at g1
 split at g1
 ·rename_i e; subst e; rw [hp] at g3; cases g3; exact hno (g4 ▸ hown)
 ·exact hno ⟨m,o2,q,g1,g2,g3,g4⟩
end Go.Eng
namespace Go.Eng
open Go
theorem wrap_u8 (n:Int):IntKind.wrap .u8 n=n % 256:=by simp [IntKind.wrap,IntKind.bits,IntKind.signed]
theorem lt_u8 (x:UInt8):x.toNat < 256:=x.toNat_lt
theorem add_u8 (x y:UInt8):IntKind.wrap .u8 ((x.toNat:Int)+y.toNat)=((x+y).toNat:Int):=by
 rw [wrap_u8,UInt8.toNat_add]; simp
theorem sub_u8 (x y:UInt8):IntKind.wrap .u8 ((x.toNat:Int) - y.toNat)=((x - y).toNat:Int):=by
 have hx:=lt_u8 x; have hy:=lt_u8 y
 rw [wrap_u8,UInt8.toNat_sub]; simp only [Nat.reducePow]; omega
theorem mul_u8 (x y:UInt8):IntKind.wrap .u8 ((x.toNat:Int) * y.toNat)=((x * y).toNat:Int):=by
 rw [wrap_u8,UInt8.toNat_mul]; simp
theorem quo_u8 (x y:UInt8):IntKind.wrap .u8 ((x.toNat:Int).tdiv y.toNat)=((x / y).toNat:Int):=by
 have hx:=lt_u8 x
 rw [wrap_u8,UInt8.toNat_div,Int.tdiv_eq_ediv_of_nonneg (by omega)]
 have h:x.toNat / y.toNat≤x.toNat:=Nat.div_le_self _ _
 rw [← Int.natCast_ediv]
 generalize x.toNat / y.toNat=q at h ⊢
 omega
theorem rem_u8 (x y:UInt8):(x.toNat:Int).tmod y.toNat=((x % y).toNat:Int):=by
 rw [UInt8.toNat_mod,Int.tmod_eq_emod_of_nonneg (by omega)]; simp
theorem ofInt_u8 (x:UInt8):BitVec.ofInt 8 (x.toNat:Int)=x.toBitVec:=by
 apply BitVec.eq_of_toNat_eq
 have hx:=lt_u8 x
 simp only [BitVec.toNat_ofInt,UInt8.toNat_toBitVec]
 omega
theorem bits_u8 (b:BitVec 8):IntKind.wrap .u8 (b.toNat:Int)=((UInt8.ofBitVec b).toNat:Int):=by
 have h:=b.isLt
 rw [wrap_u8]
 have e:(UInt8.ofBitVec b).toNat=b.toNat:=rfl
 rw [e]
 simp only [Nat.reducePow] at h
 omega
theorem beq_u8 (x y:UInt8):((x.toNat:Int) == (y.toNat:Int))=(x == y):=by
 rw [Bool.eq_iff_iff]; simp only [beq_iff_eq]
 exact ⟨fun h=>UInt8.toNat_inj.1 (by omega),fun h=>by rw [h]⟩
theorem lss_u8 (x y:UInt8):decide ((x.toNat:Int) < (y.toNat:Int))=decide (x < y):=by
 simp only [UInt8.lt_iff_toNat_lt,decide_eq_decide]; omega
theorem leq_u8 (x y:UInt8):decide ((x.toNat:Int)≤(y.toNat:Int))=decide (x≤y):=by
 simp only [UInt8.le_iff_toNat_le,decide_eq_decide]; omega
def shl_u8 (x:UInt8) (n:Nat):UInt8:=cond (Nat.ble n 7) (x <<< UInt8.ofNat n) 0
def shr_u8 (x:UInt8) (n:Nat):UInt8:=cond (Nat.ble n 7) (x >>> UInt8.ofNat n) 0
theorem blt_cases_u8 (n:Nat):(n < 8∧Nat.ble n 7=true) ∨ (8≤n∧Nat.ble n 7=false):=by
 rcases Nat.lt_or_ge n 8 with h | h
 ·exact .inl ⟨h,by rw [Nat.ble_eq]; omega⟩
 ·exact .inr ⟨h,by rw [Bool.eq_false_iff,ne_eq,Nat.ble_eq]; omega⟩
theorem shl_u8_eq (x:UInt8) (n:Nat):IntKind.wrap .u8 ((x.toNat:Int) * 2 ^ min n (IntKind.bits .u8))=((shl_u8 x n).toNat:Int):=by
 rw [wrap_u8]
 show _ * 2 ^ min n 8 % 256=_
 unfold shl_u8
 rcases blt_cases_u8 n with ⟨h,hb⟩ | ⟨h,hb⟩
 ·rw [hb,Nat.min_eq_left (by omega),cond_true,UInt8.toNat_shiftLeft,UInt8.toNat_ofNat']
  have e:n % 2 ^ 8 % 8=n:=by omega
  rw [e,Nat.shiftLeft_eq]
  simp
 ·rw [hb,Nat.min_eq_right h,cond_false]
  have e:(2:Int) ^ 8=256:=by decide
  rw [e,Int.mul_emod_left]; rfl
theorem shr_u8_eq (x:UInt8) (n:Nat):(x.toNat:Int).fdiv (2 ^ min n (IntKind.bits .u8))=((shr_u8 x n).toNat:Int):=by
 have hx:=lt_u8 x
 show (x.toNat:Int).fdiv (2 ^ min n 8)=_
 unfold shr_u8
 rw [Int.fdiv_eq_ediv_of_nonneg _ (by exact Int.pow_nonneg (by omega))]
 rcases blt_cases_u8 n with ⟨h,hb⟩ | ⟨h,hb⟩
 ·rw [hb,Nat.min_eq_left (by omega),cond_true,UInt8.toNat_shiftRight,UInt8.toNat_ofNat']
  have e:n % 2 ^ 8 % 8=n:=by omega
  rw [e,Nat.shiftRight_eq_div_pow]
  simp
 ·rw [hb,Nat.min_eq_right h,cond_false]
  have e:(2:Int) ^ 8=256:=by decide
  rw [e]
  have e2:((0:UInt8).toNat:Int)=0:=rfl
  rw [e2]; omega
theorem wrap_u32 (n:Int):IntKind.wrap .u32 n=n % 4294967296:=by simp [IntKind.wrap,IntKind.bits,IntKind.signed]
theorem lt_u32 (x:UInt32):x.toNat < 4294967296:=x.toNat_lt
theorem add_u32 (x y:UInt32):IntKind.wrap .u32 ((x.toNat:Int)+y.toNat)=((x+y).toNat:Int):=by
 rw [wrap_u32,UInt32.toNat_add]; simp
theorem sub_u32 (x y:UInt32):IntKind.wrap .u32 ((x.toNat:Int) - y.toNat)=((x - y).toNat:Int):=by
 have hx:=lt_u32 x; have hy:=lt_u32 y
 rw [wrap_u32,UInt32.toNat_sub]; simp only [Nat.reducePow]; omega
theorem mul_u32 (x y:UInt32):IntKind.wrap .u32 ((x.toNat:Int) * y.toNat)=((x * y).toNat:Int):=by
 rw [wrap_u32,UInt32.toNat_mul]; simp
theorem quo_u32 (x y:UInt32):IntKind.wrap .u32 ((x.toNat:Int).tdiv y.toNat)=((x / y).toNat:Int):=by
 have hx:=lt_u32 x
 rw [wrap_u32,UInt32.toNat_div,Int.tdiv_eq_ediv_of_nonneg (by omega)]
 have h:x.toNat / y.toNat≤x.toNat:=Nat.div_le_self _ _
 rw [← Int.natCast_ediv]
 generalize x.toNat / y.toNat=q at h ⊢
 omega
theorem rem_u32 (x y:UInt32):(x.toNat:Int).tmod y.toNat=((x % y).toNat:Int):=by
 rw [UInt32.toNat_mod,Int.tmod_eq_emod_of_nonneg (by omega)]; simp
theorem ofInt_u32 (x:UInt32):BitVec.ofInt 32 (x.toNat:Int)=x.toBitVec:=by
 apply BitVec.eq_of_toNat_eq
 have hx:=lt_u32 x
 simp only [BitVec.toNat_ofInt,UInt32.toNat_toBitVec]
 omega
theorem bits_u32 (b:BitVec 32):IntKind.wrap .u32 (b.toNat:Int)=((UInt32.ofBitVec b).toNat:Int):=by
 have h:=b.isLt
 rw [wrap_u32]
 have e:(UInt32.ofBitVec b).toNat=b.toNat:=rfl
 rw [e]
 simp only [Nat.reducePow] at h
 omega
theorem beq_u32 (x y:UInt32):((x.toNat:Int) == (y.toNat:Int))=(x == y):=by
 rw [Bool.eq_iff_iff]; simp only [beq_iff_eq]
 exact ⟨fun h=>UInt32.toNat_inj.1 (by omega),fun h=>by rw [h]⟩
theorem lss_u32 (x y:UInt32):decide ((x.toNat:Int) < (y.toNat:Int))=decide (x < y):=by
 simp only [UInt32.lt_iff_toNat_lt,decide_eq_decide]; omega
theorem leq_u32 (x y:UInt32):decide ((x.toNat:Int)≤(y.toNat:Int))=decide (x≤y):=by
 simp only [UInt32.le_iff_toNat_le,decide_eq_decide]; omega
def shl_u32 (x:UInt32) (n:Nat):UInt32:=cond (Nat.ble n 31) (x <<< UInt32.ofNat n) 0
def shr_u32 (x:UInt32) (n:Nat):UInt32:=cond (Nat.ble n 31) (x >>> UInt32.ofNat n) 0
theorem blt_cases_u32 (n:Nat):(n < 32∧Nat.ble n 31=true) ∨ (32≤n∧Nat.ble n 31=false):=by
 rcases Nat.lt_or_ge n 32 with h | h
 ·exact .inl ⟨h,by rw [Nat.ble_eq]; omega⟩
 ·exact .inr ⟨h,by rw [Bool.eq_false_iff,ne_eq,Nat.ble_eq]; omega⟩
theorem shl_u32_eq (x:UInt32) (n:Nat):IntKind.wrap .u32 ((x.toNat:Int) * 2 ^ min n (IntKind.bits .u32))=((shl_u32 x n).toNat:Int):=by
 rw [wrap_u32]
 show _ * 2 ^ min n 32 % 4294967296=_
 unfold shl_u32
 rcases blt_cases_u32 n with ⟨h,hb⟩ | ⟨h,hb⟩
 ·rw [hb,Nat.min_eq_left (by omega),cond_true,UInt32.toNat_shiftLeft,UInt32.toNat_ofNat']
  have e:n % 2 ^ 32 % 32=n:=by omega
  rw [e,Nat.shiftLeft_eq]
  simp
 ·rw [hb,Nat.min_eq_right h,cond_false]
  have e:(2:Int) ^ 32=4294967296:=by decide
  rw [e,Int.mul_emod_left]; rfl
theorem shr_u32_eq (x:UInt32) (n:Nat):(x.toNat:Int).fdiv (2 ^ min n (IntKind.bits .u32))=((shr_u32 x n).toNat:Int):=by
 have hx:=lt_u32 x
 show (x.toNat:Int).fdiv (2 ^ min n 32)=_
 unfold shr_u32
 rw [Int.fdiv_eq_ediv_of_nonneg _ (by exact Int.pow_nonneg (by omega))]
 rcases blt_cases_u32 n with ⟨h,hb⟩ | ⟨h,hb⟩
 ·rw [hb,Nat.min_eq_left (by omega),cond_true,UInt32.toNat_shiftRight,UInt32.toNat_ofNat']
  have e:n % 2 ^ 32 % 32=n:=by omega
  rw [e,Nat.shiftRight_eq_div_pow]
  simp
 ·rw [hb,Nat.min_eq_right h,cond_false]
  have e:(2:Int) ^ 32=4294967296:=by decide
  rw [e]
  have e2:((0:UInt32).toNat:Int)=0:=rfl
  rw [e2]; omega
theorem wrap_u64 (n:Int):IntKind.wrap .u64 n=n % 18446744073709551616:=by simp [IntKind.wrap,IntKind.bits,IntKind.signed]
theorem lt_u64 (x:UInt64):x.toNat < 18446744073709551616:=x.toNat_lt
theorem add_u64 (x y:UInt64):IntKind.wrap .u64 ((x.toNat:Int)+y.toNat)=((x+y).toNat:Int):=by
 rw [wrap_u64,UInt64.toNat_add]; simp
theorem sub_u64 (x y:UInt64):IntKind.wrap .u64 ((x.toNat:Int) - y.toNat)=((x - y).toNat:Int):=by
 have hx:=lt_u64 x; have hy:=lt_u64 y
 rw [wrap_u64,UInt64.toNat_sub]; simp only [Nat.reducePow]; omega
theorem mul_u64 (x y:UInt64):IntKind.wrap .u64 ((x.toNat:Int) * y.toNat)=((x * y).toNat:Int):=by
 rw [wrap_u64,UInt64.toNat_mul]; simp
theorem quo_u64 (x y:UInt64):IntKind.wrap .u64 ((x.toNat:Int).tdiv y.toNat)=((x / y).toNat:Int):=by
 have hx:=lt_u64 x
 rw [wrap_u64,UInt64.toNat_div,Int.tdiv_eq_ediv_of_nonneg (by omega)]
 have h:x.toNat / y.toNat≤x.toNat:=Nat.div_le_self _ _
 rw [← Int.natCast_ediv]
 generalize x.toNat / y.toNat=q at h ⊢
 omega
theorem rem_u64 (x y:UInt64):(x.toNat:Int).tmod y.toNat=((x % y).toNat:Int):=by
 rw [UInt64.toNat_mod,Int.tmod_eq_emod_of_nonneg (by omega)]; simp
theorem ofInt_u64 (x:UInt64):BitVec.ofInt 64 (x.toNat:Int)=x.toBitVec:=by
 apply BitVec.eq_of_toNat_eq
 have hx:=lt_u64 x
 simp only [BitVec.toNat_ofInt,UInt64.toNat_toBitVec]
 omega
theorem bits_u64 (b:BitVec 64):IntKind.wrap .u64 (b.toNat:Int)=((UInt64.ofBitVec b).toNat:Int):=by
 have h:=b.isLt
 rw [wrap_u64]
 have e:(UInt64.ofBitVec b).toNat=b.toNat:=rfl
 rw [e]
 simp only [Nat.reducePow] at h
 omega
theorem beq_u64 (x y:UInt64):((x.toNat:Int) == (y.toNat:Int))=(x == y):=by
 rw [Bool.eq_iff_iff]; simp only [beq_iff_eq]
 exact ⟨fun h=>UInt64.toNat_inj.1 (by omega),fun h=>by rw [h]⟩
theorem lss_u64 (x y:UInt64):decide ((x.toNat:Int) < (y.toNat:Int))=decide (x < y):=by
 simp only [UInt64.lt_iff_toNat_lt,decide_eq_decide]; omega
theorem leq_u64 (x y:UInt64):decide ((x.toNat:Int)≤(y.toNat:Int))=decide (x≤y):=by
 simp only [UInt64.le_iff_toNat_le,decide_eq_decide]; omega
def shl_u64 (x:UInt64) (n:Nat):UInt64:=cond (Nat.ble n 63) (x <<< UInt64.ofNat n) 0
def shr_u64 (x:UInt64) (n:Nat):UInt64:=cond (Nat.ble n 63) (x >>> UInt64.ofNat n) 0
theorem blt_cases_u64 (n:Nat):(n < 64∧Nat.ble n 63=true) ∨ (64≤n∧Nat.ble n 63=false):=by
 rcases Nat.lt_or_ge n 64 with h | h
 ·exact .inl ⟨h,by rw [Nat.ble_eq]; omega⟩
 ·exact .inr ⟨h,by rw [Bool.eq_false_iff,ne_eq,Nat.ble_eq]; omega⟩
theorem shl_u64_eq (x:UInt64) (n:Nat):IntKind.wrap .u64 ((x.toNat:Int) * 2 ^ min n (IntKind.bits .u64))=((shl_u64 x n).toNat:Int):=by
 rw [wrap_u64]
 show _ * 2 ^ min n 64 % 18446744073709551616=_
 unfold shl_u64
 rcases blt_cases_u64 n with ⟨h,hb⟩ | ⟨h,hb⟩
 ·rw [hb,Nat.min_eq_left (by omega),cond_true,UInt64.toNat_shiftLeft,UInt64.toNat_ofNat']
  have e:n % 2 ^ 64 % 64=n:=by omega
  rw [e,Nat.shiftLeft_eq]
  simp
 ·rw [hb,Nat.min_eq_right h,cond_false]
  have e:(2:Int) ^ 64=18446744073709551616:=by decide
  rw [e,Int.mul_emod_left]; rfl
theorem shr_u64_eq (x:UInt64) (n:Nat):(x.toNat:Int).fdiv (2 ^ min n (IntKind.bits .u64))=((shr_u64 x n).toNat:Int):=by
 have hx:=lt_u64 x
 show (x.toNat:Int).fdiv (2 ^ min n 64)=_
 unfold shr_u64
 rw [Int.fdiv_eq_ediv_of_nonneg _ (by exact Int.pow_nonneg (by omega))]
 rcases blt_cases_u64 n with ⟨h,hb⟩ | ⟨h,hb⟩
 ·rw [hb,Nat.min_eq_left (by omega),cond_true,UInt64.toNat_shiftRight,UInt64.toNat_ofNat']
  have e:n % 2 ^ 64 % 64=n:=by omega
  rw [e,Nat.shiftRight_eq_div_pow]
  simp
 ·rw [hb,Nat.min_eq_right h,cond_false]
  have e:(2:Int) ^ 64=18446744073709551616:=by decide
  rw [e]
  have e2:((0:UInt64).toNat:Int)=0:=rfl
  rw [e2]; omega
theorem cv_u8_u8 (x:UInt8):IntKind.wrap .u8 (x.toNat:Int)=(x.toNat:Int):=by have:=lt_u8 x; rw [wrap_u8]; omega
theorem cv_u8_u32 (x:UInt8):IntKind.wrap .u32 (x.toNat:Int)=(x.toUInt32.toNat:Int):=by have:=lt_u8 x; rw [wrap_u32]; simp; try omega
theorem cv_u8_u64 (x:UInt8):IntKind.wrap .u64 (x.toNat:Int)=(x.toUInt64.toNat:Int):=by have:=lt_u8 x; rw [wrap_u64]; simp; try omega
theorem cv_u32_u8 (x:UInt32):IntKind.wrap .u8 (x.toNat:Int)=(x.toUInt8.toNat:Int):=by have:=lt_u32 x; rw [wrap_u8]; simp; try omega
theorem cv_u32_u32 (x:UInt32):IntKind.wrap .u32 (x.toNat:Int)=(x.toNat:Int):=by have:=lt_u32 x; rw [wrap_u32]; omega
theorem cv_u32_u64 (x:UInt32):IntKind.wrap .u64 (x.toNat:Int)=(x.toUInt64.toNat:Int):=by have:=lt_u32 x; rw [wrap_u64]; simp; try omega
theorem cv_u64_u8 (x:UInt64):IntKind.wrap .u8 (x.toNat:Int)=(x.toUInt8.toNat:Int):=by have:=lt_u64 x; rw [wrap_u8]; simp; try omega
theorem cv_u64_u32 (x:UInt64):IntKind.wrap .u32 (x.toNat:Int)=(x.toUInt32.toNat:Int):=by have:=lt_u64 x; rw [wrap_u32]; simp; try omega
theorem cv_u64_u64 (x:UInt64):IntKind.wrap .u64 (x.toNat:Int)=(x.toNat:Int):=by have:=lt_u64 x; rw [wrap_u64]; omega
theorem wrap_i64 (n:Int) (h1:-9223372036854775808≤n) (h2:n < 9223372036854775808):IntKind.wrap .i64 n=n:=by
 simp only [IntKind.wrap,IntKind.bits,IntKind.signed,Bool.true_and,Nat.reduceSub,Int.reducePow]
 by_cases h:n % 18446744073709551616 ≥ 9223372036854775808
 ·rw [if_pos (by simpa using h)]; omega
 ·rw [if_neg (by simpa using h)]; omega
theorem cv_u8_i64 (x:UInt8):IntKind.wrap .i64 (x.toNat:Int)=(x.toNat:Int):=by have:=lt_u8 x; exact wrap_i64 _ (by omega) (by omega)
theorem cv_u32_i64 (x:UInt32):IntKind.wrap .i64 (x.toNat:Int)=(x.toNat:Int):=by have:=lt_u32 x; exact wrap_i64 _ (by omega) (by omega)
theorem cv_int_u8 (n:Int):IntKind.wrap .u8 n=((UInt8.ofInt n).toNat:Int):=by rw [wrap_u8]; simp [UInt8.ofInt]; omega
theorem cv_int_u32 (n:Int):IntKind.wrap .u32 n=((UInt32.ofInt n).toNat:Int):=by rw [wrap_u32]; simp [UInt32.ofInt]; omega
theorem cv_int_u64 (n:Int):IntKind.wrap .u64 n=((UInt64.ofInt n).toNat:Int):=by rw [wrap_u64]; simp [UInt64.ofInt]; omega
end Go.Eng
namespace Go.Eng
open Go
def cint (k:IntKind) (n:Int):Option AVal:=
 match k with
 | .u8=>cond (decide (0≤n) && decide (n < 256)) (some (.u8 (UInt8.ofNat n.toNat))) none
 | .u32=>cond (decide (0≤n) && decide (n < 4294967296)) (some (.u32 (UInt32.ofNat n.toNat))) none
 | .u64=>cond (decide (0≤n) && decide (n < 18446744073709551616)) (some (.u64 (UInt64.ofNat n.toNat))) none
 | k=>some (.int k n)
theorem cint_ok {k:IntKind}{n:Int}{v:AVal}(h:cint k n=some v) (σ:Sig):VR σ v (.int k n):=by
 cases k <;> simp only [cint] at h
 case u8 =>
  cases hb:(decide (0≤n) && decide (n < 256)) <;> rw [hb] at h <;> simp at h
  simp at hb
  subst h
  have e:n=((UInt8.ofNat n.toNat).toNat:Int):=by simp; omega
  exact Eq.subst (motive:=fun m=>VR σ (.u8 (UInt8.ofNat n.toNat)) (.int .u8 m)) e.symm (.u8 _)
 case u32 =>
  cases hb:(decide (0≤n) && decide (n < 4294967296)) <;> rw [hb] at h <;> simp at h
  simp at hb
  subst h
  have e:n=((UInt32.ofNat n.toNat).toNat:Int):=by simp; omega
  exact Eq.subst (motive:=fun m=>VR σ (.u32 (UInt32.ofNat n.toNat)) (.int .u32 m)) e.symm (.u32 _)
 case u64 =>
  cases hb:(decide (0≤n) && decide (n < 18446744073709551616)) <;> rw [hb] at h <;> simp at h
  simp at hb
  subst h
  have e:n=((UInt64.ofNat n.toNat).toNat:Int):=by simp; omega
  exact Eq.subst (motive:=fun m=>VR σ (.u64 (UInt64.ofNat n.toNat)) (.int .u64 m)) e.symm (.u64 _)
 all_goals (simp at h; subst h; exact .int _ _)
def cscal:Value→Option AVal
 | .bool b=>some (.bool b)
 | .int k n=>cint k n
 | .string s=>some (.str s.data.toList)
 | .pointer none=>some .nilPtr
 | .slice none 0 0=>some .nilSlice
 | .map none=>some .nilMap
 | .nilFunc=>some .nilFunc
 | .nilIface=>some .nilIface
 | _=>none
theorem cscal_ok {x:Value}{v:AVal}(h:cscal x=some v) (σ:Sig):VR σ v x:=by
 unfold cscal at h
 have hs:∀ s:ByteArray,VR σ (.str s.data.toList) (.string s):=fun s=>by
  have:=VR.str (σ:=σ) s.data.toList
  simpa using this
 split at h <;> first | (cases h; constructor; done) | exact cint_ok h σ | (cases h; exact hs _) | (cases h; done)
def clist:List Value→Option (List AVal)
 | []=>some []
 | x::l=>match cscal x,clist l with
  | some v,some vs=>some (v::vs)
  | _,_=>none
theorem clist_ok {l:List Value}:∀ {vs:List AVal},clist l=some vs→∀ σ,LR σ vs l.toArray:=by
 induction l with
 | nil=>intro vs h σ; simp [clist] at h; subst h; exact LR.nil σ
 | cons x l ih =>
  intro vs h σ
  simp only [clist] at h
  cases h1:cscal x <;> cases h2:clist l <;> rw [h1,h2] at h <;> simp at h
  subst h
  exact LR.cons (cscal_ok h1 σ) (ih h2 σ)
def cval:Value→Option AVal
 | .agg cs=>match clist cs.toList with
  | some l=>some (.agg l)
  | none=>none
 | .tuple cs=>match clist cs.toList with
  | some l=>some (.tup l)
  | none=>none
 | v=>cscal v
theorem cval_ok {x:Value}{v:AVal}(h:cval x=some v) (σ:Sig):VR σ v x:=by
 unfold cval at h
 split at h
 ·rename_i cs
  split at h
  ·rename_i l hl
   cases h
   have:=clist_ok hl σ
   exact .agg (by simpa using this.1) (fun i u u' a b=>this.2 i u u' a (by simpa using b))
  ·cases h
 ·rename_i cs
  split at h
  ·rename_i l hl
   cases h
   have:=clist_ok hl σ
   exact .tup (by simpa using this.1) (fun i u u' a b=>this.2 i u u' a (by simpa using b))
  ·cases h
 ·exact cscal_ok h σ
def GRel (P:Program) (σ:Sig):Prop:=∀ g,g < P.globals.size→∃ sz,σ g=some ⟨g,0,sz,none⟩
theorem GRel.mono {P:Program}{σ σ':Sig}(h:GRel P σ) (hl:Sig.le σ σ'):GRel P σ':=fun g hg=>by
 obtain ⟨sz,hs⟩:=h g hg
 exact ⟨sz,hl _ _ hs⟩
def opd (P:Program) (T:Tmps):Operand→Option AVal
 | .tmp t=>T t
 | .const v=>cval v
 | .global g=>cond (Nat.ble (g+1) P.globals.size) (some (.ptr g 0)) none
 | .func f=>some (.fn f [])
theorem opd_ok {P:Program}{T:Tmps}{x:Operand}{v:AVal}(h:opd P T x=some v){σ:Sig}{a:Act}(ht:TRel σ T a) (hg:GRel P σ):VR σ v (a.eval x):=by
 cases x with
 | tmp t =>
  obtain ⟨v',h1,h2⟩:=ht t v h
  simp only [Act.eval,Array.getD_eq_getD_getElem?,h1,Option.getD_some]
  exact h2
 | const c=>exact cval_ok h σ
 | global g =>
  simp only [opd] at h
  cases hb:Nat.ble (g+1) P.globals.size <;> rw [hb] at h <;> simp at h
  subst h
  obtain ⟨sz,hs⟩:=hg g (by rw [Nat.ble_eq] at hb; omega)
  have:=VR.ptr (off:=0) hs
  simpa [Act.eval] using this
 | func f =>
  simp only [opd,Option.some.injEq] at h
  subst h
  exact .fn rfl (fun i v v' h=>by simp at h)
def OkV (P:Program) (σ:Sig) (v:AVal) (s:Sem Value):Prop:=∀ w,∃ v',s.run P w=.ok v' w∧VR σ v v'
theorem OkV.mk {P:Program}{σ:Sig}{v:AVal}{s:Sem Value}{v':Value}(h:∀ w,s.run P w=.ok v' w) (hv:VR σ v v'):OkV P σ v s:=fun w=>⟨v',h w,hv⟩
def bin_u8 (op:BinOp) (x y:UInt8):Option AVal:=
 match op with
 | .add=>some (.u8 (x+y))
 | .sub=>some (.u8 (x - y))
 | .mul=>some (.u8 (x * y))
 | .quo=>cond (y == 0) none (some (.u8 (x / y)))
 | .rem=>cond (y == 0) none (some (.u8 (x % y)))
 | .and=>some (.u8 (x &&& y))
 | .or=>some (.u8 (x ||| y))
 | .xor=>some (.u8 (x ^^^ y))
 | .andNot=>some (.u8 (x &&& ~~~y))
 | .eql=>some (.bool (x == y))
 | .neq=>some (.bool (x != y))
 | .lss=>some (.bool (decide (x < y)))
 | .leq=>some (.bool (decide (x≤y)))
 | .gtr=>some (.bool (decide (y < x)))
 | .geq=>some (.bool (decide (y≤x)))
 | _=>none
theorem bin_u8_ok {P:Program}{op:BinOp}{t:TypeId}{x y:UInt8}{v:AVal}(h:bin_u8 op x y=some v) (σ:Sig) :
  OkV P σ v (binOp op t (.int .u8 x.toNat) (.int .u8 y.toNat)):=by
 cases op <;> simp only [bin_u8,Option.some.injEq] at h
 case add=>subst h; exact .mk (v':=.int .u8 (x+y).toNat) (fun w=>by simp [binOp,Op.intArith,add_u8]) (.u8 _)
 case sub=>subst h; exact .mk (v':=.int .u8 (x - y).toNat) (fun w=>by simp only [binOp,Op.intArith,sub_u8]; rfl) (.u8 _)
 case mul=>subst h; exact .mk (v':=.int .u8 (x * y).toNat) (fun w=>by simp only [binOp,Op.intArith,mul_u8]; rfl) (.u8 _)
 case quo =>
  cases hy:(y == 0) <;> rw [hy] at h <;> simp at h
  subst h
  have hy0:¬ ((y.toNat:Int)=0):=fun e=>by
   have:y=0:=UInt8.toNat_inj.1 (by simpa using e)
   simp [this] at hy
  exact .mk (v':=.int .u8 (x / y).toNat) (fun w=>by simp only [binOp,Op.intDiv,hy0,if_false,quo_u8]; rfl) (.u8 _)
 case rem =>
  cases hy:(y == 0) <;> rw [hy] at h <;> simp at h
  subst h
  have hy0:¬ ((y.toNat:Int)=0):=fun e=>by
   have:y=0:=UInt8.toNat_inj.1 (by simpa using e)
   simp [this] at hy
  exact .mk (v':=.int .u8 (x % y).toNat) (fun w=>by simp only [binOp,Op.intDiv,hy0,if_false,rem_u8]; rfl) (.u8 _)
 case and=>subst h; exact .mk (v':=.int .u8 (x &&& y).toNat) (fun w=>by simp only [binOp,Op.intBits,IntKind.bits,ofInt_u8,bits_u8]; rfl) (.u8 _)
 case or=>subst h; exact .mk (v':=.int .u8 (x ||| y).toNat) (fun w=>by simp only [binOp,Op.intBits,IntKind.bits,ofInt_u8,bits_u8]; rfl) (.u8 _)
 case xor=>subst h; exact .mk (v':=.int .u8 (x ^^^ y).toNat) (fun w=>by simp only [binOp,Op.intBits,IntKind.bits,ofInt_u8,bits_u8]; rfl) (.u8 _)
 case andNot=>subst h; exact .mk (v':=.int .u8 (x &&& ~~~y).toNat) (fun w=>by simp only [binOp,Op.intBits,IntKind.bits,ofInt_u8,bits_u8]; rfl) (.u8 _)
 case eql=>subst h; exact .mk (v':=.bool (x == y)) (fun w=>by simp only [binOp,Op.intCmp,beq_u8]; rfl) (.bool _)
 case neq=>subst h; exact .mk (v':=.bool (x != y)) (fun w=>by simp only [binOp,Op.intCmp,bne,beq_u8]; rfl) (.bool _)
 case lss=>subst h; exact .mk (v':=.bool (decide (x < y))) (fun w=>by simp only [binOp,Op.intCmp,lss_u8]; rfl) (.bool _)
 case leq=>subst h; exact .mk (v':=.bool (decide (x≤y))) (fun w=>by simp only [binOp,Op.intCmp,leq_u8]; rfl) (.bool _)
 case gtr=>subst h; exact .mk (v':=.bool (decide (y < x))) (fun w=>by simp only [binOp,Op.intCmp,GT.gt,lss_u8]; rfl) (.bool _)
 case geq=>subst h; exact .mk (v':=.bool (decide (y≤x))) (fun w=>by simp only [binOp,Op.intCmp,GE.ge,leq_u8]; rfl) (.bool _)
 all_goals cases h
def bin_u32 (op:BinOp) (x y:UInt32):Option AVal:=
 match op with
 | .add=>some (.u32 (x+y))
 | .sub=>some (.u32 (x - y))
 | .mul=>some (.u32 (x * y))
 | .quo=>cond (y == 0) none (some (.u32 (x / y)))
 | .rem=>cond (y == 0) none (some (.u32 (x % y)))
 | .and=>some (.u32 (x &&& y))
 | .or=>some (.u32 (x ||| y))
 | .xor=>some (.u32 (x ^^^ y))
 | .andNot=>some (.u32 (x &&& ~~~y))
 | .eql=>some (.bool (x == y))
 | .neq=>some (.bool (x != y))
 | .lss=>some (.bool (decide (x < y)))
 | .leq=>some (.bool (decide (x≤y)))
 | .gtr=>some (.bool (decide (y < x)))
 | .geq=>some (.bool (decide (y≤x)))
 | _=>none
theorem bin_u32_ok {P:Program}{op:BinOp}{t:TypeId}{x y:UInt32}{v:AVal}(h:bin_u32 op x y=some v) (σ:Sig) :
  OkV P σ v (binOp op t (.int .u32 x.toNat) (.int .u32 y.toNat)):=by
 cases op <;> simp only [bin_u32,Option.some.injEq] at h
 case add=>subst h; exact .mk (v':=.int .u32 (x+y).toNat) (fun w=>by simp [binOp,Op.intArith,add_u32]) (.u32 _)
 case sub=>subst h; exact .mk (v':=.int .u32 (x - y).toNat) (fun w=>by simp only [binOp,Op.intArith,sub_u32]; rfl) (.u32 _)
 case mul=>subst h; exact .mk (v':=.int .u32 (x * y).toNat) (fun w=>by simp only [binOp,Op.intArith,mul_u32]; rfl) (.u32 _)
 case quo =>
  cases hy:(y == 0) <;> rw [hy] at h <;> simp at h
  subst h
  have hy0:¬ ((y.toNat:Int)=0):=fun e=>by
   have:y=0:=UInt32.toNat_inj.1 (by simpa using e)
   simp [this] at hy
  exact .mk (v':=.int .u32 (x / y).toNat) (fun w=>by simp only [binOp,Op.intDiv,hy0,if_false,quo_u32]; rfl) (.u32 _)
 case rem =>
  cases hy:(y == 0) <;> rw [hy] at h <;> simp at h
  subst h
  have hy0:¬ ((y.toNat:Int)=0):=fun e=>by
   have:y=0:=UInt32.toNat_inj.1 (by simpa using e)
   simp [this] at hy
  exact .mk (v':=.int .u32 (x % y).toNat) (fun w=>by simp only [binOp,Op.intDiv,hy0,if_false,rem_u32]; rfl) (.u32 _)
 case and=>subst h; exact .mk (v':=.int .u32 (x &&& y).toNat) (fun w=>by simp only [binOp,Op.intBits,IntKind.bits,ofInt_u32,bits_u32]; rfl) (.u32 _)
 case or=>subst h; exact .mk (v':=.int .u32 (x ||| y).toNat) (fun w=>by simp only [binOp,Op.intBits,IntKind.bits,ofInt_u32,bits_u32]; rfl) (.u32 _)
 case xor=>subst h; exact .mk (v':=.int .u32 (x ^^^ y).toNat) (fun w=>by simp only [binOp,Op.intBits,IntKind.bits,ofInt_u32,bits_u32]; rfl) (.u32 _)
 case andNot=>subst h; exact .mk (v':=.int .u32 (x &&& ~~~y).toNat) (fun w=>by simp only [binOp,Op.intBits,IntKind.bits,ofInt_u32,bits_u32]; rfl) (.u32 _)
 case eql=>subst h; exact .mk (v':=.bool (x == y)) (fun w=>by simp only [binOp,Op.intCmp,beq_u32]; rfl) (.bool _)
 case neq=>subst h; exact .mk (v':=.bool (x != y)) (fun w=>by simp only [binOp,Op.intCmp,bne,beq_u32]; rfl) (.bool _)
 case lss=>subst h; exact .mk (v':=.bool (decide (x < y))) (fun w=>by simp only [binOp,Op.intCmp,lss_u32]; rfl) (.bool _)
 case leq=>subst h; exact .mk (v':=.bool (decide (x≤y))) (fun w=>by simp only [binOp,Op.intCmp,leq_u32]; rfl) (.bool _)
 case gtr=>subst h; exact .mk (v':=.bool (decide (y < x))) (fun w=>by simp only [binOp,Op.intCmp,GT.gt,lss_u32]; rfl) (.bool _)
 case geq=>subst h; exact .mk (v':=.bool (decide (y≤x))) (fun w=>by simp only [binOp,Op.intCmp,GE.ge,leq_u32]; rfl) (.bool _)
 all_goals cases h
def bin_u64 (op:BinOp) (x y:UInt64):Option AVal:=
 match op with
 | .add=>some (.u64 (x+y))
 | .sub=>some (.u64 (x - y))
 | .mul=>some (.u64 (x * y))
 | .quo=>cond (y == 0) none (some (.u64 (x / y)))
 | .rem=>cond (y == 0) none (some (.u64 (x % y)))
 | .and=>some (.u64 (x &&& y))
 | .or=>some (.u64 (x ||| y))
 | .xor=>some (.u64 (x ^^^ y))
 | .andNot=>some (.u64 (x &&& ~~~y))
 | .eql=>some (.bool (x == y))
 | .neq=>some (.bool (x != y))
 | .lss=>some (.bool (decide (x < y)))
 | .leq=>some (.bool (decide (x≤y)))
 | .gtr=>some (.bool (decide (y < x)))
 | .geq=>some (.bool (decide (y≤x)))
 | _=>none
theorem bin_u64_ok {P:Program}{op:BinOp}{t:TypeId}{x y:UInt64}{v:AVal}(h:bin_u64 op x y=some v) (σ:Sig) :
  OkV P σ v (binOp op t (.int .u64 x.toNat) (.int .u64 y.toNat)):=by
 cases op <;> simp only [bin_u64,Option.some.injEq] at h
 case add=>subst h; exact .mk (v':=.int .u64 (x+y).toNat) (fun w=>by simp [binOp,Op.intArith,add_u64]) (.u64 _)
 case sub=>subst h; exact .mk (v':=.int .u64 (x - y).toNat) (fun w=>by simp only [binOp,Op.intArith,sub_u64]; rfl) (.u64 _)
 case mul=>subst h; exact .mk (v':=.int .u64 (x * y).toNat) (fun w=>by simp only [binOp,Op.intArith,mul_u64]; rfl) (.u64 _)
 case quo =>
  cases hy:(y == 0) <;> rw [hy] at h <;> simp at h
  subst h
  have hy0:¬ ((y.toNat:Int)=0):=fun e=>by
   have:y=0:=UInt64.toNat_inj.1 (by simpa using e)
   simp [this] at hy
  exact .mk (v':=.int .u64 (x / y).toNat) (fun w=>by simp only [binOp,Op.intDiv,hy0,if_false,quo_u64]; rfl) (.u64 _)
 case rem =>
  cases hy:(y == 0) <;> rw [hy] at h <;> simp at h
  subst h
  have hy0:¬ ((y.toNat:Int)=0):=fun e=>by
   have:y=0:=UInt64.toNat_inj.1 (by simpa using e)
   simp [this] at hy
  exact .mk (v':=.int .u64 (x % y).toNat) (fun w=>by simp only [binOp,Op.intDiv,hy0,if_false,rem_u64]; rfl) (.u64 _)
 case and=>subst h; exact .mk (v':=.int .u64 (x &&& y).toNat) (fun w=>by simp only [binOp,Op.intBits,IntKind.bits,ofInt_u64,bits_u64]; rfl) (.u64 _)
 case or=>subst h; exact .mk (v':=.int .u64 (x ||| y).toNat) (fun w=>by simp only [binOp,Op.intBits,IntKind.bits,ofInt_u64,bits_u64]; rfl) (.u64 _)
 case xor=>subst h; exact .mk (v':=.int .u64 (x ^^^ y).toNat) (fun w=>by simp only [binOp,Op.intBits,IntKind.bits,ofInt_u64,bits_u64]; rfl) (.u64 _)
 case andNot=>subst h; exact .mk (v':=.int .u64 (x &&& ~~~y).toNat) (fun w=>by simp only [binOp,Op.intBits,IntKind.bits,ofInt_u64,bits_u64]; rfl) (.u64 _)
 case eql=>subst h; exact .mk (v':=.bool (x == y)) (fun w=>by simp only [binOp,Op.intCmp,beq_u64]; rfl) (.bool _)
 case neq=>subst h; exact .mk (v':=.bool (x != y)) (fun w=>by simp only [binOp,Op.intCmp,bne,beq_u64]; rfl) (.bool _)
 case lss=>subst h; exact .mk (v':=.bool (decide (x < y))) (fun w=>by simp only [binOp,Op.intCmp,lss_u64]; rfl) (.bool _)
 case leq=>subst h; exact .mk (v':=.bool (decide (x≤y))) (fun w=>by simp only [binOp,Op.intCmp,leq_u64]; rfl) (.bool _)
 case gtr=>subst h; exact .mk (v':=.bool (decide (y < x))) (fun w=>by simp only [binOp,Op.intCmp,GT.gt,lss_u64]; rfl) (.bool _)
 case geq=>subst h; exact .mk (v':=.bool (decide (y≤x))) (fun w=>by simp only [binOp,Op.intCmp,GE.ge,leq_u64]; rfl) (.bool _)
 all_goals cases h
def bin_i (op:BinOp) (k:IntKind) (x y:Int):Option AVal:=
 match op with
 | .add=>some (.int k (k.wrap (x+y)))
 | .sub=>some (.int k (k.wrap (x - y)))
 | .mul=>some (.int k (k.wrap (x * y)))
 | .quo=>cond (y == 0) none (some (.int k (k.wrap (x.tdiv y))))
 | .rem=>cond (y == 0) none (some (.int k (x.tmod y)))
 | .and=>some (.int k (k.wrap (BitVec.ofInt k.bits x &&& BitVec.ofInt k.bits y).toNat))
 | .or=>some (.int k (k.wrap (BitVec.ofInt k.bits x ||| BitVec.ofInt k.bits y).toNat))
 | .xor=>some (.int k (k.wrap (BitVec.ofInt k.bits x ^^^ BitVec.ofInt k.bits y).toNat))
 | .andNot=>some (.int k (k.wrap (BitVec.ofInt k.bits x &&& ~~~BitVec.ofInt k.bits y).toNat))
 | .eql=>some (.bool (x == y))
 | .neq=>some (.bool (x != y))
 | .lss=>some (.bool (decide (x < y)))
 | .leq=>some (.bool (decide (x≤y)))
 | .gtr=>some (.bool (decide (y < x)))
 | .geq=>some (.bool (decide (y≤x)))
 | _=>none
theorem bin_i_ok {P:Program}{op:BinOp}{t:TypeId}{k:IntKind}{x y:Int}{v:AVal}(h:bin_i op k x y=some v) (σ:Sig) :
  OkV P σ v (binOp op t (.int k x) (.int k y)):=by
 cases op <;> simp only [bin_i,Option.some.injEq] at h
 case quo =>
  cases hy:(y == 0) <;> rw [hy] at h <;> simp at h
  subst h
  have hy0:¬ (y=0):=by simpa using hy
  exact .mk (v':=.int k _) (fun w=>by simp only [binOp,Op.intDiv,hy0,if_false,ne_eq,not_true]; rfl) (.int _ _)
 case rem =>
  cases hy:(y == 0) <;> rw [hy] at h <;> simp at h
  subst h
  have hy0:¬ (y=0):=by simpa using hy
  exact .mk (v':=.int k _) (fun w=>by simp only [binOp,Op.intDiv,hy0,if_false,ne_eq,not_true]; rfl) (.int _ _)
 case eql=>subst h; exact .mk (v':=.bool _) (fun w=>by simp only [binOp,Op.intCmp,ne_eq,not_true,if_false]; rfl) (.bool _)
 case neq=>subst h; exact .mk (v':=.bool _) (fun w=>by simp only [binOp,Op.intCmp,ne_eq,not_true,if_false]; rfl) (.bool _)
 case lss=>subst h; exact .mk (v':=.bool _) (fun w=>by simp only [binOp,Op.intCmp,ne_eq,not_true,if_false]; rfl) (.bool _)
 case leq=>subst h; exact .mk (v':=.bool _) (fun w=>by simp only [binOp,Op.intCmp,ne_eq,not_true,if_false]; rfl) (.bool _)
 case gtr=>subst h; exact .mk (v':=.bool _) (fun w=>by simp only [binOp,Op.intCmp,ne_eq,not_true,if_false]; rfl) (.bool _)
 case geq=>subst h; exact .mk (v':=.bool _) (fun w=>by simp only [binOp,Op.intCmp,ne_eq,not_true,if_false]; rfl) (.bool _)
 case shl=>cases h
 case shr=>cases h
 all_goals (subst h; exact .mk (v':=.int k _) (fun w=>by simp only [binOp,Op.intArith,Op.intBits,ne_eq,not_true,if_false]; rfl) (.int _ _))
def bin_s (op:BinOp) (x y:List UInt8):Option AVal:=
 match op with
 | .add=>cond (Nat.ble (x.length+y.length) 9223372036854775807) (some (.str (x++y))) none
 | .eql=>some (.bool (x == y))
 | .neq=>some (.bool (!(x == y)))
 | .lss=>some (.bool (Op.bytesLess x y))
 | .leq=>some (.bool (Op.bytesLess x y || x == y))
 | .gtr=>some (.bool (!(Op.bytesLess x y || x == y)))
 | .geq=>some (.bool (!Op.bytesLess x y))
 | _=>none
theorem toList_mk (l:List UInt8):(ByteArray.mk l.toArray).toList=l:=by
 rw [ByteArray.toList_eq]
theorem append_mk (x y:List UInt8):(ByteArray.mk x.toArray++ByteArray.mk y.toArray:ByteArray)=⟨(x++y).toArray⟩:=by
 apply ByteArray.ext
 rw [ByteArray.data_append]
 simp
theorem bin_s_ok {P:Program}{op:BinOp}{t:TypeId}{x y:List UInt8}{v:AVal}(h:bin_s op x y=some v) (σ:Sig) :
  OkV P σ v (binOp op t (.string ⟨x.toArray⟩) (.string ⟨y.toArray⟩)):=by
 cases op <;> simp only [bin_s,Option.some.injEq] at h
 case add =>
  cases hb:Nat.ble (x.length+y.length) 9223372036854775807 <;> rw [hb] at h <;> simp at h
  subst h
  rw [Nat.ble_eq] at hb
  refine .mk (v':=.string ⟨(x++y).toArray⟩) (fun w => ?_) (.str _)
  have hx:(ByteArray.mk x.toArray).size=x.length:=by simp [ByteArray.size]
  have hy:(ByteArray.mk y.toArray).size=y.length:=by simp [ByteArray.size]
  simp only [binOp]
  rw [run_string_add_sum w _ _ (by rw [hx,hy]; exact hb),append_mk]
 case eql=>subst h; exact .mk (v':=.bool _) (fun w=>by simp only [binOp,Op.stringOp,toList_mk]; rfl) (.bool _)
 case neq=>subst h; exact .mk (v':=.bool _) (fun w=>by simp only [binOp,Op.stringOp,toList_mk]; rfl) (.bool _)
 case lss=>subst h; exact .mk (v':=.bool _) (fun w=>by simp only [binOp,Op.stringOp,toList_mk]; rfl) (.bool _)
 case leq=>subst h; exact .mk (v':=.bool _) (fun w=>by simp only [binOp,Op.stringOp,toList_mk]; rfl) (.bool _)
 case gtr=>subst h; exact .mk (v':=.bool _) (fun w=>by simp only [binOp,Op.stringOp,toList_mk]; rfl) (.bool _)
 case geq=>subst h; exact .mk (v':=.bool _) (fun w=>by simp only [binOp,Op.stringOp,toList_mk]; rfl) (.bool _)
 all_goals cases h
end Go.Eng
namespace Go.Eng
open Go
def cnt:AVal→Option Nat
 | .u8 x=>some x.toNat
 | .u32 x=>some x.toNat
 | .u64 x=>some x.toNat
 | .int _ n=>cond (decide (n < 0)) none (some n.toNat)
 | _=>none
theorem cnt_ok {y:AVal}{n:Nat}(h:cnt y=some n){σ:Sig}{y':Value}(hy:VR σ y y'):∃ k m,y'=.int k m ∧ ¬ m < 0∧m.toNat=n:=by
 cases hy <;> simp only [cnt,Option.some.injEq] at h
 case u8 x=>exact ⟨_,_,rfl,by omega,by omega⟩
 case u32 x=>exact ⟨_,_,rfl,by omega,by omega⟩
 case u64 x=>exact ⟨_,_,rfl,by omega,by omega⟩
 case int k m =>
  cases hb:decide (m < 0) <;> rw [hb] at h <;> simp at h
  exact ⟨_,_,rfl,by simpa using hb,h⟩
 all_goals cases h
def shlA (x y:AVal):Option AVal:=
 match cnt y with
 | none=>none
 | some n=>match x with
  | .u8 a=>some (.u8 (shl_u8 a n))
  | .u32 a=>some (.u32 (shl_u32 a n))
  | .u64 a=>some (.u64 (shl_u64 a n))
  | .int k a=>some (.int k (k.wrap (a * 2 ^ min n k.bits)))
  | _=>none
def shrA (x y:AVal):Option AVal:=
 match cnt y with
 | none=>none
 | some n=>match x with
  | .u8 a=>some (.u8 (shr_u8 a n))
  | .u32 a=>some (.u32 (shr_u32 a n))
  | .u64 a=>some (.u64 (shr_u64 a n))
  | .int k a=>some (.int k (a.fdiv (2 ^ min n k.bits)))
  | _=>none
theorem shlA_ok {P:Program}{t:TypeId}{x y v:AVal}(h:shlA x y=some v){σ:Sig}{x' y':Value}(hx:VR σ x x') (hy:VR σ y y') :
  OkV P σ v (binOp .shl t x' y'):=by
 simp only [shlA] at h
 cases hc:cnt y with
 | none=>rw [hc] at h; cases h
 | some n =>
  rw [hc] at h
  obtain ⟨k,m,rfl,hm,rfl⟩:=cnt_ok hc hy
  cases hx <;> simp only [Option.some.injEq] at h
  case u8 a=>subst h; exact .mk (v':=.int .u8 _) (fun w=>by simp only [binOp,Op.shift,hm,if_false,shl_u8_eq]; rfl) (.u8 _)
  case u32 a=>subst h; exact .mk (v':=.int .u32 _) (fun w=>by simp only [binOp,Op.shift,hm,if_false,shl_u32_eq]; rfl) (.u32 _)
  case u64 a=>subst h; exact .mk (v':=.int .u64 _) (fun w=>by simp only [binOp,Op.shift,hm,if_false,shl_u64_eq]; rfl) (.u64 _)
  case int k a=>subst h; exact .mk (v':=.int k _) (fun w=>by simp only [binOp,Op.shift,hm,if_false]; rfl) (.int _ _)
  all_goals cases h
theorem shrA_ok {P:Program}{t:TypeId}{x y v:AVal}(h:shrA x y=some v){σ:Sig}{x' y':Value}(hx:VR σ x x') (hy:VR σ y y') :
  OkV P σ v (binOp .shr t x' y'):=by
 simp only [shrA] at h
 cases hc:cnt y with
 | none=>rw [hc] at h; cases h
 | some n =>
  rw [hc] at h
  obtain ⟨k,m,rfl,hm,rfl⟩:=cnt_ok hc hy
  cases hx <;> simp only [Option.some.injEq] at h
  case u8 a=>subst h; exact .mk (v':=.int .u8 _) (fun w=>by simp only [binOp,Op.shift,hm,if_false,shr_u8_eq]; rfl) (.u8 _)
  case u32 a=>subst h; exact .mk (v':=.int .u32 _) (fun w=>by simp only [binOp,Op.shift,hm,if_false,shr_u32_eq]; rfl) (.u32 _)
  case u64 a=>subst h; exact .mk (v':=.int .u64 _) (fun w=>by simp only [binOp,Op.shift,hm,if_false,shr_u64_eq]; rfl) (.u64 _)
  case int k a=>subst h; exact .mk (v':=.int k _) (fun w=>by simp only [binOp,Op.shift,hm,if_false]; rfl) (.int _ _)
  all_goals cases h
def unA (op:UnOp) (x:AVal):Option AVal:=
 match op,x with
 | .not,.bool b=>some (.bool !b)
 | .neg,.u8 a=>some (.u8 (0 - a))
 | .neg,.u32 a=>some (.u32 (0 - a))
 | .neg,.u64 a=>some (.u64 (0 - a))
 | .neg,.int k a=>some (.int k (k.wrap (0 - a)))
 | .xor,.u8 a=>some (.u8 (~~~a))
 | .xor,.u32 a=>some (.u32 (~~~a))
 | .xor,.u64 a=>some (.u64 (~~~a))
 | _,_=>none
theorem comp_u8 (x:UInt8):BitVec.ofInt 8 (IntKind.max .u8) ^^^ x.toBitVec=(~~~x).toBitVec:=by
 have e:BitVec.ofInt 8 (IntKind.max .u8)=BitVec.allOnes 8:=by decide
 rw [e,BitVec.allOnes_xor]; rfl
theorem comp_u32 (x:UInt32):BitVec.ofInt 32 (IntKind.max .u32) ^^^ x.toBitVec=(~~~x).toBitVec:=by
 have e:BitVec.ofInt 32 (IntKind.max .u32)=BitVec.allOnes 32:=by decide
 rw [e,BitVec.allOnes_xor]; rfl
theorem comp_u64 (x:UInt64):BitVec.ofInt 64 (IntKind.max .u64) ^^^ x.toBitVec=(~~~x).toBitVec:=by
 have e:BitVec.ofInt 64 (IntKind.max .u64)=BitVec.allOnes 64:=by decide
 rw [e,BitVec.allOnes_xor]; rfl
theorem unA_ok {P:Program}{op:UnOp}{x v:AVal}(h:unA op x=some v){σ:Sig}{x':Value}(hx:VR σ x x'):OkV P σ v (Op.unary op x'):=by
 cases op <;> cases hx <;> simp only [unA,Option.some.injEq] at h <;> try (cases h; done)
 case not.bool b=>subst h; exact .mk (v':=.bool _) (fun w=>rfl) (.bool _)
 case neg.int k a=>subst h; exact .mk (v':=.int k _) (fun w=>rfl) (.int _ _)
 case neg.u8 a =>
  subst h
  refine .mk (v':=.int .u8 (0 - a).toNat) (fun w => ?_) (.u8 _)
  have e:=sub_u8 0 a
  simp only [Op.unary,Op.intArith]
  rw [← e]; rfl
 case neg.u32 a =>
  subst h
  refine .mk (v':=.int .u32 (0 - a).toNat) (fun w => ?_) (.u32 _)
  have e:=sub_u32 0 a
  simp only [Op.unary,Op.intArith]
  rw [← e]; rfl
 case neg.u64 a =>
  subst h
  refine .mk (v':=.int .u64 (0 - a).toNat) (fun w => ?_) (.u64 _)
  have e:=sub_u64 0 a
  simp only [Op.unary,Op.intArith]
  rw [← e]; rfl
 case xor.u8 a =>
  subst h
  refine .mk (v':=.int .u8 (~~~a).toNat) (fun w => ?_) (.u8 _)
  have hs:IntKind.signed .u8=false:=rfl
  simp only [Op.unary,Op.intBits,hs,Bool.false_eq_true,if_false]
  have h2:BitVec.ofInt (IntKind.bits .u8) (IntKind.max .u8) ^^^ BitVec.ofInt (IntKind.bits .u8) (a.toNat:Int)=(~~~a).toBitVec:=by
   show BitVec.ofInt 8 (IntKind.max .u8) ^^^ BitVec.ofInt 8 (a.toNat:Int)=_
   rw [ofInt_u8,comp_u8]
  rw [h2]
  exact congrArg (fun n=>Result.ok (Value.int .u8 n) w) (bits_u8 (~~~a).toBitVec)
 case xor.u32 a =>
  subst h
  refine .mk (v':=.int .u32 (~~~a).toNat) (fun w => ?_) (.u32 _)
  have hs:IntKind.signed .u32=false:=rfl
  simp only [Op.unary,Op.intBits,hs,Bool.false_eq_true,if_false]
  have h2:BitVec.ofInt (IntKind.bits .u32) (IntKind.max .u32) ^^^ BitVec.ofInt (IntKind.bits .u32) (a.toNat:Int)=(~~~a).toBitVec:=by
   show BitVec.ofInt 32 (IntKind.max .u32) ^^^ BitVec.ofInt 32 (a.toNat:Int)=_
   rw [ofInt_u32,comp_u32]
  rw [h2]
  exact congrArg (fun n=>Result.ok (Value.int .u32 n) w) (bits_u32 (~~~a).toBitVec)
 case xor.u64 a =>
  subst h
  refine .mk (v':=.int .u64 (~~~a).toNat) (fun w => ?_) (.u64 _)
  have hs:IntKind.signed .u64=false:=rfl
  simp only [Op.unary,Op.intBits,hs,Bool.false_eq_true,if_false]
  have h2:BitVec.ofInt (IntKind.bits .u64) (IntKind.max .u64) ^^^ BitVec.ofInt (IntKind.bits .u64) (a.toNat:Int)=(~~~a).toBitVec:=by
   show BitVec.ofInt 64 (IntKind.max .u64) ^^^ BitVec.ofInt 64 (a.toNat:Int)=_
   rw [ofInt_u64,comp_u64]
  rw [h2]
  exact congrArg (fun n=>Result.ok (Value.int .u64 n) w) (bits_u64 (~~~a).toBitVec)
def cvI (k:IntKind) (x:AVal):Option AVal:=
 match x with
 | .u8 a=>match k with
  | .u8=>some (.u8 a)
  | .u32=>some (.u32 a.toUInt32)
  | .u64=>some (.u64 a.toUInt64)
  | .i64=>some (.int .i64 a.toNat)
  | k=>some (.int k (k.wrap a.toNat))
 | .u32 a=>match k with
  | .u8=>some (.u8 a.toUInt8)
  | .u32=>some (.u32 a)
  | .u64=>some (.u64 a.toUInt64)
  | .i64=>some (.int .i64 a.toNat)
  | k=>some (.int k (k.wrap a.toNat))
 | .u64 a=>match k with
  | .u8=>some (.u8 a.toUInt8)
  | .u32=>some (.u32 a.toUInt32)
  | .u64=>some (.u64 a)
  | k=>some (.int k (k.wrap a.toNat))
 | .int _ n=>match k with
  | .u8=>some (.u8 (UInt8.ofInt n))
  | .u32=>some (.u32 (UInt32.ofInt n))
  | .u64=>some (.u64 (UInt64.ofInt n))
  | k=>some (.int k (k.wrap n))
 | _=>none
theorem cvI_ok {k:IntKind}{x v:AVal}(h:cvI k x=some v){σ:Sig}{x':Value}(hx:VR σ x x'):∃ q n,x'=.int q n∧VR σ v (.int k (k.wrap n)):=by
 cases hx <;> simp only [cvI] at h
 case u8 a =>
  refine ⟨_,_,rfl,?_⟩
  cases k <;> simp only [Option.some.injEq] at h <;> subst h <;> (try rw [cv_u8_u8]) <;> (try rw [cv_u8_u32]) <;> (try rw [cv_u8_u64]) <;> (try rw [cv_u8_i64]) <;> constructor
 case u32 a =>
  refine ⟨_,_,rfl,?_⟩
  cases k <;> simp only [Option.some.injEq] at h <;> subst h <;> (try rw [cv_u32_u8]) <;> (try rw [cv_u32_u32]) <;> (try rw [cv_u32_u64]) <;> (try rw [cv_u32_i64]) <;> constructor
 case u64 a =>
  refine ⟨_,_,rfl,?_⟩
  cases k <;> simp only [Option.some.injEq] at h <;> subst h <;> (try rw [cv_u64_u8]) <;> (try rw [cv_u64_u32]) <;> (try rw [cv_u64_u64]) <;> constructor
 case int q n =>
  refine ⟨_,_,rfl,?_⟩
  cases k <;> simp only [Option.some.injEq] at h <;> subst h <;> (try rw [cv_int_u8]) <;> (try rw [cv_int_u32]) <;> (try rw [cv_int_u64]) <;> constructor
 all_goals cases h
def convA (P:Program) (src dst:TypeId) (x:AVal):Option AVal:=
 match P.underlying src with
 | none=>none
 | some _=>match P.underlying dst with
  | some (.int k)=>cvI k x
  | some .string=>match x with
   | .str l=>some (.str l)
   | _=>none
  | _=>none
theorem convA_ok {P:Program}{src dst:TypeId}{x v:AVal}(h:convA P src dst x=some v){σ:Sig}{x':Value}(hx:VR σ x x'):OkV P σ v (convert src dst x'):=by
 simp only [convA] at h
 cases hs:P.underlying src with
 | none=>rw [hs] at h; cases h
 | some ds =>
  rw [hs] at h
  cases hd:P.underlying dst with
  | none=>rw [hd] at h; cases h
  | some dd =>
   rw [hd] at h
   cases dd <;> simp only at h <;> try (cases h; done)
   case int k =>
    obtain ⟨q,n,rfl,hv⟩:=cvI_ok h hx
    exact .mk (v':=.int k (k.wrap n)) (fun w=>by simp [convert,run_underlying hs,run_underlying hd,Conv.intToInt]) hv
   case string =>
    cases hx <;> simp only [Option.some.injEq] at h <;> try (cases h; done)
    subst h
    exact .mk (v':=.string _) (fun w=>by simp [convert,run_underlying hs,run_underlying hd]) (.str _)
def isAggA (P:Program) (t:TypeId):Option Bool:=
 match P.underlying t with
 | some (.struct _)=>some true
 | some (.array _ _)=>some true
 | some _=>some false
 | none=>none
def szA (P:Program) (t:TypeId):Option Nat:=
 match P.info? t with
 | some i=>some i.size
 | none=>none
theorem run_isAggA {P:Program}{t:TypeId}{b:Bool}(h:isAggA P t=some b) (w:World):(isAgg t).run P w=.ok b w:=by
 simp only [isAggA] at h
 cases hu:P.underlying t with
 | none=>rw [hu] at h; cases h
 | some d=>rw [hu] at h; cases d <;> simp only [Option.some.injEq] at h <;> subst h <;> simp [isAgg,run_underlying hu]
theorem run_szA {P:Program}{t:TypeId}{n:Nat}(h:szA P t=some n) (w:World):(sizeOf t).run P w=.ok n w:=by
 simp only [szA] at h
 cases hi:P.info? t with
 | none=>rw [hi] at h; cases h
 | some i=>rw [hi] at h; cases h; simp [sizeOf,typeInfo,hi]
theorem run_info {P:Program}{t:TypeId}{i:TypeInfo}(h:P.info? t=some i) (w:World):(typeInfo t).run P w=.ok i w:=by simp [typeInfo,h]
def partA (P:Program) (t:TypeId) (cs:List AVal) (off:Nat):Option AVal:=
 match isAggA P t with
 | none=>none
 | some false=>cs[off]?
 | some true=>match szA P t with
  | none=>none
  | some n=>some (.agg ((cs.drop off).take n))
theorem LR.sub {σ:Sig}{l:List AVal}{l':Array Value}(h:LR σ l l') (off n:Nat):LR σ ((l.drop off).take n) (l'.extract off (off+n)):=by
 refine ⟨by simp [h.1]; omega,fun i v v' h1 h2 => ?_⟩
 rw [List.getElem?_take] at h1
 split at h1
 ·rw [List.getElem?_drop] at h1
  rw [Array.getElem?_extract] at h2
  split at h2
  ·exact h.2 _ _ _ h1 h2
  ·cases h2
 ·cases h1
theorem partA_ok {P:Program}{t:TypeId}{cs:List AVal}{off:Nat}{v:AVal}(h:partA P t cs off=some v){σ:Sig}{cs':Array Value}(hl:LR σ cs cs'):OkV P σ v (part t cs' off):=by
 simp only [partA] at h
 cases ha:isAggA P t with
 | none=>rw [ha] at h; cases h
 | some b =>
  rw [ha] at h
  cases b <;> simp only at h
  ·obtain ⟨v',h1,h2⟩:=hl.get h
   exact .mk (v':=v') (fun w=>by simp [part,run_isAggA ha,h1]) h2
  ·cases hz:szA P t with
   | none=>rw [hz] at h; cases h
   | some n =>
    rw [hz] at h; cases h
    have:=hl.sub off n
    exact .mk (v':=.agg (cs'.extract off (off+n))) (fun w=>by simp [part,run_isAggA ha,run_szA hz]) (.agg this.1 this.2)
def eqI:AVal→AVal→Option Bool
 | .u8 a,.u8 b=>some (a == b)
 | .u32 a,.u32 b=>some (a == b)
 | .u64 a,.u64 b=>some (a == b)
 | .int k a,.int k' b=>cond (decide (k=k')) (some (a == b)) none
 | _,_=>none
def eqFs (P:Program) (rec:TypeId→AVal→AVal→Option Bool):List Field→List AVal→List AVal→Option Bool
 | [],_,_=>some true
 | f::fs,xs,ys =>
  match decide (f.name = "_") with
  | true=>eqFs P rec fs xs ys
  | false =>
   match partA P f.type xs f.offset,partA P f.type ys f.offset with
   | some a,some b=>match rec f.type a b with
    | some r=>match eqFs P rec fs xs ys with
     | some r'=>some (r && r')
     | none=>none
    | none=>none
   | _,_=>none
def eqAs (P:Program) (rec:TypeId→AVal→AVal→Option Bool) (e:TypeId) (n:Nat):Nat→List AVal→List AVal→Nat→Option Bool
 | 0,_,_,_=>some true
 | k+1,xs,ys,i =>
  match partA P e xs (i * n),partA P e ys (i * n) with
  | some a,some b=>match rec e a b with
   | some r=>match eqAs P rec e n k xs ys (i+1) with
    | some r'=>some (r && r')
    | none=>none
   | none=>none
  | _,_=>none
def eqIn (P:Program):Nat→TypeId→AVal→AVal→Option Bool
 | 0,_,_,_=>none
 | d+1,t,x,y =>
  match P.underlying t with
  | some .bool=>match x,y with
   | .bool a,.bool b=>some (a == b)
   | _,_=>none
  | some (.int _)=>eqI x y
  | some .string=>match x,y with
   | .str a,.str b=>some (a == b)
   | _,_=>none
  | some (.struct fs)=>match x,y with
   | .agg xs,.agg ys=>cond (P.stoodInHeld t) none (eqFs P (eqIn P d) fs.toList xs ys)
   | _,_=>none
  | some (.array len e)=>match x,y with
   | .agg xs,.agg ys=>match szA P e with
    | some n=>eqAs P (eqIn P d) e n len xs ys 0
    | none=>none
   | _,_=>none
  | some (.pointer _)=>match x,y with
   | .nilPtr,.nilPtr=>some true
   | .nilPtr,.ptr _ _=>some false
   | .ptr _ _,.nilPtr=>some false
   | _,_=>none
  | some (.slice _)=>match x,y with
   | .nilSlice,.nilSlice=>some true
   | .nilSlice,.slice _ _ _ _=>some false
   | .slice _ _ _ _,.nilSlice=>some false
   | _,_=>none
  | some (.map _ _)=>match x,y with
   | .nilMap,.nilMap=>some true
   | .nilMap,.map _=>some false
   | .map _,.nilMap=>some false
   | _,_=>none
  | some (.func _ _ _)=>match x,y with
   | .nilFunc,.nilFunc=>some true
   | .nilFunc,.fn _ _=>some false
   | .fn _ _,.nilFunc=>some false
   | _,_=>none
  | some (.interface _)=>match x,y with
   | .nilIface,.nilIface=>some true
   | .nilIface,.iface _ _=>some false
   | .iface _ _,.nilIface=>some false
   | _,_=>none
  | _=>none
theorem run_equalIn_array {P:Program}{d:Nat}{t e:TypeId}{len n:Nat}(ht:P.underlying t=some (.array len e)) (hn:szA P e=some n){xs ys:Array Value}{g:Nat→Bool}
  (hg:∀ i,i < len→∀ w,∃ a b,(part e xs (i * n)).run P w=.ok a w∧(part e ys (i * n)).run P w=.ok b w∧(Op.equalIn d e a b).run P w=.ok (g i) w) (w:World) :
  (Op.equalIn (d+1) t (.agg xs) (.agg ys)).run P w=.ok ((List.range len).all g) w:=by
 simp only [Op.equalIn,Sem.run_bind,run_underlying ht,Result.andThen_ok,run_szA hn]
 rw [Std.Legacy.Range.forIn_eq_forIn_range']
 simp only [Std.Legacy.Range.size,Nat.sub_zero,Nat.add_sub_cancel,Nat.div_one]
 have key:∀ (f:Nat→Option Bool × Unit→Sem (ForInStep (Option Bool × Unit))) (K:Option Bool × Unit→World→Result Bool),(∀ w,K (none,()) w=.ok true w)→(∀ w,K (some false,()) w=.ok false w) →
   (∀ i,i < len→∀ s w,(f i s).run P w=.ok (if g i then .yield (none,()) else .done (some false,())) w) →
   ∀ (l:List Nat),(∀ i ∈ l,i < len)→∀ w,((forIn l ((none,()):Option Bool × Unit) f).run P w).andThen K=.ok (l.all g) w:=by
  intro f K hk1 hk2 hf l
  induction l with
  | nil=>intro _ w; simp [hk1]
  | cons i l ih =>
   intro hl w
   have hih:=ih (fun j hj=>hl j (by simp [hj])) w
   simp only [List.forIn_cons,Sem.run_bind,hf i (hl i (by simp)),Result.andThen_ok]
   cases hgi:g i
   ·simp [hgi,hk2]
   ·simp only [hgi,if_true,List.all_cons,Bool.true_and]
    exact hih
 rw [List.range_eq_range']
 refine key _ _ (fun w=>rfl) (fun w=>rfl) (fun i hi s w => ?_) (List.range' 0 len 1) (fun i hi=>by simp at hi; omega) w
 obtain ⟨a,b,h1,h2,h3⟩:=hg i hi w
 simp only [Sem.run_bind,h1,h2,h3,Result.andThen_ok]
 cases g i <;> simp
theorem VR.agg_inv {σ:Sig}{xs:List AVal}{x':Value}(h:VR σ (.agg xs) x'):∃ xs',x'=.agg xs'∧LR σ xs xs':=by
 cases h with
 | agg hs h=>exact ⟨_,rfl,hs,h⟩
theorem eqI_ok {P:Program}{d:Nat}{t:TypeId}{k:IntKind}{x y:AVal}{r:Bool}(ht:P.underlying t=some (.int k)) (h:eqI x y=some r){σ:Sig}{x' y':Value}(hx:VR σ x x') (hy:VR σ y y') (w:World) :
  (Op.equalIn (d+1) t x' y').run P w=.ok r w:=by
 unfold eqI at h
 split at h
 ·cases hx; cases hy; cases h; simp only [Op.equalIn,Sem.run_bind,run_underlying ht,Result.andThen_ok,if_true,beq_u8]; rfl
 ·cases hx; cases hy; cases h; simp only [Op.equalIn,Sem.run_bind,run_underlying ht,Result.andThen_ok,if_true,beq_u32]; rfl
 ·cases hx; cases hy; cases h; simp only [Op.equalIn,Sem.run_bind,run_underlying ht,Result.andThen_ok,if_true,beq_u64]; rfl
 ·rename_i k a k' b
  by_cases hk:k=k'
  ·subst hk
   simp only [decide_true,cond_true,Option.some.injEq] at h
   cases hx; cases hy; subst h
   simp only [Op.equalIn,Sem.run_bind,run_underlying ht,Result.andThen_ok,if_true]; rfl
  ·simp [hk] at h
 ·cases h
def RecOk (P:Program) (d:Nat) (rec:TypeId→AVal→AVal→Option Bool):Prop:=
 ∀ t x y r,rec t x y=some r→∀ (σ:Sig) (x' y':Value),VR σ x x'→VR σ y y'→∀ w,(Op.equalIn d t x' y').run P w=.ok r w
theorem eqFs_ok {P:Program}{d:Nat}{rec:TypeId→AVal→AVal→Option Bool}(hrec:RecOk P d rec){σ:Sig}{xs ys:List AVal}{xs' ys':Array Value}(hx:LR σ xs xs') (hy:LR σ ys ys') (w:World) :
  ∀ (l:List Field) (r:Bool),eqFs P rec l xs ys=some r→(Op.eqFields d xs' ys' l).run P w=.ok r w
 | [],r,h=>by simp only [eqFs,Option.some.injEq] at h; subst h; simp [Op.eqFields]
 | f::l,r,h=>by
  have ihl:=eqFs_ok hrec hx hy w l
  simp only [eqFs] at h
  by_cases hn : f.name = "_"
  ·simp only [hn,decide_true] at h
   simp only [Op.eqFields,ne_eq,hn,not_true,if_false]
   exact ihl r h
  ·simp only [hn,decide_false] at h
   cases hpa:partA P f.type xs f.offset with
   | none=>rw [hpa] at h; cases h
   | some a =>
    cases hpb:partA P f.type ys f.offset with
    | none=>rw [hpa,hpb] at h; cases h
    | some b =>
     rw [hpa,hpb] at h
     simp only at h
     cases hr:rec f.type a b with
     | none=>rw [hr] at h; cases h
     | some r1 =>
      rw [hr] at h
      simp only at h
      cases hr2:eqFs P rec l xs ys with
      | none=>rw [hr2] at h; cases h
      | some r2 =>
       rw [hr2] at h
       simp only [Option.some.injEq] at h
       subst h
       obtain ⟨a',ha1,ha2⟩:=partA_ok hpa hx w
       obtain ⟨b',hb1,hb2⟩:=partA_ok hpb hy w
       have h3:=hrec f.type a b r1 hr σ a' b' ha2 hb2 w
       simp only [Op.eqFields,ne_eq,hn,not_false_eq_true,if_true,Sem.run_bind,ha1,hb1,h3,Result.andThen_ok,Sem.run_ite]
       cases r1
       ·simp
       ·simp only [Bool.not_true,Bool.false_eq_true,if_false,Bool.true_and]
        exact ihl r2 hr2
theorem eqAs_ok {P:Program}{d:Nat}{rec:TypeId→AVal→AVal→Option Bool}(hrec:RecOk P d rec){σ:Sig}{xs ys:List AVal}{xs' ys':Array Value}(hx:LR σ xs xs') (hy:LR σ ys ys') (e:TypeId) (n:Nat) :
  ∀ (k i:Nat) (r:Bool),eqAs P rec e n k xs ys i=some r→∃ g:Nat→Bool,(∀ j,j < k→∀ w,∃ a b,(part e xs' ((i+j) * n)).run P w=.ok a w∧(part e ys' ((i+j) * n)).run P w=.ok b w∧(Op.equalIn d e a b).run P w=.ok (g j) w)∧(List.range k).all g=r
 | 0,i,r,h=>by simp only [eqAs,Option.some.injEq] at h; exact ⟨fun _=>true,fun j hj=>by omega,by simpa using h⟩
 | k+1,i,r,h=>by
  have ihk:=eqAs_ok hrec hx hy e n k
  simp only [eqAs] at h
  cases hpa:partA P e xs (i * n) with
  | none=>rw [hpa] at h; cases h
  | some a =>
   cases hpb:partA P e ys (i * n) with
   | none=>rw [hpa,hpb] at h; cases h
   | some b =>
    rw [hpa,hpb] at h
    simp only at h
    cases hr:rec e a b with
    | none=>rw [hr] at h; cases h
    | some r1 =>
     rw [hr] at h
     simp only at h
     cases hr2:eqAs P rec e n k xs ys (i+1) with
     | none=>rw [hr2] at h; cases h
     | some r2 =>
      rw [hr2] at h
      simp only [Option.some.injEq] at h
      obtain ⟨g,hg1,hg2⟩:=ihk (i+1) r2 hr2
      refine ⟨fun j=>match j with | 0=>r1 | j+1=>g j,fun j hj w => ?_,?_⟩
      ·cases j with
       | zero =>
        obtain ⟨a',ha1,ha2⟩:=partA_ok hpa hx w
        obtain ⟨b',hb1,hb2⟩:=partA_ok hpb hy w
        exact ⟨a',b',by simpa using ha1,by simpa using hb1,hrec e a b r1 hr σ a' b' ha2 hb2 w⟩
       | succ j =>
        have:=hg1 j (by omega) w
        simpa [Nat.add_assoc,Nat.add_comm 1 j] using this
      ·rw [List.range_succ_eq_map]
       simp only [List.all_cons,List.all_map]
       rw [← h,← hg2]
       rfl
theorem eqIn_ok (P:Program):∀ (d:Nat),RecOk P d (eqIn P d)
 | 0=>fun t x y r h=>by cases h
 | d+1=>fun t x y r h σ x' y' hx hy w=>by
  have ih:=eqIn_ok P d
  unfold eqIn at h
  split at h
  ·rename_i hu
   split at h <;> cases h
   cases hx; cases hy
   simp [Op.equalIn,run_underlying hu]
  ·rename_i hu
   exact eqI_ok hu h hx hy w
  ·rename_i hu
   split at h <;> cases h
   cases hx; cases hy
   simp only [Op.equalIn,Sem.run_bind,run_underlying hu,Result.andThen_ok,beq_toListBytes,toList_mk]; rfl
  ·rename_i fs hu
   split at h
   ·obtain ⟨xs',rfl,hlx⟩:=hx.agg_inv
    obtain ⟨ys',rfl,hly⟩:=hy.agg_inv
    cases hp:P.stoodInHeld t <;> rw [hp] at h
    ·have hf:P.fieldsOf t=fs:=by simp [Program.fieldsOf,hu]
     rw [run_equalIn_struct w d t xs' ys' (by rw [hf]; exact hu) hp,hf]
     exact eqFs_ok ih hlx hly w _ _ h
    ·cases h
   ·cases h
  ·rename_i len e hu
   split at h
   ·obtain ⟨xs',rfl,hlx⟩:=hx.agg_inv
    obtain ⟨ys',rfl,hly⟩:=hy.agg_inv
    split at h
    ·rename_i n hz
     obtain ⟨g,hg1,hg2⟩:=eqAs_ok ih hlx hly e n len 0 r h
     rw [← hg2]
     exact run_equalIn_array hu hz (fun i hi w=>by simpa using hg1 i hi w) w
    ·cases h
   ·cases h
  ·rename_i hu
   split at h <;> cases h <;> cases hx <;> cases hy <;> simp [Op.equalIn,run_underlying hu]
  ·rename_i hu
   split at h <;> cases h <;> cases hx <;> cases hy <;> simp [Op.equalIn,run_underlying hu]
  ·rename_i hu
   split at h <;> cases h <;> cases hx <;> cases hy <;> simp [Op.equalIn,run_underlying hu]
  ·rename_i hu
   split at h <;> cases h <;> cases hx <;> cases hy <;> simp [Op.equalIn,run_underlying hu]
  ·rename_i hu
   split at h <;> cases h <;> cases hx <;> cases hy <;> simp [Op.equalIn,run_underlying hu]
  ·cases h
end Go.Eng
namespace Go.Eng
open Go
def toI:AVal→Option Int
 | .u8 x=>some x.toNat
 | .u32 x=>some x.toNat
 | .u64 x=>some x.toNat
 | .int _ n=>some n
 | _=>none
theorem toI_ok {x:AVal}{i:Int}(h:toI x=some i){σ:Sig}{x':Value}(hx:VR σ x x'):∃ k,x'=.int k i:=by
 unfold toI at h
 split at h <;> cases h <;> cases hx <;> exact ⟨_,rfl⟩
def idx (i:Int) (n:Nat):Option Nat:=cond (decide (0≤i) && decide (i < (n:Int))) (some i.toNat) none
theorem idx_ok {i:Int}{n m:Nat}(h:idx i n=some m):0≤i∧i < n∧i.toNat=m∧m < n:=by
 unfold idx at h
 cases hb:(decide (0≤i) && decide (i < (n:Int))) <;> rw [hb] at h <;> simp at h hb
 omega
def boundA (x:Option AVal) (dflt top:Nat):Option Nat:=
 match x with
 | none=>some dflt
 | some v=>match toI v with
  | some i=>idx i (top+1)
  | none=>none
def boundsA (low high:Option AVal) (len:Nat):Option (Nat × Nat):=
 match boundA high len len with
 | none=>none
 | some h=>match boundA low 0 h with
  | none=>none
  | some l=>some (l,h)
def OptVR (σ:Sig) (x:Option AVal) (x':Option Value):Prop:=
 match x,x' with
 | none,none=>True
 | some v,some v'=>VR σ v v'
 | _,_=>False
theorem run_boundsA {P:Program}{σ:Sig}{low high:Option AVal}{low' high':Option Value}{len cap l h:Nat}{b:Bool}(hb:boundsA low high len=some (l,h)) (hl:OptVR σ low low') (hh:OptVR σ high high')
  (hc:len≤cap) (w:World):(Instr.sliceBounds b len cap low' high' none).run P w=.ok (l,h,cap) w∧l≤h∧h≤len:=by
 unfold boundsA at hb
 cases h1:boundA high len len with
 | none=>rw [h1] at hb; cases hb
 | some hi =>
  rw [h1] at hb
  simp only at hb
  cases h2:boundA low 0 hi with
  | none=>rw [h2] at hb; cases hb
  | some lo =>
   rw [h2] at hb
   simp only [Option.some.injEq,Prod.mk.injEq] at hb
   obtain ⟨rfl,rfl⟩:=hb
   have A:hi≤len∧(high'=none→hi=len)∧(∀ v,high'=some v→∀ code,(Instr.sliceBound v cap code).run P w=.ok hi w):=by
    cases high with
    | none =>
     cases high' with
     | some v=>exact hh.elim
     | none=>simp only [boundA,Option.some.injEq] at h1; subst h1; exact ⟨Nat.le_refl _,fun _=>rfl,(fun v e=>by cases e)⟩
    | some v =>
     cases high' with
     | none=>exact hh.elim
     | some v' =>
      simp only [boundA] at h1
      cases hi1:toI v with
      | none=>rw [hi1] at h1; cases h1
      | some i =>
       rw [hi1] at h1
       obtain ⟨k,rfl⟩:=toI_ok hi1 hh
       obtain ⟨g1,g2,g3,g4⟩:=idx_ok h1
       refine ⟨by omega,(fun e=>by cases e),fun v e code => ?_⟩
       cases e
       rw [← g3]
       exact run_sliceBound w k i cap code g1 (by omega)
   have B:lo≤hi∧(low'=none→lo=0)∧(∀ v,low'=some v→∀ code,(Instr.sliceBound v hi code).run P w=.ok lo w):=by
    cases low with
    | none =>
     cases low' with
     | some v=>exact hl.elim
     | none=>simp only [boundA,Option.some.injEq] at h2; subst h2; exact ⟨Nat.zero_le _,fun _=>rfl,(fun v e=>by cases e)⟩
    | some v =>
     cases low' with
     | none=>exact hl.elim
     | some v' =>
      simp only [boundA] at h2
      cases hi1:toI v with
      | none=>rw [hi1] at h2; cases h2
      | some i =>
       rw [hi1] at h2
       obtain ⟨k,rfl⟩:=toI_ok hi1 hl
       obtain ⟨g1,g2,g3,g4⟩:=idx_ok h2
       refine ⟨by omega,(fun e=>by cases e),fun v e code => ?_⟩
       cases e
       rw [← g3]
       exact run_sliceBound w k i hi code g1 (by omega)
   refine ⟨?_,B.1,A.1⟩
   clear hl hh h1 h2
   obtain ⟨_,A2,A3⟩:=A
   obtain ⟨_,B2,B3⟩:=B
   unfold Instr.sliceBounds
   cases high' with
   | none =>
    have e:=A2 rfl; subst e
    cases low' with
    | none=>have e:=B2 rfl; subst e; simp
    | some v=>simp [B3 v rfl]
   | some v =>
    cases low' with
    | none=>have e:=B2 rfl; subst e; simp [A3 v rfl]
    | some v2=>simp [A3 v rfl,B3 v2 rfl]
theorem extract_mk (l:List UInt8) (a b:Nat):(ByteArray.mk l.toArray).extract a b=⟨((l.take b).drop a).toArray⟩:=by
 apply ByteArray.ext
 apply Array.toList_inj.1
 rw [Lib.extract_data]
 simp [List.drop_take]
theorem size_mk (l:List UInt8):(ByteArray.mk l.toArray).size=l.length:=by simp [ByteArray.size]
def sliceA (P:Program) (t:TypeId) (x:AVal) (low high:Option AVal):Option AVal:=
 match P.underlying t with
 | some .string=>match x with
  | .str s=>match boundsA low high s.length with
   | some (l,h)=>some (.str ((s.take h).drop l))
   | none=>none
  | _=>none
 | some (.slice e)=>match szA P e with
  | none=>none
  | some sz=>match x with
   | .nilSlice=>match boundsA low high 0 with
    | some _=>some .nilSlice
    | none=>none
   | .slice n off len esz=>match boundsA low high len with
    | some (l,h)=>cond (Nat.beq sz esz) (some (.slice n (off+l * esz) (h - l) esz)) none
    | none=>none
   | _=>none
 | _=>none
theorem sliceA_ok {P:Program}{t:TypeId}{x v:AVal}{low high:Option AVal}(h:sliceA P t x low high=some v){σ:Sig}{x':Value}{low' high':Option Value}(hx:VR σ x x') (hl:OptVR σ low low') (hh:OptVR σ high high') :
  OkV P σ v (Instr.sliceAt t x' low' high' none):=by
 unfold sliceA at h
 split at h
 ·rename_i hu
  split at h
  ·rename_i s
   split at h
   ·rename_i lo hi hb
    cases h; cases hx
    refine .mk (v':=.string ⟨((s.take hi).drop lo).toArray⟩) (fun w => ?_) (.str _)
    have hr:=(run_boundsA (P:=P) (b:=false) (cap:=s.length) hb hl hh (Nat.le_refl _) w).1
    unfold Instr.sliceAt
    simp only [Sem.run_bind,run_underlying hu,Result.andThen_ok]
    unfold Instr.slice
    simp only [Sem.run_bind,run_underlying hu,Result.andThen_ok,Option.isSome_none,Bool.false_eq_true,if_false,size_mk,Sem.run_pure,hr,extract_mk]
   ·cases h
  ·cases h
 ·rename_i e hu
  split at h
  ·cases h
  ·rename_i sz hz
   split at h
   ·split at h
    ·rename_i p hb
     obtain ⟨lo,hi⟩:=p
     cases h; cases hx
     refine .mk (v':=.slice none 0 0) (fun w => ?_) .nilSlice
     obtain ⟨hr,h1,h2⟩:=run_boundsA (P:=P) (b:=true) (cap:=0) hb hl hh (Nat.le_refl _) w
     unfold Instr.sliceAt
     simp only [Sem.run_bind,run_underlying hu,Result.andThen_ok]
     unfold Instr.slice
     simp only [Sem.run_bind,run_underlying hu,Result.andThen_ok,run_szA hz,Sem.run_pure,hr]
     have e1:hi=0:=by omega
     have e2:lo=0:=by omega
     subst e1; subst e2; simp
    ·cases h
   ·rename_i n off len esz
    split at h
    ·rename_i lo hi hb
     rcases beq_cases sz esz with ⟨he,hbe⟩ | ⟨he,hbe⟩ <;> rw [hbe] at h <;> simp only [cond_true,cond_false,Option.some.injEq] at h
     ·subst h; subst he
      cases hx with
      | @slice _ _ _ _ p o cap hp ho hc hs =>
       intro w
       obtain ⟨hr,h1,h2⟩:=run_boundsA (P:=P) (b:=true) hb hl hh hc w
       refine ⟨.slice (if cap=lo then some ⟨p.blk,o,none⟩ else some ((⟨p.blk,o,none⟩:Addr).add (lo * sz))) (hi - lo) (cap - lo),?_,?_⟩
       ·unfold Instr.sliceAt
        simp only [Sem.run_bind,run_underlying hu,Result.andThen_ok]
        unfold Instr.slice
        simp only [Sem.run_bind,run_underlying hu,Result.andThen_ok,run_szA hz,Sem.run_pure,hr,Option.map_some]
       ·have hadd:(⟨p.blk,o,none⟩:Addr).add (lo * sz)=⟨p.blk,o+lo * sz,none⟩:=by
         unfold Addr.add; split
         ·rename_i h0; rw [h0]; rfl
         ·rfl
        rw [hadd]
        by_cases hcl:cap=lo
        ·rw [if_pos hcl]
         have:hi - lo=0:=by omega
         rw [this]
         exact .slice hp (.inl rfl) (by omega) (by rw [hcl]; simp; omega)
        ·rw [if_neg hcl]
         refine .slice hp ?_ (by omega) ?_
         ·rcases ho with h0 | h0
          ·exact .inl (by omega)
          ·exact .inr (by omega)
         ·have:lo * sz+(cap - lo) * sz=cap * sz:=by rw [← Nat.add_mul]; congr 1; omega
          omega
     ·cases h
    ·cases h
   ·cases h
 ·cases h
def slice3A (P:Program) (t:TypeId) (x:AVal) (low:Option AVal) (high mx:AVal):Option AVal:=
 match P.underlying t with
 | some (.slice e)=>match szA P e,x with
  | some sz,.slice n off len esz=>match boundA (some mx) 0 len with
   | some m=>match boundA (some high) 0 m with
    | some h=>match boundA low 0 h with
     | some l=>cond (Nat.beq sz esz) (some (.slice n (off+l * esz) (h - l) esz)) none
     | none=>none
    | none=>none
   | none=>none
  | _,_=>none
 | _=>none
theorem run_boundA {P:Program}{σ:Sig}{x:AVal}{x':Value}{d top k cap:Nat}(h:boundA (some x) d top=some k) (hx:VR σ x x') (hc:top≤cap):k≤top∧∀ code w,(Instr.sliceBound x' cap code).run P w=.ok k w:=by
 simp only [boundA] at h
 cases hi1:toI x with
 | none=>rw [hi1] at h; cases h
 | some i =>
  rw [hi1] at h
  obtain ⟨q,rfl⟩:=toI_ok hi1 hx
  obtain ⟨g1,g2,g3,g4⟩:=idx_ok h
  refine ⟨by omega,fun code w => ?_⟩
  rw [← g3]
  exact run_sliceBound w q i cap code g1 (by omega)
theorem slice3A_ok {P:Program}{t:TypeId}{x v:AVal}{low:Option AVal}{high mx:AVal}(h:slice3A P t x low high mx=some v){σ:Sig}{x':Value}{low':Option Value}{high' mx':Value}(hx:VR σ x x') (hl:OptVR σ low low') (hh:VR σ high high') (hm:VR σ mx mx') :
  OkV P σ v (Instr.sliceAt t x' low' (some high') (some mx')):=by
 unfold slice3A at h
 split at h
 ·rename_i e hu
  split at h
  ·rename_i sz n off len esz hz
   split at h
   ·rename_i m h1
    split at h
    ·rename_i hi h2
     split at h
     ·rename_i lo h3
      rcases beq_cases sz esz with ⟨he,hbe⟩ | ⟨he,hbe⟩ <;> rw [hbe] at h <;> simp only [cond_true,cond_false,Option.some.injEq] at h
      ·subst h; subst he
       cases hx with
       | @slice _ _ _ _ p o cap hp ho hc hs =>
        intro w
        obtain ⟨m1,m2⟩:=run_boundA (P:=P) h1 hm hc
        obtain ⟨i1,i2⟩:=run_boundA (P:=P) h2 hh (Nat.le_refl _)
        have L:lo≤hi∧(low'=none→lo=0)∧(∀ v,low'=some v→∀ code,(Instr.sliceBound v hi code).run P w=.ok lo w):=by
         cases low with
         | none =>
          cases low' with
          | some v=>exact hl.elim
          | none=>simp only [boundA,Option.some.injEq] at h3; subst h3; exact ⟨Nat.zero_le _,fun _=>rfl,(fun v e=>by cases e)⟩
         | some v =>
          cases low' with
          | none=>exact hl.elim
          | some v' =>
           obtain ⟨j1,j2⟩:=run_boundA (P:=P) h3 hl (Nat.le_refl _)
           exact ⟨j1,(fun e=>by cases e),fun u e code=>by cases e; exact j2 code w⟩
        obtain ⟨l1,l2,l3⟩:=L
        have hr:(Instr.sliceBounds true len cap low' (some high') (some mx')).run P w=.ok (lo,hi,m) w:=by
         unfold Instr.sliceBounds
         cases low' with
         | none=>have e:=l2 rfl; subst e; simp [m2,i2]
         | some v2=>simp [m2,i2,l3 v2 rfl]
        refine ⟨.slice (if m=lo then some ⟨p.blk,o,none⟩ else some ((⟨p.blk,o,none⟩:Addr).add (lo * sz))) (hi - lo) (m - lo),?_,?_⟩
        ·unfold Instr.sliceAt
         simp only [Sem.run_bind,run_underlying hu,Result.andThen_ok]
         unfold Instr.slice
         simp only [Sem.run_bind,run_underlying hu,Result.andThen_ok,run_szA hz,Sem.run_pure,hr,Option.map_some]
        ·have hadd:(⟨p.blk,o,none⟩:Addr).add (lo * sz)=⟨p.blk,o+lo * sz,none⟩:=by
          unfold Addr.add; split
          ·rename_i h0; rw [h0]; rfl
          ·rfl
         rw [hadd]
         have hms:m * sz≤cap * sz:=Nat.mul_le_mul_right _ (by omega)
         by_cases hcl:m=lo
         ·rw [if_pos hcl]
          have:hi - lo=0:=by omega
          rw [this]
          exact .slice hp (.inl rfl) (by omega) (by rw [hcl]; simp; omega)
         ·rw [if_neg hcl]
          refine .slice hp ?_ (by omega) ?_
          ·rcases ho with h0 | h0
           ·exact .inl (by omega)
           ·exact .inr (by omega)
          ·have:lo * sz+(m - lo) * sz=m * sz:=by rw [← Nat.add_mul]; congr 1; omega
           omega
      ·cases h
     ·cases h
    ·cases h
   ·cases h
  ·cases h
 ·cases h
def fieldAddrA (P:Program) (t:TypeId) (x:AVal) (k:Nat):Option AVal:=
 match P.underlying t with
 | some (.struct fs)=>match fs[k]? with
  | none=>none
  | some f=>match szA P f.type with
   | none=>none
   | some sz=>match x with
    | .ptr n off=>cond (Nat.beq sz 0) none (some (.ptr n (off+f.offset)))
    | _=>none
 | _=>none
theorem add_mk (b o n:Nat):(⟨b,o,none⟩:Addr).add n=⟨b,o+n,none⟩:=by
 unfold Addr.add; split
 ·rename_i h0; rw [h0]; rfl
 ·rfl
theorem fieldAddrA_ok {P:Program}{t:TypeId}{x v:AVal}{k:Nat}(h:fieldAddrA P t x k=some v){σ:Sig}{x':Value}(hx:VR σ x x'):OkV P σ v (Instr.fieldAt t x' k):=by
 unfold fieldAddrA at h
 split at h
 ·rename_i fs hu
  split at h
  ·cases h
  ·rename_i f hf
   split at h
   ·cases h
   ·rename_i sz hz
    split at h
    ·rename_i n off
     rcases beq_cases sz 0 with ⟨he,hbe⟩ | ⟨he,hbe⟩ <;> rw [hbe] at h <;> simp only [cond_true,cond_false,Option.some.injEq] at h
     ·cases h
     ·subst h
      cases hx with
      | @ptr _ _ p hp =>
       refine .mk (v':=.pointer (some ⟨p.blk,p.sh+(off+f.offset),none⟩)) (fun w => ?_) (.ptr hp)
       unfold Instr.fieldAt
       simp only [Sem.run_bind,run_underlying hu,Result.andThen_ok,hf,Instr.sureAddr,Sem.run_pure,fieldPlace,run_szA hz,he,if_false,add_mk,Nat.add_assoc]
    ·cases h
 ·cases h
def indexAddrA (P:Program) (t:TypeId) (x i:AVal):Option AVal:=
 match toI i with
 | none=>none
 | some i=>match P.underlying t with
  | some (.array len e)=>match szA P e with
   | none=>none
   | some sz=>match x with
    | .ptr n off=>match idx i len with
     | some m=>some (.ptr n (off+m * sz))
     | none=>none
    | _=>none
  | some (.slice e)=>match szA P e with
   | none=>none
   | some sz=>match x with
    | .slice n off len esz=>match idx i len with
     | some m=>cond (Nat.beq sz esz) (some (.ptr n (off+m * esz))) none
     | none=>none
    | _=>none
  | _=>none
theorem indexAddrA_ok {P:Program}{t:TypeId}{x i v:AVal}(h:indexAddrA P t x i=some v){σ:Sig}{x' i':Value}(hx:VR σ x x') (hi:VR σ i i'):OkV P σ v (Instr.indexAt t x' i'):=by
 unfold indexAddrA at h
 split at h
 ·cases h
 ·rename_i i0 hI
  obtain ⟨k,rfl⟩:=toI_ok hI hi
  split at h
  ·rename_i len e hu
   split at h
   ·cases h
   ·rename_i sz hz
    split at h
    ·rename_i n off
     split at h
     ·rename_i m hm
      cases h
      obtain ⟨h1,h2,h3,h4⟩:=idx_ok hm
      cases hx with
      | @ptr _ _ p hp =>
       refine .mk (v':=.pointer (some ⟨p.blk,p.sh+(off+m * sz),none⟩)) (fun w => ?_) (.ptr hp)
       unfold Instr.indexAt
       simp only [asIntOf,Sem.run_bind,run_underlying hu,Result.andThen_ok,Instr.sureAddr,Sem.run_pure,run_szA hz,Sem.run_ite,h1,h2,and_self,if_true,add_mk,h3,Nat.add_assoc]
     ·cases h
    ·cases h
  ·rename_i e hu
   split at h
   ·cases h
   ·rename_i sz hz
    split at h
    ·rename_i n off len esz
     split at h
     ·rename_i m hm
      rcases beq_cases sz esz with ⟨he,hbe⟩ | ⟨he,hbe⟩ <;> rw [hbe] at h <;> simp only [cond_true,cond_false,Option.some.injEq] at h
      ·subst h; subst he
       obtain ⟨h1,h2,h3,h4⟩:=idx_ok hm
       cases hx with
       | @slice _ _ _ _ p o cap hp ho hc hs =>
        have ho':o=p.sh+off:=by
         rcases ho with h0 | h0
         ·omega
         ·exact h0
        subst ho'
        refine .mk (v':=.pointer (some ⟨p.blk,p.sh+(off+m * sz),none⟩)) (fun w => ?_) (.ptr hp)
        unfold Instr.indexAt
        simp only [asIntOf,Sem.run_bind,run_underlying hu,Result.andThen_ok,Sem.run_pure,run_szA hz,Sem.run_ite,h1,h2,and_self,if_true,add_mk,h3,Nat.add_assoc]
      ·cases h
     ·cases h
    ·cases h
  ·cases h
def fieldA (P:Program) (t:TypeId) (x:AVal) (k:Nat):Option AVal:=
 match P.underlying t with
 | some (.struct fs)=>match fs[k]? with
  | some f=>match x with
   | .agg cs=>partA P f.type cs f.offset
   | _=>none
  | none=>none
 | _=>none
theorem fieldA_ok {P:Program}{t:TypeId}{x v:AVal}{k:Nat}(h:fieldA P t x k=some v){σ:Sig}{x':Value}(hx:VR σ x x'):OkV P σ v (Instr.field t x' k):=by
 unfold fieldA at h
 split at h
 ·rename_i fs hu
  split at h
  ·rename_i f hf
   split at h
   ·obtain ⟨cs',rfl,hl⟩:=hx.agg_inv
    intro w
    obtain ⟨v',h1,h2⟩:=partA_ok h hl w
    exact ⟨v',by unfold Instr.field; simp only [Sem.run_bind,run_underlying hu,Result.andThen_ok,hf,asAgg,Sem.run_pure,h1],h2⟩
   ·cases h
  ·cases h
 ·cases h
def indexA (P:Program) (t:TypeId) (x i:AVal):Option AVal:=
 match toI i with
 | none=>none
 | some i=>match P.underlying t with
  | some (.array len e)=>match szA P e with
   | none=>none
   | some sz=>match x with
    | .agg cs=>match idx i len with
     | some m=>partA P e cs (m * sz)
     | none=>none
    | _=>none
  | some .string=>match x with
   | .str s=>match idx i s.length with
    | some m=>match s[m]? with
     | some b=>some (.u8 b)
     | none=>none
    | none=>none
   | _=>none
  | _=>none
theorem getElem?_mk (l:List UInt8) (i:Nat):(ByteArray.mk l.toArray)[i]? = l[i]?:=by
 by_cases h:i < l.length
 ·have h':i < (ByteArray.mk l.toArray).size:=by rw [size_mk]; exact h
  rw [getElem?_pos _ i h',List.getElem?_eq_getElem h]
  rfl
 ·have h':¬ i < (ByteArray.mk l.toArray).size:=by rw [size_mk]; exact h
  rw [getElem?_neg _ i h',List.getElem?_eq_none (by omega)]
theorem indexA_ok {P:Program}{t:TypeId}{x i v:AVal}(h:indexA P t x i=some v){σ:Sig}{x' i':Value}(hx:VR σ x x') (hi:VR σ i i'):OkV P σ v (Instr.index t x' i'):=by
 unfold indexA at h
 split at h
 ·cases h
 ·rename_i i0 hI
  obtain ⟨k,rfl⟩:=toI_ok hI hi
  split at h
  ·rename_i len e hu
   split at h
   ·cases h
   ·rename_i sz hz
    split at h
    ·split at h
     ·rename_i m hm
      obtain ⟨h1,h2,h3,h4⟩:=idx_ok hm
      obtain ⟨cs',rfl,hl⟩:=hx.agg_inv
      intro w
      obtain ⟨v',g1,g2⟩:=partA_ok h hl w
      exact ⟨v',by unfold Instr.index; simp only [asIntOf,Sem.run_bind,Sem.run_pure,run_underlying hu,Result.andThen_ok,Sem.run_ite,h1,h2,and_self,if_true,run_szA hz,h3,g1],g2⟩
     ·cases h
    ·cases h
  ·rename_i hu
   split at h
   ·rename_i s
    split at h
    ·rename_i m hm
     obtain ⟨h1,h2,h3,h4⟩:=idx_ok hm
     split at h
     ·rename_i b hb
      cases h; cases hx
      refine .mk (v':=.int .u8 b.toNat) (fun w => ?_) (.u8 _)
      unfold Instr.index
      simp only [asIntOf,Sem.run_bind,Sem.run_pure,run_underlying hu,Result.andThen_ok,h1,if_true,getElem?_mk,h3,hb]
     ·cases h
    ·cases h
   ·cases h
  ·cases h
def extractA (x:AVal) (k:Nat):Option AVal:=
 match x with
 | .tup vs=>vs[k]?
 | _=>none
theorem extractA_ok {P:Program}{x v:AVal}{k:Nat}(h:extractA x k=some v){σ:Sig}{x':Value}(hx:VR σ x x'):OkV P σ v (Instr.extract x' k):=by
 unfold extractA at h
 split at h
 ·cases hx with
  | tup hs hv =>
   obtain ⟨v',h1,h2⟩:=LR.get ⟨hs,hv⟩ h
   exact .mk (v':=v') (fun w=>by simp [Instr.extract,h1]) h2
 ·cases h
def cellsA:AVal→List AVal
 | .agg cs=>cs
 | v=>[v]
theorem cellsA_ok {σ:Sig}{v:AVal}{v':Value}(h:VR σ v v'):LR σ (cellsA v) v'.cells:=by
 have one:∀ {v v'},VR σ v v'→LR σ [v] #[v']:=fun hv=>LR.cons (l':=[]) hv (LR.nil σ)
 cases h with
 | agg hs h=>exact ⟨hs,h⟩
 | bool b=>exact one (.bool b)
 | u8 x=>exact one (.u8 x)
 | u32 x=>exact one (.u32 x)
 | u64 x=>exact one (.u64 x)
 | b64 b=>exact one (.b64 b)
 | int k n=>exact one (.int k n)
 | str l=>exact one (.str l)
 | nilPtr=>exact one .nilPtr
 | ptr hp=>exact one (.ptr hp)
 | nilSlice=>exact one .nilSlice
 | slice hp ho hc hs=>exact one (.slice hp ho hc hs)
 | nilMap=>exact one .nilMap
 | map hp=>exact one (.map hp)
 | nilFunc=>exact one .nilFunc
 | fn hs h=>exact one (.fn hs h)
 | nilIface=>exact one .nilIface
 | iface h=>exact one (.iface h)
 | tup hs h=>exact one (.tup hs h)
 | tp0 hp a b c=>exact one (.tp0 hp a b c)
 | tp1 hp a b c=>exact one (.tp1 hp a b c)
 | mth0=>exact one .mth0
 | mth hp=>exact one (.mth hp)
def putA (cs:List AVal) (off:Nat) (vs:List AVal):List AVal:=cs.take off++vs++cs.drop (off+vs.length)
theorem foldset (off:Nat):∀ (l:List Value) (k:Nat) (m:Array Value),(∀ (i:Nat),(((l.zipIdx k).foldl (fun cs (c,j)=>cs.setIfInBounds (off+j) c) m)[i]?)=if off+k≤i∧i < off+k+l.length∧i < m.size then l[i - (off+k)]? else m[i]?) ∧
  ((l.zipIdx k).foldl (fun cs (c,j)=>cs.setIfInBounds (off+j) c) m).size=m.size:=by
 intro l
 induction l with
 | nil=>intro k m; exact ⟨fun i=>by simp; intro h1 h2; omega,rfl⟩
 | cons x l ih =>
  intro k m
  simp only [List.zipIdx_cons,List.foldl_cons]
  obtain ⟨i1,i2⟩:=ih (k+1) (m.setIfInBounds (off+k) x)
  refine ⟨fun i => ?_,by rw [i2]; simp⟩
  rw [i1]
  simp only [Array.size_setIfInBounds,List.length_cons,Array.getElem?_setIfInBounds]
  by_cases h1:off+(k+1)≤i∧i < off+(k+1)+l.length∧i < m.size
  ·rw [if_pos h1,if_pos (by omega)]
   have:i - (off+k)=(i - (off+(k+1)))+1:=by omega
   rw [this,List.getElem?_cons_succ]
  ·rw [if_neg h1]
   by_cases h2:off+k=i
   ·subst h2
    by_cases h3:off+k < m.size
    ·rw [if_pos rfl,if_pos h3,if_pos (by omega)]; simp
    ·rw [if_pos rfl,if_neg h3,if_neg (by omega)]
     rw [Array.getElem?_eq_none (by omega)]
   ·rw [if_neg h2,if_neg (by omega)]
theorem putA_ok {σ:Sig}{cs vs:List AVal}{cs' vs':Array Value}(hc:LR σ cs cs') (hv:LR σ vs vs'){off:Nat}(hb:off+vs.length≤cs.length) :
  LR σ (putA cs off vs) (vs'.zipIdx.foldl (fun cs (c,j)=>cs.setIfInBounds (off+j) c) cs'):=by
 have key:=foldset off
 have hl:vs'.zipIdx.foldl (fun cs (c,j)=>cs.setIfInBounds (off+j) c) cs'=(vs'.toList.zipIdx 0).foldl (fun cs (c,j)=>cs.setIfInBounds (off+j) c) cs':=by
  rw [← Array.foldl_toList]; simp
 rw [hl]
 obtain ⟨k1,k2⟩:=key vs'.toList 0 cs'
 refine ⟨by rw [k2]; simp [putA,← hc.1]; omega,fun i v v' g1 g2 => ?_⟩
 rw [k1] at g2
 have e1:vs'.toList.length=vs.length:=by simp [hv.1]
 rw [e1] at g2
 unfold putA at g1
 by_cases h1:i < off
 ·rw [if_neg (by omega)] at g2
  rw [List.append_assoc,List.getElem?_append_left (by simp; omega),List.getElem?_take,if_pos h1] at g1
  exact hc.2 i v v' g1 g2
 ·by_cases h2:i < off+vs.length
  ·rw [if_pos (by have:=hc.1; omega)] at g2
   rw [List.append_assoc,List.getElem?_append_right (by simp; omega)] at g1
   have:(List.take off cs).length=off:=by simp; omega
   rw [this,List.getElem?_append_left (by omega)] at g1
   exact hv.2 (i - off) v v' g1 (by simpa using g2)
  ·rw [if_neg (by omega)] at g2
   rw [List.getElem?_append_right (by simp; omega)] at g1
   have:(List.take off cs++vs).length=off+vs.length:=by simp; omega
   rw [this,List.getElem?_drop] at g1
   have e:off+vs.length+(i - (off+vs.length))=i:=by omega
   rw [e] at g1
   exact hc.2 i v v' g1 g2
def fillA (place:Nat→Option (Nat × Nat)) (cells:List AVal):List (Nat × AVal)→Option (List AVal)
 | []=>some cells
 | (i,v)::rest =>
  match place i with
  | none=>none
  | some (off,size)=>match cellsA v with
   | vs=>cond (Nat.beq vs.length size && Nat.ble (off+vs.length) cells.length) (fillA place (putA cells off vs) rest) none
def PairsVR (σ:Sig):List (Nat × AVal)→List (Nat × Value)→Prop
 | [],[]=>True
 | (i,v)::l,(j,v')::l'=>i=j∧VR σ v v'∧PairsVR σ l l'
 | _,_=>False
theorem fillA_ok {place:Nat→Option (Nat × Nat)}{σ:Sig}:∀ {ps:List (Nat × AVal)}{ps':List (Nat × Value)}{cells r:List AVal}{cells':Array Value},fillA place cells ps=some r→PairsVR σ ps ps'→LR σ cells cells' →
  ∃ r',Instr.fill place cells' ps'=some r'∧LR σ r r':=by
 intro ps
 induction ps with
 | nil =>
  intro ps' cells r cells' h hp hc
  cases ps' with
  | nil=>simp only [fillA,Option.some.injEq] at h; subst h; exact ⟨cells',rfl,hc⟩
  | cons x l=>exact hp.elim
 | cons x l ih =>
  intro ps' cells r cells' h hp hc
  obtain ⟨i,v⟩:=x
  cases ps' with
  | nil=>exact hp.elim
  | cons y l' =>
   obtain ⟨j,v'⟩:=y
   obtain ⟨rfl,hv,hl⟩:=hp
   simp only [fillA] at h
   split at h
   ·cases h
   ·rename_i off size hpl
    have hcv:=cellsA_ok hv
    cases hb:(Nat.beq (cellsA v).length size && Nat.ble (off+(cellsA v).length) cells.length) <;> rw [hb] at h <;> simp only [cond_true,cond_false] at h
    ·cases h
    ·simp only [Bool.and_eq_true] at hb
     have hb1:=Nat.eq_of_beq_eq_true hb.1
     have hb2:=Nat.le_of_ble_eq_true hb.2
     obtain ⟨r',h1,h2⟩:=ih h hl (putA_ok hc hcv hb2)
     refine ⟨r',?_,h2⟩
     simp only [Instr.fill,hpl]
     rw [if_neg]
     ·exact h1
     ·have:=hcv.1; have:=hc.1
      simp only [ne_eq,Bool.or_eq_true,decide_eq_true_eq,not_or,Decidable.not_not]
      omega
def zeroA (P:Program) (t:TypeId):Option AVal:=
 match P.info? t with
 | some i=>match i.zero with
  | some z=>cval z
  | none=>none
 | none=>none
theorem zeroA_ok {P:Program}{t:TypeId}{v:AVal}(h:zeroA P t=some v) (σ:Sig):OkV P σ v (zeroValue t):=by
 unfold zeroA at h
 split at h
 ·rename_i i hi
  split at h
  ·rename_i z hz
   exact .mk (v':=z) (fun w=>by simp [zeroValue,run_info hi,hz]) (cval_ok h σ)
  ·cases h
 ·cases h
def placesA (P:Program):List Field→Option (List (Nat × Nat))
 | []=>some []
 | f::fs=>match szA P f.type,placesA P fs with
  | some sz,some l=>some ((f.offset,sz)::l)
  | _,_=>none
theorem run_placesA {P:Program}:∀ {fs:List Field}{l:List (Nat × Nat)},placesA P fs=some l→∀ w,(fs.mapM (m:=Sem) fun f=>do pure (f.offset,← sizeOf f.type)).run P w=.ok l w:=by
 intro fs
 induction fs with
 | nil=>intro l h w; simp only [placesA,Option.some.injEq] at h; subst h; simp
 | cons f fs ih =>
  intro l h w
  simp only [placesA] at h
  split at h
  ·rename_i sz l' h1 h2
   cases h
   simp only [List.mapM_cons,Sem.run_bind,run_szA h1,Result.andThen_ok,Sem.run_pure,ih h2]
  ·cases h
def buildA (P:Program) (t:TypeId) (ps:List (Nat × AVal)):Option AVal:=
 match zeroA P t with
 | none=>none
 | some z=>match P.underlying t with
  | some (.struct fs)=>match placesA P fs.toList with
   | none=>none
   | some pl=>match fillA (fun i=>pl[i]?) (cellsA z) ps with
    | some cs=>some (.agg cs)
    | none=>none
  | some (.array _ e)=>match szA P e with
   | none=>none
   | some sz=>match fillA (fun i=>some (i * sz,sz)) (cellsA z) ps with
    | some cs=>some (.agg cs)
    | none=>none
  | _=>none
theorem buildA_ok {P:Program}{t:TypeId}{ps:List (Nat × AVal)}{v:AVal}(h:buildA P t ps=some v){σ:Sig}{ps':Array (Nat × Value)}(hp:PairsVR σ ps ps'.toList):OkV P σ v (Instr.build t ps'):=by
 unfold buildA at h
 split at h
 ·cases h
 ·rename_i z hz
  split at h
  ·rename_i fs hu
   split at h
   ·cases h
   ·rename_i pl hpl
    split at h
    ·rename_i cs hf
     cases h
     intro w
     obtain ⟨z',hz1,hz2⟩:=zeroA_ok hz σ w
     obtain ⟨r',h1,h2⟩:=fillA_ok hf hp (cellsA_ok hz2)
     refine ⟨.agg r',?_,.agg h2.1 h2.2⟩
     unfold Instr.build
     have hm:(fs.mapM (m:=Sem) fun f=>do pure (f.offset,← sizeOf f.type)).run P w=.ok pl.toArray w:=by
      rw [Array.mapM_eq_mapM_toList]
      simp only [Sem.run_map,run_placesA hpl,Result.andThen_ok]
     simp only [Sem.run_bind,hz1,Result.andThen_ok,run_underlying hu]
     rw [hm]
     simp only [Result.andThen_ok]
     have h1':Instr.fill (fun x=>pl.toArray[x]?) z'.cells ps'.toList=some r':=by simpa using h1
     rw [h1']
     rfl
    ·cases h
  ·rename_i len e hu
   split at h
   ·cases h
   ·rename_i sz hsz
    split at h
    ·rename_i cs hf
     cases h
     intro w
     obtain ⟨z',hz1,hz2⟩:=zeroA_ok hz σ w
     obtain ⟨r',h1,h2⟩:=fillA_ok hf hp (cellsA_ok hz2)
     refine ⟨.agg r',?_,.agg h2.1 h2.2⟩
     unfold Instr.build
     simp only [Sem.run_bind,hz1,Result.andThen_ok,run_underlying hu,run_szA hsz]
     rw [h1]
     rfl
    ·cases h
  ·cases h
end Go.Eng
