/- Texts Eng6, Eng7, Eng21, EngMp: what they show that this claim uses. -/
import Derived.Test.YtlchjbidkdokmaaGreatDoorP1
import Derived.Laws.AppendOwn
import GoSem.Builtin.Copy
import GoSem.Builtin.Clear
import Derived.MapKept
set_option maxRecDepth 100000
set_option maxHeartbeats 1000000
set_option linter.unusedVariables false
set_option linter.unusedSimpArgs false
namespace Go.Eng
open Go
structure HeapTo (w w':World):Prop where
 os:w'.os=w.os
 output:w'.output=w.output
 tape:w'.tape=w.tape
theorem HRel.alloc' {σ:Sig}{H:Heap}{w w':World}(h:HRel σ H w){n:Nat}(hn:σ n=none){o:AObj}{ob:Obj}{sz:Nat}{ty:Option TypeId}(hw:w'.heap=w.heap.push ob)
  (ho:ORel (σ.set n ⟨w.heap.size,0,sz,ty⟩) w' ⟨w.heap.size,0,sz,ty⟩ o):HRel (σ.set n ⟨w.heap.size,0,sz,ty⟩) (upd H n o) w':=by
 have h1:HRel (σ.set n ⟨w.heap.size,0,sz,ty⟩) (upd H n o) (w.alloc ob):=h.alloc hn (ho.mono (Sig.le_refl _) (by rw [hw]; rfl))
 exact h1.drew hw
theorem Frm.heap {σ σ':Sig}{H H':Heap}{w w' w'':World}(h:Frm σ H w σ' H' w') (e:w''.heap=w'.heap) (h2:HeapTo w w''):Frm σ H w σ' H' w'':=
 ⟨h.ext,by rw [e]; exact h.size,h2.os,h2.output,h2.tape,fun b hb hn=>by rw [e]; exact h.old b hb hn⟩
theorem Frm.alloc' {σ:Sig}{H:Heap}{w w':World}(hr:HRel σ H w){n:Nat}(hn:σ n=none){o:AObj}{ob:Obj}{sz:Nat}{ty:Option TypeId}(hw:w'.heap=w.heap.push ob) (h2:HeapTo w w') :
  Frm σ H w (σ.set n ⟨w.heap.size,0,sz,ty⟩) (upd H n o) w':=
 (Frm.alloc (o:=o) (ob:=ob) (sz:=sz) (ty:=ty) hn fun m o' hm=>(hr.obj m o' hm).imp fun _ h=>h.1).heap hw h2
theorem cell_at {w:World}{b:Nat}{c:Array Value}{t:TypeId}{fz:Nat × Nat}(h:w.heap[b]? = some (.cells c t fz)) (i:Nat):w.cell? ⟨b,i,none⟩=c[i]?:=by
 simp [World.cell?,h]
theorem loadRow {P:Program}{σ:Sig}{w:World}{p:Place}{ro:Bool}{c:List AVal}(ho:ORel σ w p (.cells ro c)){off n:Nat}(hb:off+n≤c.length) :
  ∃ vs',(loadCells ⟨p.blk,p.sh+off,none⟩ n).run P w=.ok vs' w∧LR σ ((c.drop off).take n) vs':=by
 obtain ⟨c',t,fz,h1,h2,h3,_⟩:=ho
 have hc:∀ j,j < n→∃ v',c'[p.sh+off+j]? = some v':=fun j hj=>by
  obtain ⟨v',a,_⟩:=h3 (off+j) c[off+j] (List.getElem?_eq_getElem (by omega))
  exact ⟨v',by rw [← a]; congr 1; omega⟩
 have hload:=run_loadCells (P:=P) (w:=w) ⟨p.blk,p.sh+off,none⟩ n (fun j=>(c'[p.sh+off+j]?).getD undef) (fun j hj=>by
  rw [add_mk,cell_at h1]
  obtain ⟨v',hv⟩:=hc j hj
  rw [hv]; rfl)
 refine ⟨_,hload,?_⟩
 refine ⟨by simp; omega,fun i v v' g1 g2 => ?_⟩
 rw [List.getElem?_take] at g1
 split at g1
 ·rename_i hi
  rw [List.getElem?_drop] at g1
  obtain ⟨u',a,b⟩:=h3 (off+i) v g1
  simp only [List.getElem?_toArray,List.getElem?_map] at g2
  have e:c'[p.sh+off+i]? = some u':=by rw [← a]; congr 1; omega
  simp [hi,e] at g2
  first
   | (subst g2; exact b)
   | (obtain ⟨_,g2⟩:=g2; subst g2; exact b)
 ·cases g1
theorem storeRow {P:Program}(b o:Nat) (t:TypeId) (fz:Nat × Nat):∀ (vs:List Value) (i:Nat) (cur:Array Value) (w:World),w.heap[b]? = some (.cells cur t fz)→(∀ v ∈ vs,v.oneCell'=true)→o+i+vs.length≤cur.size→(cur.size≤fz.1 ∨ fz.2≤fz.1) →
  ∃ w',(storeCells ⟨b,o,none⟩ vs i).run P w=.ok () w'∧w'.heap[b]? = some (.cells ((vs.zipIdx i).foldl (fun cs (c,j)=>cs.setIfInBounds (o+j) c) cur) t fz) ∧
   (∀ k,k ≠ b→w'.heap[k]? = w.heap[k]?)∧w'.heap.size=w.heap.size∧HeapTo w w':=by
 intro vs
 induction vs with
 | nil=>intro i cur w h _ _ _; exact ⟨w,rfl,by simpa using h,fun _ _=>rfl,rfl,⟨rfl,rfl,rfl⟩⟩
 | cons v vs ih =>
  intro i cur w h h1 hs hf
  simp only [List.length_cons] at hs
  have hlt:o+i < cur.size:=by omega
  have hcell:w.cell? ⟨b,o+i,none⟩=some cur[o+i]:=by rw [cell_at h]; simp [hlt]
  have hfr:w.frozen? ⟨b,o+i,none⟩=false:=by
   simp only [World.frozen?,h,Bool.and_eq_false_iff,decide_eq_false_iff_not]
   omega
  have hst:(store (⟨b,o+i,none⟩:Addr) v).run P w=.ok () (w.setCell ⟨b,o+i,none⟩ v):=by
   rw [run_store P w _ v .plain (h1 v (by simp))]
   simp [hcell,hfr]
  have hw1:(w.setCell ⟨b,o+i,none⟩ v).heap[b]? = some (.cells (cur.setIfInBounds (o+i) v) t fz):=by
   simp [World.setCell,Array.getElem?_modify,h]
  obtain ⟨w',a1,a2,a3,a4,a5⟩:=ih (i+1) (cur.setIfInBounds (o+i) v) (w.setCell ⟨b,o+i,none⟩ v) hw1 (fun u hu=>h1 u (by simp [hu])) (by simp; omega) (by simpa using hf)
  refine ⟨w',?_,?_,fun k hk => ?_,by rw [a4]; simp,⟨a5.os,a5.output,a5.tape⟩⟩
  ·simp only [storeCells,add_mk,Sem.run_bind,hst,Result.andThen_ok]
   exact a1
  ·rw [a2]; simp [List.zipIdx_cons]
  ·rw [a3 k hk]
   simp only [World.setCell,Array.getElem?_modify]
   rw [if_neg (by omega)]
def oneA:AVal→Bool
 | .agg _=>false
 | .tup _=>false
 | _=>true
theorem oneA_ok {σ:Sig}{v:AVal}{v':Value}(h:VR σ v v') (ho:oneA v=true):v'.oneCell'=true:=by
 cases h <;> first | rfl | cases ho
inductive EffA where
 | pure (v:AVal)
 | read (n:Nat) (f:AObj→Option AVal)
 | alloc (o:AObj) (v:Nat→AVal)
 | eff (f:Nat→(Nat→Option AObj)→Option (AVal × List (Nat × Option AObj)))
 | look (m:Nat) (f:(Nat→Option AObj)→Option AVal)
 | also (m q:Nat) (f:(Nat→Option AObj)→Option AVal)
 | one (n:Nat) (f:AObj→Option (AVal × AObj))
 | effk (ks:List Nat) (f:Nat→(Nat→Option AObj)→Option (AVal × List (Nat × Option AObj)))
def eqV0:AVal→AVal→Bool
 | .bool a,.bool b=>a == b
 | .u8 a,.u8 b=>a == b
 | .u32 a,.u32 b=>a == b
 | .u64 a,.u64 b=>a == b
 | .int j a,.int k b=>decide (j=k) && a == b
 | .str a,.str b=>a == b
 | .nilPtr,.nilPtr=>true
 | .nilSlice,.nilSlice=>true
 | .nilMap,.nilMap=>true
 | .nilFunc,.nilFunc=>true
 | .nilIface,.nilIface=>true
 | .ptr a b,.ptr c d=>Nat.beq a c && Nat.beq b d
 | .map a,.map b=>Nat.beq a b
 | .fn f [],.fn g []=>decide (f=g)
 | .slice a b c d,.slice a' b' c' d'=>Nat.beq a a' && Nat.beq b b' && Nat.beq c c' && Nat.beq d d'
 | _,_=>false
theorem eqV0_ok {a b:AVal}(h:eqV0 a b=true):a=b:=by
 unfold eqV0 at h
 split at h
 all_goals first
  | (cases h; done)
  | rfl
  | (have:=eq_of_beq h; subst this; rfl)
  | (simp only [Bool.and_eq_true,decide_eq_true_eq,beq_iff_eq] at h; obtain ⟨rfl,rfl⟩:=h; rfl)
  | (have:=Nat.eq_of_beq_eq_true h; subst this; rfl)
  | (have:=of_decide_eq_true h; subst this; rfl)
  | (simp only [Bool.and_eq_true] at h; have h1:=Nat.eq_of_beq_eq_true h.1; have h2:=Nat.eq_of_beq_eq_true h.2; subst h1; subst h2; rfl)
  | (simp only [Bool.and_eq_true] at h; have h1:=Nat.eq_of_beq_eq_true h.1.1.1; have h2:=Nat.eq_of_beq_eq_true h.1.1.2; have h3:=Nat.eq_of_beq_eq_true h.1.2; have h4:=Nat.eq_of_beq_eq_true h.2; subst h1; subst h2; subst h3; subst h4; rfl)
def eqL0:List AVal→List AVal→Bool
 | [],[]=>true
 | a::l,b::m=>cond (eqV0 a b) (eqL0 l m) false
 | _,_=>false
theorem eqL0_ok:∀ {l m:List AVal},eqL0 l m=true→l=m
 | [],[],_=>rfl
 | [],b::m,h=>by cases h
 | a::l,[],h=>by cases h
 | a::l,b::m,h=>by
  simp only [eqL0] at h
  cases hb:eqV0 a b with
  | false=>rw [hb] at h; cases h
  | true=>rw [hb] at h; rw [eqV0_ok hb,eqL0_ok h]
def eqO0:Option AObj→Option AObj→Bool
 | some (.cells r c),some (.cells r' c')=>(r == r') && eqL0 c c'
 | some (.mp c),some (.mp c')=>eqL0 c c'
 | _,_=>false
theorem eqO0_ok {o o':Option AObj}(h:eqO0 o o'=true):o=o':=by
 unfold eqO0 at h
 split at h
 ·simp only [Bool.and_eq_true,beq_iff_eq] at h
  rw [h.1,eqL0_ok h.2]
 ·rw [eqL0_ok h]
 ·cases h
def keepB (ks:List Nat) (η:Nat→Option AObj) (us:List (Nat × Option AObj)):Bool:=us.all fun p=>ks.all fun k=>cond (Nat.beq k p.1) (eqO0 p.2 (η k)) true
def cutH (m:Nat) (η:Nat→Option AObj) (n:Nat):Option AObj:=cond (Nat.ble (n+1) m) (η n) none
def alsoH (m q:Nat) (η:Nat→Option AObj) (n:Nat):Option AObj:=cond (Nat.ble (n+1) m || Nat.beq n q) (η n) none
def appU (H:List (Nat × AObj)):List (Nat × Option AObj)→List (Nat × AObj)
 | []=>H
 | (n,some o)::us=>appU (aset H n o) us
 | (n,none)::us=>appU (adel H n) us
def EffA.app (e:EffA) (base:Nat) (H:List (Nat × AObj)):Option (AVal × List (Nat × AObj)):=
 match e with
 | .pure v=>some (v,H)
 | .read n f=>match aget H n with
  | some ob=>match f ob with
   | some v=>some (v,H)
   | none=>none
  | none=>none
 | .alloc ob v=>some (v base,aset H base ob)
 | .eff f=>match f base (aget H) with
  | some (v,us)=>some (v,appU H us)
  | none=>none
 | .effk ks f=>match f base (aget H) with
  | some (v,us)=>cond (keepB ks (aget H) us) (some (v,appU H us)) none
  | none=>none
 | .look m f=>match f (cutH m (aget H)) with
  | some v=>some (v,H)
  | none=>none
 | .also m q f=>match f (alsoH m q (aget H)) with
  | some v=>some (v,H)
  | none=>none
 | .one n f=>match aget H n with
  | some ob=>match f ob with
   | some (v,o')=>some (v,aset H n o')
   | none=>none
  | none=>none
def Free (σ:Sig) (base:Nat):Prop:=∀ j,j < 8→σ (base+j)=none
def Only (σ σ':Sig) (base:Nat):Prop:=∀ n,n < base ∨ base+8≤n→σ' n=σ n
theorem Only.refl (σ:Sig) (base:Nat):Only σ σ base:=fun _ _=>rfl
def loadA (P:Program) (t:TypeId) (x:AVal):Option EffA:=
 match x with
 | .ptr n off=>match isAggA P t with
  | some true=>match szA P t with
   | some sz=>some (.read n fun ob=>match ob with
    | .cells _ c=>cond (Nat.ble (off+sz) c.length) (some (.agg ((c.drop off).take sz))) none
    | .mp _=>none)
   | none=>none
  | some false=>some (.read n fun ob=>match ob with
   | .cells _ c=>c[off]?
   | .mp _=>none)
  | none=>none
 | _=>none
theorem loadA_ok {P:Program}{t:TypeId}{x:AVal}{e:EffA}(h:loadA P t x=some e){σ:Sig}{x':Value}(hx:VR σ x x'){H H':List (Nat × AObj)}{w:World}{base:Nat}{v:AVal}
  (ha:e.app base H=some (v,H')) (hr:HRel σ (aget H) w):H'=H∧∃ v',(Instr.loadAt t x').run P w=.ok v' w∧VR σ v v':=by
 unfold loadA at h
 split at h
 ·rename_i n off
  split at h
  ·rename_i hagg
   split at h
   ·rename_i sz hz
    cases h
    simp only [EffA.app] at ha
    cases hb:aget H n with
    | none=>rw [hb] at ha; cases ha
    | some ob =>
     rw [hb] at ha
     cases ob with
     | mp _=>cases ha
     | cells ro c =>
      simp only at ha
      cases hbl:Nat.ble (off+sz) c.length <;> rw [hbl] at ha <;> simp only [cond_true,cond_false,Option.some.injEq,Prod.mk.injEq] at ha
      ·cases ha
      ·obtain ⟨rfl,rfl⟩:=ha
       refine ⟨rfl,?_⟩
       cases hx with
       | @ptr _ _ p hp =>
        obtain ⟨q,hq,ho⟩:=hr.obj n _ hb
        rw [hp] at hq; cases hq
        obtain ⟨vs',h1,h2⟩:=loadRow (P:=P) ho (off:=off) (n:=sz) (Nat.le_of_ble_eq_true hbl)
        refine ⟨.agg vs',?_,.agg h2.1 h2.2⟩
        simp only [Instr.loadAt,Instr.sureAddr,loadVar,Sem.run_bind,Sem.run_pure,Result.andThen_ok,run_isAggA hagg,if_true,run_szA hz,h1]
   ·cases h
  ·rename_i hagg
   cases h
   simp only [EffA.app] at ha
   cases hb:aget H n with
   | none=>rw [hb] at ha; cases ha
   | some ob =>
    rw [hb] at ha
    cases ob with
    | mp _=>cases ha
    | cells ro c =>
     simp only at ha
     cases hc:c[off]? with
     | none=>rw [hc] at ha; cases ha
     | some u =>
      rw [hc] at ha
      simp only [Option.some.injEq,Prod.mk.injEq] at ha
      obtain ⟨rfl,rfl⟩:=ha
      refine ⟨rfl,?_⟩
      cases hx with
      | @ptr _ _ p hp =>
       obtain ⟨q,hq,c',t',fz,h1,h2,h3,h4⟩:=hr.obj n _ hb
       rw [hp] at hq; cases hq
       obtain ⟨v',g1,g2⟩:=h3 off u hc
       refine ⟨v',?_,g2⟩
       simp only [Instr.loadAt,Instr.sureAddr,loadVar,Sem.run_bind,Sem.run_pure,Result.andThen_ok,run_isAggA hagg,Bool.false_eq_true,if_false,run_load,cell_at h1,g1]
  ·cases h
 ·cases h
def writeA (n off:Nat) (vs:List AVal):EffA:=
 .one n fun o=>match o with
  | .cells false c=>cond (Nat.ble (off+vs.length) c.length) (some (.tup [],.cells false (putA c off vs))) none
  | _=>none
def storeA (P:Program) (t:TypeId) (x v:AVal):Option EffA:=
 match x with
 | .ptr n off=>match szA P t with
  | some sz=>cond (Nat.beq (cellsA v).length sz && (cellsA v).all oneA) (some (writeA n off (cellsA v))) none
  | none=>none
 | _=>none
theorem writeRow {P:Program}{σ:Sig}{H:List (Nat × AObj)}{w:World}{n off:Nat}{p:Place}{c vs:List AVal}{vs':Array Value}(hr:HRel σ (aget H) w) (hb:aget H n=some (.cells false c)) (hp:σ n=some p)
  (hv:LR σ vs vs') (h1:vs.all oneA=true) (hl:off+vs.length≤c.length) :
  ∃ w',(storeCells ⟨p.blk,p.sh+off,none⟩ vs'.toList 0).run P w=.ok () w'∧HRel σ (aget (aset H n (.cells false (putA c off vs)))) w'∧Frm σ (aget H) w σ (aget (aset H n (.cells false (putA c off vs)))) w':=by
 obtain ⟨q,hq,c',t',fz,e1,e2,e3,e4⟩:=hr.obj n _ hb
 rw [hp] at hq; cases hq
 have hsz:p.sh+c.length≤c'.size ∨ c.length=0:=by
  by_cases h0:c.length=0
  ·exact .inr h0
  ·obtain ⟨v',a,_⟩:=e3 (c.length - 1) c[c.length - 1] (List.getElem?_eq_getElem (by omega))
   have:=(Array.getElem?_eq_some_iff.1 a).1
   exact .inl (by omega)
 by_cases hvs:vs.length=0
 ·have hv0:vs=[]:=List.eq_nil_of_length_eq_zero hvs
  subst hv0
  have hv1:vs'.toList=[]:=by have:=hv.1; exact List.eq_nil_of_length_eq_zero (by simpa using this.symm)
  refine ⟨w,by rw [hv1]; rfl,?_,?_⟩
  ·have:aget (aset H n (.cells false (putA c off [])))=aget H:=by
    funext m
    rw [aget_aset]
    split
    ·rename_i e; subst e; rw [hb]; simp [putA]
    ·rfl
   rw [this]; exact hr
  ·have:aget (aset H n (.cells false (putA c off [])))=aget H:=by
    funext m
    rw [aget_aset]
    split
    ·rename_i e; subst e; rw [hb]; simp [putA]
    ·rfl
   rw [this]; exact Frm.refl _ _ _
 ·have hsz':p.sh+c.length≤c'.size:=by rcases hsz with h | h <;> omega
  have hlen:vs'.toList.length=vs.length:=by simp [hv.1]
  obtain ⟨w',a1,a2,a3,a4,a5⟩:=storeRow (P:=P) p.blk (p.sh+off) t' fz vs'.toList 0 c' w e1 (fun v hv'=>by
   obtain ⟨i,hi,rfl⟩:=List.mem_iff_getElem.1 hv'
   have hi':i < vs.length:=by omega
   have h2:vs[i]? = some vs[i]:=List.getElem?_eq_getElem hi'
   have h3:vs'[i]? = some vs'.toList[i]:=by simp at hi; simp [hi]
   exact oneA_ok (hv.2 i _ _ h2 h3) (List.all_eq_true.1 h1 _ (List.getElem_mem hi'))) (by omega) (by rw [e2]; exact e4.1 rfl)
  have hput:ORel σ w' p (.cells false (putA c off vs)):=by
   obtain ⟨k1,k2⟩:=foldset (p.sh+off) vs'.toList 0 c'
   refine ⟨_,t',fz,a2,by rw [k2]; exact e2,fun i v hi => ?_,e4⟩
   rw [k1]
   unfold putA at hi
   by_cases h2:i < off
   ·rw [if_neg (by omega)]
    rw [List.append_assoc,List.getElem?_append_left (by simp; omega),List.getElem?_take,if_pos h2] at hi
    exact e3 i v hi
   ·by_cases h3:i < off+vs.length
    ·rw [if_pos (by omega)]
     rw [List.append_assoc,List.getElem?_append_right (by simp; omega)] at hi
     have:(List.take off c).length=off:=by simp; omega
     rw [this,List.getElem?_append_left (by omega)] at hi
     obtain ⟨v',g1,g2⟩:=hv.get hi
     refine ⟨v',?_,g2⟩
     have e:p.sh+i - (p.sh+off+0)=i - off:=by omega
     rw [e]; simpa using g1
    ·rw [if_neg (by omega)]
     rw [List.getElem?_append_right (by simp; omega)] at hi
     have:(List.take off c++vs).length=off+vs.length:=by simp; omega
     rw [this,List.getElem?_drop] at hi
     have e:off+vs.length+(i - (off+vs.length))=i:=by omega
     rw [e] at hi
     exact e3 i v hi
  rw [aget_aset_fun]
  exact ⟨w',a1,hr.write hb rfl hp hput (fun b hb'=>a3 b hb'),Frm.write hb rfl hp (fun b hb'=>a3 b hb') a4 a5.os a5.output a5.tape⟩
theorem storeA_ok {P:Program}{t:TypeId}{x u:AVal}{e:EffA}(h:storeA P t x u=some e){σ:Sig}{x' u':Value}(hx:VR σ x x') (hu:VR σ u u'){H H':List (Nat × AObj)}{w:World}{base:Nat}{v:AVal}
  (ha:e.app base H=some (v,H')) (hr:HRel σ (aget H) w):v=.tup []∧∃ w',(Instr.storeAt t x' u').run P w=.ok () w'∧HRel σ (aget H') w'∧Frm σ (aget H) w σ (aget H') w':=by
 unfold storeA at h
 split at h
 ·rename_i n off
  split at h
  ·rename_i sz hz
   cases hb:(Nat.beq (cellsA u).length sz && (cellsA u).all oneA) <;> rw [hb] at h <;> simp only [cond_true,cond_false,Option.some.injEq] at h
   ·cases h
   ·subst h
    simp only [Bool.and_eq_true] at hb
    obtain ⟨hb1,hb2⟩:=hb
    have hb1:=Nat.eq_of_beq_eq_true hb1
    have ha':∃ c,aget H n=some (.cells false c)∧Nat.ble (off+(cellsA u).length) c.length=true∧v=.tup []∧H'=aset H n (.cells false (putA c off (cellsA u))):=by
     simp only [EffA.app,writeA] at ha
     cases hb:aget H n with
     | none=>rw [hb] at ha; cases ha
     | some ob =>
      rw [hb] at ha
      cases ob with
      | mp _=>cases ha
      | cells ro c =>
       cases ro
       ·cases hbl:Nat.ble (off+(cellsA u).length) c.length <;> simp only [hbl,cond_true,cond_false] at ha
        ·cases ha
        ·simp only [Option.some.injEq,Prod.mk.injEq] at ha
         exact ⟨c,rfl,hbl,ha.1.symm,ha.2.symm⟩
       ·cases ha
    obtain ⟨c,hc,hbl,rfl,rfl⟩:=ha'
    cases hx with
      | @ptr _ _ p hp =>
       have hcu:=cellsA_ok hu
       obtain ⟨w',a1,a2,a3⟩:=writeRow (P:=P) hr hc hp hcu hb2 (Nat.le_of_ble_eq_true hbl)
       refine ⟨rfl,w',?_,a2,a3⟩
       simp only [Instr.storeAt,Instr.sureAddr,storeVar,Sem.run_bind,Sem.run_pure,Result.andThen_ok,run_szA hz,Sem.run_ite]
       rw [if_neg (by have:=hcu.1; omega)]
       exact a1
  ·cases h
 ·cases h
theorem newRow_ok {P:Program}{σ:Sig}{H:List (Nat × AObj)}{w:World}{base:Nat}(hr:HRel σ (aget H) w) (hf:Free σ base){c:List AVal}{c':Array Value}(hc:LR σ c c') (t:TypeId) :
  ∃ w' p,(newRow t c').run P w=.ok ⟨p.blk,0,none⟩ w'∧p.sh=0∧p.sz=c'.size∧HRel (σ.set base p) (aget (aset H base (.cells false c))) w' ∧
   Frm σ (aget H) w (σ.set base p) (aget (aset H base (.cells false c))) w'∧Only σ (σ.set base p) base∧(σ.set base p) base=some p:=by
 have hn:σ base=none:=hf 0 (by omega)
 refine ⟨w.alloc (.cells c' t),⟨w.heap.size,0,c'.size,none⟩,rfl,rfl,rfl,?_,?_,fun n hn=>Sig.set_other σ _ (by omega),Sig.set_same σ base _⟩
 ·rw [aget_aset_fun]
  refine hr.alloc' hn rfl ?_
  refine ⟨c',t,(0,0),by show (w.heap.push _)[w.heap.size]? = _; simp,rfl,fun i v hi => ?_,fun _=>.inr (by simp),fun T h=>by cases h⟩
  obtain ⟨v',h1,h2⟩:=hc.get hi
  exact ⟨v',by simpa using h1,h2.mono (Sig.le_set hn _)⟩
 ·rw [aget_aset_fun]
  exact Frm.alloc' hr hn rfl ⟨rfl,rfl,rfl⟩
def boxA (v:AVal):EffA:=.alloc (.cells false (cellsA v)) fun n=>.ptr n 0
def selfT (P:Program) (t:TypeId):Bool:=
 match P.underlying t with
 | some (.struct fs)=>match fs.toList with
  | f::_=>match P.underlying f.type with
   | some (.pointer u)=>Nat.beq u t
   | _=>false
  | []=>false
 | _=>false
def isBld:AVal→Bool
 | .agg [.nilPtr,.nilSlice]=>true
 | _=>false
def typedA (t:TypeId):EffA:=.eff fun base _=>some (.ptr base 0,[(base,some (.cells false [.tp base t false,.nilSlice]))])
def newA (P:Program) (t:TypeId):Option EffA:=
 match zeroA P t with
 | some z=>cond (selfT P t && isBld z) (some (typedA t)) (some (boxA z))
 | none=>none
theorem boxA_ok {P:Program}{σ:Sig}{u:AVal}{u':Value}(hu:VR σ u u') (t:TypeId){H H':List (Nat × AObj)}{w:World}{base:Nat}{v:AVal}
  (ha:(boxA u).app base H=some (v,H')) (hr:HRel σ (aget H) w) (hf:Free σ base) :
  ∃ σ' v' w',((do pure (.pointer (some (← newVar t u'))):Sem Value)).run P w=.ok v' w'∧VR σ' v v'∧HRel σ' (aget H') w'∧Frm σ (aget H) w σ' (aget H') w'∧Only σ σ' base:=by
 simp only [boxA,EffA.app,Option.some.injEq,Prod.mk.injEq] at ha
 obtain ⟨rfl,rfl⟩:=ha
 obtain ⟨w',p,h1,h2,h3,h4,h5,h6,h7⟩:=newRow_ok (P:=P) hr hf (cellsA_ok hu) t
 refine ⟨σ.set base p,.pointer (some ⟨p.blk,0,none⟩),w',?_,?_,h4,h5,h6⟩
 ·simp only [newVar,Sem.run_bind,h1,Result.andThen_ok,Sem.run_pure]
 ·have:=VR.ptr (off:=0) h7
  rw [h2] at this; exact this
theorem typedA_ok {P:Program}{σ:Sig}{z:Value}(hz:VR σ (.agg [.nilPtr,.nilSlice]) z) (t:TypeId){H H':List (Nat × AObj)}{w:World}{base:Nat}{v:AVal}
  (ha:(typedA t).app base H=some (v,H')) (hr:HRel σ (aget H) w) (hf:Free σ base) :
  ∃ σ' v' w',((do pure (.pointer (some (← newVar t z))):Sem Value)).run P w=.ok v' w'∧VR σ' v v'∧HRel σ' (aget H') w'∧Frm σ (aget H) w σ' (aget H') w'∧Only σ σ' base:=by
 simp only [typedA,EffA.app,Option.some.injEq,Prod.mk.injEq,appU] at ha
 obtain ⟨rfl,rfl⟩:=ha
 have hn:σ base=none:=hf 0 (by omega)
 obtain ⟨c',rfl,hc⟩:∃ c',z=.agg c'∧LR σ [.nilPtr,.nilSlice] c':=by
  cases hz with
  | agg hs h=>exact ⟨_,rfl,hs,h⟩
 obtain ⟨u0,u1,rfl,h0,h1⟩:∃ u0 u1,c' = #[u0,u1]∧u0=.pointer none∧u1=.slice none 0 0:=by
  obtain ⟨x0,e0,k0⟩:=hc.get (i:=0) rfl
  obtain ⟨x1,e1,k1⟩:=hc.get (i:=1) rfl
  have hs:c'.size=2:=hc.1.symm
  refine ⟨x0,x1,?_,by cases k0; rfl,by cases k1; rfl⟩
  apply Array.ext_getElem?
  intro i
  match i with
  | 0=>rw [e0]; rfl
  | 1=>rw [e1]; rfl
  | n+2=>rw [Array.getElem?_eq_none (by omega)]; rfl
 subst h0
 subst h1
 refine ⟨σ.set base ⟨w.heap.size,0,2,some t⟩,.pointer (some ⟨w.heap.size,0,none⟩),w.alloc (.cells #[.pointer none,.slice none 0 0] t),?_,?_,?_,?_,fun n hn=>Sig.set_other σ _ (by omega)⟩
 ·simp only [newVar,Sem.run_bind,Sem.run_pure]; rfl
 ·exact VR.ptr (off:=0) (p:=⟨w.heap.size,0,2,some t⟩) (Sig.set_same σ base _)
 ·rw [aget_aset_fun]
  refine hr.alloc' hn rfl ?_
  refine ⟨#[.pointer none,.slice none 0 0],t,(0,0),by show (w.heap.push _)[w.heap.size]? = _; simp,rfl,fun i v hi => ?_,fun _=>.inr (by simp),fun T h=>by cases h; rfl⟩
  match i with
  | 0=>simp at hi; subst hi; exact ⟨_,rfl,.tp0 (Sig.set_same σ base _) rfl rfl rfl⟩
  | 1=>simp at hi; subst hi; exact ⟨_,rfl,.nilSlice⟩
  | n+2=>simp at hi
 ·rw [aget_aset_fun]
  exact Frm.alloc' hr hn rfl ⟨rfl,rfl,rfl⟩
theorem newA_ok {P:Program}{t:TypeId}{e:EffA}(h:newA P t=some e){σ:Sig}{H H':List (Nat × AObj)}{w:World}{base:Nat}{v:AVal}
  (ha:e.app base H=some (v,H')) (hr:HRel σ (aget H) w) (hf:Free σ base) :
  ∃ σ' v' w',(Instr.alloc t true (.tuple #[])).run P w=.ok v' w'∧VR σ' v v'∧HRel σ' (aget H') w'∧Frm σ (aget H) w σ' (aget H') w'∧Only σ σ' base:=by
 unfold newA at h
 split at h
 ·rename_i z hz
  obtain ⟨z',hz1,hz2⟩:=zeroA_ok hz σ w
  have key:∃ σ' v' w',((do pure (.pointer (some (← newVar t z'))):Sem Value)).run P w=.ok v' w'∧VR σ' v v'∧HRel σ' (aget H') w'∧Frm σ (aget H) w σ' (aget H') w'∧Only σ σ' base:=by
   cases hb:(selfT P t && isBld z) <;> rw [hb] at h <;> simp only [cond_true,cond_false,Option.some.injEq] at h
   ·subst h
    exact boxA_ok (P:=P) hz2 t ha hr hf
   ·subst h
    rw [Bool.and_eq_true] at hb
    have hz3:z=.agg [.nilPtr,.nilSlice]:=by
     have:=hb.2
     unfold isBld at this
     split at this
     ·rfl
     ·cases this
    subst hz3
    exact typedA_ok (P:=P) hz2 t ha hr hf
  obtain ⟨σ',v',w',h1,h2⟩:=key
  refine ⟨σ',v',w',?_,h2⟩
  unfold Instr.alloc
  simp only [Sem.run_bind,hz1,Result.andThen_ok]
  exact h1
 ·cases h
def zrow (zc:List AVal) (n:Nat):List AVal:=
 match zc with
 | [z]=>List.replicate n z
 | _=>(List.range n).map fun i=>zc.getD (i % zc.length) (.tup [])
theorem zrow_ok {σ:Sig}{zc:List AVal}{zc':Array Value}(h:LR σ zc zc'){n:Nat}(hn:n=0 ∨ 0 < zc.length):LR σ (zrow zc n) ((Array.range n).map (zc'[· % zc'.size]!)):=by
 have gen:∀ i,i < n→(zrow zc n)[i]? = zc[i % zc.length]?:=fun i hi=>by
  have h0:0 < zc.length:=by omega
  have hm:=Nat.mod_lt i h0
  unfold zrow
  split
  ·rename_i z
   simp only [List.length_cons,List.length_nil,Nat.zero_add,Nat.mod_one]
   rw [List.getElem?_replicate,if_pos hi]; rfl
  ·rw [List.getElem?_map,List.getElem?_range hi,Option.map_some,List.getD_eq_getElem?_getD,List.getElem?_eq_getElem hm]; rfl
 have len:(zrow zc n).length=n:=by unfold zrow; split <;> simp
 refine ⟨by simp [len],fun i v v' h1 h2 => ?_⟩
 have hi:i < n:=by have:=(List.getElem?_eq_some_iff.1 h1).1; omega
 rw [gen i hi] at h1
 have h0:0 < zc.length:=by omega
 have hm:=Nat.mod_lt i h0
 have h0':i % zc'.size < zc'.size:=Nat.mod_lt i (by have:=h.1; omega)
 refine h.2 (i % zc.length) v v' h1 ?_
 simp only [Array.getElem?_map,Array.getElem?_range,hi,if_true,Option.map_some,Option.some.injEq] at h2
 rw [← h2,h.1]
 simp [h0']
theorem zrow_length (zc:List AVal) (n:Nat):(zrow zc n).length=n:=by unfold zrow; split <;> simp
theorem putA_length {cs vs:List AVal}{off:Nat}(h:off+vs.length≤cs.length):(putA cs off vs).length=cs.length:=by simp [putA]; omega
theorem fillA_length {place:Nat→Option (Nat × Nat)}:∀ {ps:List (Nat × AVal)}{cells r:List AVal},fillA place cells ps=some r→r.length=cells.length:=by
 intro ps
 induction ps with
 | nil=>intro cells r h; simp only [fillA,Option.some.injEq] at h; rw [h]
 | cons x l ih =>
  intro cells r h
  obtain ⟨i,v⟩:=x
  simp only [fillA] at h
  split at h
  ·cases h
  ·rename_i off size hp
   cases hb:(Nat.beq (cellsA v).length size && Nat.ble (off+(cellsA v).length) cells.length) <;> rw [hb] at h <;> simp only [cond_true,cond_false] at h
   ·cases h
   ·simp only [Bool.and_eq_true] at hb
    rw [ih h,putA_length (Nat.le_of_ble_eq_true hb.2)]
def sliceRowA (c:List AVal) (len esz:Nat):EffA:=.alloc (.cells false c) fun n=>.slice n 0 len esz
theorem sliceRowA_ok {P:Program}{σ:Sig}{c:List AVal}{c':Array Value}(hc:LR σ c c') (t:TypeId){len cap esz:Nat}(h1:len≤cap) (h2:cap * esz≤c'.size){H H':List (Nat × AObj)}{w:World}{base:Nat}{v:AVal}
  (ha:(sliceRowA c len esz).app base H=some (v,H')) (hr:HRel σ (aget H) w) (hf:Free σ base) :
  ∃ σ' v' w',((do pure (.slice (some (← newRow t c')) len cap):Sem Value)).run P w=.ok v' w'∧VR σ' v v'∧HRel σ' (aget H') w'∧Frm σ (aget H) w σ' (aget H') w'∧Only σ σ' base:=by
 simp only [sliceRowA,EffA.app,Option.some.injEq,Prod.mk.injEq] at ha
 obtain ⟨rfl,rfl⟩:=ha
 obtain ⟨w',p,g1,g2,g3,g4,g5,g6,g7⟩:=newRow_ok (P:=P) hr hf hc t
 refine ⟨σ.set base p,.slice (some ⟨p.blk,0,none⟩) len cap,w',?_,?_,g4,g5,g6⟩
 ·simp only [Sem.run_bind,g1,Result.andThen_ok,Sem.run_pure]
 ·exact .slice g7 (.inr (by rw [g2])) h1 (by omega)
def buildSliceA (P:Program) (t:TypeId) (len:Nat) (ps:List (Nat × AVal)):Option EffA:=
 match P.underlying t with
 | some (.slice e)=>match szA P e,zeroA P e with
  | some sz,some z=>cond (Nat.ble (len * sz) 16777216 && Nat.ble 1 (cellsA z).length) (match fillA (fun i=>some (i * sz,sz)) (zrow (cellsA z) (len * sz)) ps with
   | some cs=>some (sliceRowA cs len sz)
   | none=>none) none
  | _,_=>none
 | _=>none
theorem buildSliceA_ok {P:Program}{t:TypeId}{len:Nat}{ps:List (Nat × AVal)}{e:EffA}(h:buildSliceA P t len ps=some e){σ:Sig}{ps':Array (Nat × Value)}(hp:PairsVR σ ps ps'.toList){H H':List (Nat × AObj)}{w:World}{base:Nat}{v:AVal}
  (ha:e.app base H=some (v,H')) (hr:HRel σ (aget H) w) (hf:Free σ base) :
  ∃ σ' v' w',(Instr.buildSlice t len ps').run P w=.ok v' w'∧VR σ' v v'∧HRel σ' (aget H') w'∧Frm σ (aget H) w σ' (aget H') w'∧Only σ σ' base:=by
 unfold buildSliceA at h
 split at h
 ·rename_i el hu
  split at h
  ·rename_i sz z hz hzero
   cases hb:(Nat.ble (len * sz) 16777216 && Nat.ble 1 (cellsA z).length) <;> rw [hb] at h <;> simp only [cond_true,cond_false] at h
   ·cases h
   ·simp only [Bool.and_eq_true] at hb
    have hb1:=Nat.le_of_ble_eq_true hb.1
    have hb2:=Nat.le_of_ble_eq_true hb.2
    split at h
    ·rename_i cs hfill
     cases h
     obtain ⟨z',hz1,hz2⟩:=zeroA_ok hzero σ w
     have hcz:=cellsA_ok hz2
     have hm:∀ (zz:Array Value),(len * sz=0 ∨ zz=z'.cells)→LR σ (zrow (cellsA z) (len * sz)) ((Array.range (len * sz)).map (zz[· % zz.size]!)):=fun zz hzz=>by
      rcases hzz with h0 | h0
      ·have e1:=(zrow_length (cellsA z) (len * sz))
       rw [h0] at e1 ⊢
       have:zrow (cellsA z) 0=[]:=List.eq_nil_of_length_eq_zero e1
       rw [this]; exact ⟨by simp,fun i v v' g=>by simp at g⟩
      ·subst h0; exact zrow_ok hcz (.inr hb2)
     have fin:∀ (zz:Array Value),(len * sz=0 ∨ zz=z'.cells)→∃ r',Instr.fill (fun i=>some (i * sz,sz)) ((Array.range (len * sz)).map (zz[· % zz.size]!)) ps'.toList=some r' ∧
       ∃ σ' v' w',((do pure (.slice (some (← newRow el r')) len len):Sem Value)).run P w=.ok v' w'∧VR σ' v v'∧HRel σ' (aget H') w'∧Frm σ (aget H) w σ' (aget H') w'∧Only σ σ' base:=fun zz hzz=>by
      obtain ⟨r',h1,h2⟩:=fillA_ok hfill hp (hm zz hzz)
      have hlen:r'.size=len * sz:=by rw [← h2.1,fillA_length hfill,zrow_length]
      exact ⟨r',h1,sliceRowA_ok (P:=P) h2 el (Nat.le_refl len) (esz:=sz) (by omega) ha hr hf⟩
     by_cases h0:len * sz=0
     ·obtain ⟨r',h1,σ',v',w',g1,g2⟩:=fin #[] (.inl h0)
      refine ⟨σ',v',w',?_,g2⟩
      unfold Instr.buildSlice
      simp only [Sem.run_bind,run_underlying hu,Result.andThen_ok,run_szA hz]
      rw [if_neg (by omega)]
      rw [h0] at h1
      simp only [Sem.run_bind,Sem.run_pure,Result.andThen_ok,h0,if_true,h1]
      simpa only [Sem.run_bind,Result.andThen_ok,Sem.run_pure] using g1
     ·obtain ⟨r',h1,σ',v',w',g1,g2⟩:=fin z'.cells (.inr rfl)
      refine ⟨σ',v',w',?_,g2⟩
      unfold Instr.buildSlice
      simp only [Sem.run_bind,run_underlying hu,Result.andThen_ok,run_szA hz]
      rw [if_neg (by omega)]
      simp only [Sem.run_bind,Sem.run_pure,Result.andThen_ok,h0,if_false,hz1,h1]
      simpa only [Sem.run_bind,Result.andThen_ok,Sem.run_pure] using g1
    ·cases h
  ·cases h
 ·cases h
def makeSliceA (P:Program) (t:TypeId) (len cap:AVal):Option EffA:=
 match P.underlying t with
 | some (.slice e)=>match P.info? e,zeroA P e,toI len,toI cap with
  | some i,some z,some l,some c =>
   cond (decide (0≤l) && decide (l≤c) && decide ((i.bytes:Int) * c≤281474976710656) && decide (c≤281474976710656) && Nat.ble 1 (cellsA z).length)
    (some (sliceRowA (zrow (cellsA z) (c.toNat * i.size)) l.toNat i.size)) none
  | _,_,_,_=>none
 | _=>none
theorem makeSliceA_ok {P:Program}{t:TypeId}{len cap:AVal}{e:EffA}(h:makeSliceA P t len cap=some e){σ:Sig}{len' cap':Value}(hl:VR σ len len') (hc:VR σ cap cap'){H H':List (Nat × AObj)}{w:World}{base:Nat}{v:AVal}
  (ha:e.app base H=some (v,H')) (hr:HRel σ (aget H) w) (hf:Free σ base) :
  ∃ σ' v' w',(Instr.makeSlice t len' cap').run P w=.ok v' w'∧VR σ' v v'∧HRel σ' (aget H') w'∧Frm σ (aget H) w σ' (aget H') w'∧Only σ σ' base:=by
 unfold makeSliceA at h
 split at h
 ·rename_i el hu
  split at h
  ·rename_i i z l c hi hz hl1 hc1
   cases hb:(decide (0≤l) && decide (l≤c) && decide ((i.bytes:Int) * c≤281474976710656) && decide (c≤281474976710656) && Nat.ble 1 (cellsA z).length) <;> rw [hb] at h <;> simp only [cond_true,cond_false] at h
   ·cases h
   ·cases h
    simp only [Bool.and_eq_true,decide_eq_true_eq] at hb
    obtain ⟨⟨⟨⟨b1,b2⟩,b3⟩,b4⟩,b5⟩:=hb
    have b5:=Nat.le_of_ble_eq_true b5
    obtain ⟨k1,rfl⟩:=toI_ok hl1 hl
    obtain ⟨k2,rfl⟩:=toI_ok hc1 hc
    obtain ⟨z',hz1,hz2⟩:=zeroA_ok hz σ w
    have hzr:=zrow_ok (cellsA_ok hz2) (n:=c.toNat * i.size) (.inr b5)
    obtain ⟨σ',v',w',g1,g2⟩:=sliceRowA_ok (P:=P) hzr el (len:=l.toNat) (cap:=c.toNat) (esz:=i.size) (by omega) (by simp) ha hr hf
    refine ⟨σ',v',w',?_,g2⟩
    have hz0:∀ n:Nat,n=0→(Array.range n).map ((#[]:Array Value)[· % (#[]:Array Value).size]!)=(Array.range n).map (z'.cells[· % z'.cells.size]!):=fun n hn=>by subst hn; simp
    have hsz:szA P el=some i.size:=by simp [szA,hi]
    unfold Instr.makeSlice
    simp only [Sem.run_bind,run_underlying hu,Result.andThen_ok,asInt,asIntOf,Sem.run_pure,run_info hi,wrap_i64 l (by omega) (by omega),wrap_i64 c (by omega) (by omega)]
    rw [if_neg]
    ·simp only [Sem.run_bind,Result.andThen_ok,run_askRoom,run_szA hsz]
     by_cases h0:c.toNat * i.size=0
     ·rw [h0,← hz0 0 rfl] at g1
      simp only [h0,if_true]
      simpa only [Sem.run_bind,Result.andThen_ok,Sem.run_pure] using g1
     ·simp only [h0,if_false,Sem.run_bind,hz1,Sem.run_pure,Result.andThen_ok]
      simpa only [Sem.run_bind,Result.andThen_ok,Sem.run_pure] using g1
    ·simp only [Bool.or_eq_true,decide_eq_true_eq]
     omega
  ·cases h
 ·cases h
end Go.Eng
namespace Go.Eng
open Go
def bytesA:List AVal→Option (List UInt8)
 | []=>some []
 | .u8 b::l=>match bytesA l with
  | some bs=>some (b::bs)
  | none=>none
 | _=>none
theorem bytesA_ok {σ:Sig}:∀ {l:List AVal}{bs:List UInt8}{l':Array Value},bytesA l=some bs→LR σ l l'→l'.toList=bs.map fun b=>Value.int .u8 b.toNat:=by
 intro l
 induction l with
 | nil=>intro bs l' h hl; simp only [bytesA,Option.some.injEq] at h; subst h; have:=hl.1; simp at this; simp; exact Array.eq_empty_of_size_eq_zero this.symm
 | cons v l ih =>
  intro bs l' h hl
  cases v <;> simp only [bytesA] at h <;> try (cases h; done)
  rename_i b
  split at h
  ·rename_i bs' hb
   cases h
   cases hx:l'.toList with
   | nil=>have:=hl.1; simp [← Array.length_toList,hx] at this
   | cons x xs =>
    have hl':l'=(x::xs).toArray:=by rw [← hx]
    subst hl'
    have h1:=hl.2 0 (.u8 b) x (by simp) (by simp)
    cases h1
    have h2:LR σ l xs.toArray:=⟨by have:=hl.1; simpa using this,fun i u u' g1 g2=>hl.2 (i+1) u u' (by simpa using g1) (by simpa using g2)⟩
    have:=ih hb h2
    simp only [List.map_cons,List.cons.injEq,true_and]
    simpa using this
  ·cases h
theorem foldl_push (ns:List Int) (s:ByteArray):ns.foldl (fun r n=>r.push (UInt8.ofNat n.toNat)) s=⟨(s.data.toList++ns.map fun n=>UInt8.ofNat n.toNat).toArray⟩:=by
 induction ns generalizing s with
 | nil=>cases s; simp
 | cons n ns ih =>
  rw [List.foldl_cons,ih]
  cases s
  simp [ByteArray.push]
def bytesStrA (P:Program) (src dst:TypeId) (x:AVal):Option EffA:=
 match P.underlying src with
 | some (.slice e)=>match P.underlying e,P.underlying dst with
  | some (.int .u8),some .string=>match x with
   | .nilSlice=>some (.pure (.str []))
   | .slice n off len esz=>cond (Nat.beq esz 1) (some (.read n fun ob=>match ob with
    | .cells _ c=>cond (Nat.ble (off+len) c.length) (match bytesA ((c.drop off).take len) with
     | some bs=>some (.str bs)
     | none=>none) none
    | .mp _=>none)) none
   | _=>none
  | _,_=>none
 | _=>none
theorem bytesStrA_ok {P:Program}{src dst:TypeId}{x:AVal}{e:EffA}(h:bytesStrA P src dst x=some e){σ:Sig}{x':Value}(hx:VR σ x x'){H H':List (Nat × AObj)}{w:World}{base:Nat}{v:AVal}
  (ha:e.app base H=some (v,H')) (hr:HRel σ (aget H) w):H'=H∧∃ v',(convert src dst x').run P w=.ok v' w∧VR σ v v':=by
 unfold bytesStrA at h
 split at h
 ·rename_i el hs
  split at h
  ·rename_i he hd
   split at h
   ·cases h
    simp only [EffA.app,Option.some.injEq,Prod.mk.injEq] at ha
    obtain ⟨rfl,rfl⟩:=ha
    cases hx
    refine ⟨rfl,.string ⟨([]:List UInt8).toArray⟩,?_,.str []⟩
    rw [run_convert_bytes_string w src dst el _ _ _ hs he hd]
    rfl
   ·rename_i n off len esz
    rcases beq_cases esz 1 with ⟨hz,hbe⟩ | ⟨hz,hbe⟩ <;> rw [hbe] at h <;> simp only [cond_true,cond_false,Option.some.injEq] at h
    ·subst h; subst hz
     simp only [EffA.app] at ha
     cases hb:aget H n with
     | none=>rw [hb] at ha; cases ha
     | some ob =>
      rw [hb] at ha
      cases ob with
      | mp _=>cases ha
      | cells ro c =>
       simp only at ha
       cases hbl:Nat.ble (off+len) c.length <;> rw [hbl] at ha <;> simp only [cond_true,cond_false] at ha
       ·cases ha
       ·cases hby:bytesA ((c.drop off).take len) with
        | none=>rw [hby] at ha; cases ha
        | some bs =>
         rw [hby] at ha
         simp only [Option.some.injEq,Prod.mk.injEq] at ha
         obtain ⟨rfl,rfl⟩:=ha
         refine ⟨rfl,?_⟩
         cases hx with
         | @slice _ _ _ _ p o cap hp ho hc hsz =>
          obtain ⟨q,hq,hob⟩:=hr.obj n _ hb
          rw [hp] at hq; cases hq
          have hle:=Nat.le_of_ble_eq_true hbl
          have hbl2:bs.length=len:=by
           obtain ⟨vs',g1,g2⟩:=loadRow (P:=P) hob (off:=off) (n:=len) hle
           have:=bytesA_ok hby g2
           have h3:=congrArg List.length this
           have h4:=g2.1
           simp at h3 h4
           omega
          have hld:(loadCells ⟨p.blk,o,none⟩ len).run P w=.ok ((bs.map fun b=>(b.toNat:Int)).map (Value.int .u8)).toArray w:=by
           rcases ho with h0 | h0
           ·subst h0
            have:bs=[]:=List.eq_nil_of_length_eq_zero hbl2
            subst this
            rfl
           ·subst h0
            obtain ⟨vs',g1,g2⟩:=loadRow (P:=P) hob (off:=off) (n:=len) hle
            rw [g1]
            have h5:=bytesA_ok hby g2
            congr 1
            apply Array.toList_inj.1
            rw [h5]; simp [Function.comp_def]
          refine ⟨.string ⟨bs.toArray⟩,?_,.str bs⟩
          rw [run_convert_bytes_string w src dst el _ _ _ hs he hd,run_bytesToString w _ len cap _ hld,foldl_push]
          simp [Function.comp_def]
    ·cases h
   ·cases h
  ·cases h
 ·cases h
def strBytesA (P:Program) (src dst:TypeId) (x:AVal):Option EffA:=
 match P.underlying src,P.underlying dst with
 | some .string,some (.slice e)=>match P.underlying e,szA P e,x with
  | some (.int .u8),some 1,.str s=>some (sliceRowA (s.map .u8) s.length 1)
  | _,_,_=>none
 | _,_=>none
theorem strBytesA_ok {P:Program}{src dst:TypeId}{x:AVal}{e:EffA}(h:strBytesA P src dst x=some e){σ:Sig}{x':Value}(hx:VR σ x x'){H H':List (Nat × AObj)}{w:World}{base:Nat}{v:AVal}
  (ha:e.app base H=some (v,H')) (hr:HRel σ (aget H) w) (hf:Free σ base) :
  ∃ σ' v' w',(convert src dst x').run P w=.ok v' w'∧VR σ' v v'∧HRel σ' (aget H') w'∧Frm σ (aget H) w σ' (aget H') w'∧Only σ σ' base:=by
 unfold strBytesA at h
 split at h
 ·rename_i el hs hd
  split at h
  ·rename_i s he hsz
   cases h
   simp only [sliceRowA,EffA.app,Option.some.injEq,Prod.mk.injEq] at ha
   obtain ⟨rfl,rfl⟩:=ha
   cases hx
   have hn:σ base=none:=hf 0 (by omega)
   generalize hcap:(Question.appendCap s.length 0 el).cut (w.tape w.drawn (.appendCap s.length 0 el))=cap
   have hcl:s.length≤cap:=by rw [← hcap]; simp [Question.cut]
   let c':Array Value:=(s.map fun b=>Value.int .u8 b.toNat).toArray++Array.replicate (cap - s.length) (.int .u8 0)
   have hc':c'.size=cap:=by simp [c']; omega
   have hrun:(convert src dst (.string ⟨s.toArray⟩)).run P w=.ok (.slice (some ⟨w.heap.size,0,none⟩) s.length cap) { w with drawn:=w.drawn+1,heap:=w.heap.push (.cells c' el (cap,cap+1)) }:=by
    have hq:(Question.appendCap s.length 0 el).forced=false:=rfl
    simp only [convert,Sem.run_bind,run_underlying hs,run_underlying hd,Result.andThen_ok,run_underlying he,Conv.stringToBytes,size_mk,run_choose,hq,Bool.false_eq_true,if_false,hcap]
    have e1:((s.toArray.map fun b=>Value.int .u8 (b.toNat:Int))++Array.replicate (cap - s.length) (.int .u8 0))=c':=by simp [c']
    rw [e1]
    have hsh:World.shape? { heap:=w.heap.push (.cells c' el (0,0)),tape:=w.tape,drawn:=w.drawn+1,os:=w.os,output:=w.output } w.heap.size=some (el,cap):=by simp [World.shape?,hc']
    simp only [newRow,Sem.run_bind,run_newObj,Result.andThen_ok,Sem.run_pure,markStringish,run_shape,hsh,run_freeze]
    have hfz:∀ (X:World),X.heap=w.heap.push (.cells c' el (0,0))→(X.freeze ⟨w.heap.size,cap,none⟩ 1).heap=w.heap.push (.cells c' el (cap,cap+1)):=fun X hX=>by
     simp only [World.freeze,hX]
     rw [if_neg (by omega)]
     apply Array.ext_getElem?
     intro i
     simp only [Array.getElem?_modify,Array.getElem?_push]
     by_cases hi:i=w.heap.size
     ·subst hi; simp
     ·simp [hi,Ne.symm hi]
    have h9:=hfz { w with drawn:=w.drawn+1,heap:=w.heap.push (.cells c' el (0,0)) } rfl
    have h10:∀ (X:World) (A:Array Obj),X.heap=A→X = { X with heap:=A }:=fun X A h=>by subst h; rfl
    have h11:∀ (X:World) (a:Addr),(X.freeze a 1).tape=X.tape∧(X.freeze a 1).drawn=X.drawn∧(X.freeze a 1).os=X.os∧(X.freeze a 1).output=X.output:=fun X a=>by simp [World.freeze]
    have h12:=h11 { w with drawn:=w.drawn+1,heap:=w.heap.push (.cells c' el (0,0)) } ⟨w.heap.size,cap,none⟩
    have h13:=h10 _ _ h9
    rw [h12.1,h12.2.1,h12.2.2.1,h12.2.2.2] at h13
    rw [h13]
   refine ⟨σ.set base ⟨w.heap.size,0,cap,none⟩,_,_,hrun,.slice (Sig.set_same σ base _) (.inr rfl) hcl (by simp),?_,?_,fun n hn=>Sig.set_other σ _ (by omega)⟩
   ·rw [aget_aset_fun]
    refine hr.alloc' hn rfl ⟨c',el,(cap,cap+1),by simp,hc',fun i v hi => ?_,fun _=>.inl (Nat.le_refl _),fun T h=>by cases h⟩
    rw [List.getElem?_map] at hi
    cases hsi:s[i]? with
    | none=>rw [hsi] at hi; cases hi
    | some b =>
     rw [hsi] at hi; cases hi
     refine ⟨.int .u8 b.toNat,?_,.u8 b⟩
     have hlt:=(List.getElem?_eq_some_iff.1 hsi).1
     simp only [c',Nat.zero_add]
     rw [Array.getElem?_append_left (by simpa using hlt)]
     simp [hsi]
   ·rw [aget_aset_fun]
    exact Frm.alloc' hr hn rfl ⟨rfl,rfl,rfl⟩
  ·cases h
 ·cases h
def sliceArrA (P:Program) (t:TypeId) (x:AVal) (low high:Option AVal):Option EffA:=
 match P.underlying t with
 | some (.array n e)=>match szA P e,x,boundsA low high n with
  | some sz,.ptr nm off,some (l,h)=>some (.read nm fun ob=>match ob with
   | .cells _ c=>cond (Nat.ble (off+n * sz) c.length && Nat.ble 1 c.length) (some (.slice nm (off+l * sz) (h - l) sz)) none
   | .mp _=>none)
  | _,_,_=>none
 | _=>none
theorem sliceArrA_ok {P:Program}{t:TypeId}{x:AVal}{low high:Option AVal}{e:EffA}(h:sliceArrA P t x low high=some e){σ:Sig}{x':Value}{low' high':Option Value}(hx:VR σ x x') (hl:OptVR σ low low') (hh:OptVR σ high high')
  {H H':List (Nat × AObj)} {w:World} {base:Nat} {v:AVal} (ha:e.app base H=some (v,H')) (hr:HRel σ (aget H) w) :
  H'=H∧∃ v',(Instr.sliceAt t x' low' high' none).run P w=.ok v' w∧VR σ v v':=by
 unfold sliceArrA at h
 split at h
 ·rename_i n el hu
  split at h
  ·rename_i sz nm off lo hi hz hb
   cases h
   simp only [EffA.app] at ha
   cases hbk:aget H nm with
   | none=>rw [hbk] at ha; cases ha
   | some ob =>
    rw [hbk] at ha
    cases ob with
    | mp _=>cases ha
    | cells ro c =>
     simp only at ha
     cases hbl:(Nat.ble (off+n * sz) c.length && Nat.ble 1 c.length) <;> rw [hbl] at ha <;> simp only [cond_true,cond_false,Option.some.injEq,Prod.mk.injEq] at ha
     ·cases ha
     ·obtain ⟨rfl,rfl⟩:=ha
      refine ⟨rfl,?_⟩
      simp only [Bool.and_eq_true] at hbl
      have hb1:=Nat.le_of_ble_eq_true hbl.1
      have hb2:=Nat.le_of_ble_eq_true hbl.2
      cases hx with
      | @ptr _ _ p hp =>
       obtain ⟨q,hq,c',t',fz,e1,e2,e3,e4⟩:=hr.obj nm _ hbk
       rw [hp] at hq; cases hq
       obtain ⟨u',g1,_⟩:=e3 (c.length - 1) c[c.length - 1] (List.getElem?_eq_getElem (by omega))
       have hlt:=(Array.getElem?_eq_some_iff.1 g1).1
       obtain ⟨hrb,h1,h2⟩:=run_boundsA (P:=P) (b:=false) (cap:=n) hb hl hh (Nat.le_refl _) w
       refine ⟨.slice (some (if n=lo then ⟨p.blk,p.sh+off,none⟩ else (⟨p.blk,p.sh+off,none⟩:Addr).add (lo * sz))) (hi - lo) (n - lo),?_,?_⟩
       ·unfold Instr.sliceAt
        simp only [Sem.run_bind,run_underlying hu,Result.andThen_ok,Instr.sureAddr,Sem.run_pure,hrb,run_szA hz]
       ·rw [add_mk]
        by_cases hcl:n=lo
        ·rw [if_pos hcl]
         have:hi - lo=0:=by omega
         rw [this]
         exact .slice hp (.inl rfl) (by omega) (by rw [hcl]; simp; omega)
        ·rw [if_neg hcl]
         have hm:lo * sz+(n - lo) * sz=n * sz:=by rw [← Nat.add_mul]; congr 1; omega
         exact .slice hp (.inr (by omega)) (by omega) (by omega)
  ·cases h
 ·cases h
end Go.Eng
namespace Go.Eng
open Go
theorem HRel.swap {σ:Sig}{H:Heap}{w w':World}(h:HRel σ H w){n base:Nat}{o o':AObj}{p q:Place}(hn:H n=some o) (hro:o.ro=false) (hp:σ n=some p) (hb:σ base=none) (hq:q.blk=p.blk)
  (ho:ORel (σ.set base q) w' q o') (hw:∀ b,b ≠ p.blk→w'.heap[b]? = w.heap[b]?) {H':Heap} (hH:∀ k,H' k=if base=k then some o' else if n=k then none else H k):HRel (σ.set base q) H' w':=by
 have hne:∀ k ob r,H k=some ob→σ k=some r→n ≠ k→r.blk ≠ p.blk:=fun k ob r h1 h2 h3 he=>by
  rcases h.inj n k o ob p r hn h1 hp h2 he.symm with e | ⟨e,_⟩
  ·exact h3 e
  ·rw [hro] at e; cases e
 have hold:∀ k ob,H k=some ob→base ≠ k:=fun k ob h1 e=>by
  obtain ⟨r,hr,_⟩:=h.obj k ob h1
  rw [← e,hb] at hr; cases hr
 have get:∀ k ob,H' k=some ob→(base=k∧ob=o') ∨ (base ≠ k∧n ≠ k∧H k=some ob):=fun k ob h1=>by
  rw [hH] at h1
  split at h1
  ·rename_i e; cases h1; exact .inl ⟨e,rfl⟩
  ·split at h1
   ·cases h1
   ·rename_i e1 e2; exact .inr ⟨e1,e2,h1⟩
 have sigo:∀ k,base ≠ k→(σ.set base q) k=σ k:=fun k hk=>Sig.set_other σ _ (Ne.symm hk)
 refine ⟨fun k ob hk => ?_,fun k1 k2 o1 o2 q1 q2 h1 h2 hq1 hq2 he => ?_⟩
 ·rcases get k ob hk with ⟨rfl,rfl⟩ | ⟨e1,e2,e3⟩
  ·exact ⟨q,Sig.set_same σ base q,ho⟩
  ·obtain ⟨r,hr,hor⟩:=h.obj k ob e3
   exact ⟨r,by rw [sigo k e1]; exact hr,hor.mono (Sig.le_set hb q) (hw _ (hne k ob r e3 hr e2))⟩
 ·rcases get k1 o1 h1 with ⟨a1,a2⟩ | ⟨a1,a2,a3⟩ <;> rcases get k2 o2 h2 with ⟨b1,b2⟩ | ⟨b1,b2,b3⟩
  ·exact .inl (a1.symm.trans b1)
  ·subst a1
   rw [Sig.set_same] at hq1; cases hq1
   rw [sigo k2 b1] at hq2
   exact absurd (he.symm.trans hq) (hne k2 o2 q2 b3 hq2 b2)
  ·subst b1
   rw [Sig.set_same] at hq2; cases hq2
   rw [sigo k1 a1] at hq1
   exact absurd (he.trans hq) (hne k1 o1 q1 a3 hq1 a2)
  ·rw [sigo k1 a1] at hq1
   rw [sigo k2 b1] at hq2
   exact h.inj k1 k2 o1 o2 q1 q2 a3 b3 hq1 hq2 he
theorem Frm.swap {σ:Sig}{H:Heap}{w w':World}{n base:Nat}{o o':AObj}{p q:Place}(hn:H n=some o) (hro:o.ro=false) (hp:σ n=some p) (hb:σ base=none) (hq:q.blk=p.blk)
  (hw:∀ b,b ≠ p.blk→w'.heap[b]? = w.heap[b]?) (hs:w'.heap.size=w.heap.size) (h2:HeapTo w w') (hold:∀ k ob,H k=some ob→∃ r,σ k=some r) {H':Heap} (hH:∀ k,H' k=if base=k then some o' else if n=k then none else H k):Frm σ H w (σ.set base q) H' w':=by
 have hown:Own σ H p.blk:=⟨n,o,p,hn,hro,hp,rfl⟩
 refine ⟨Sig.le_set hb q,by omega,h2.os,h2.output,h2.tape,fun b hb' hno=>⟨hw b fun e=>hno (e ▸ hown),?_⟩⟩
 rintro ⟨k,ob,r,g1,g2,g3,g4⟩
 rw [hH] at g1
 split at g1
 ·rename_i e
  subst e
  rw [Sig.set_same] at g3; cases g3
  exact hno (by rw [← g4,hq]; exact hown)
 ·split at g1
  ·cases g1
  ·rename_i e1 e2
   rw [Sig.set_other σ _ (Ne.symm e1)] at g3
   exact hno ⟨k,ob,r,g1,g2,g3,g4⟩
def srcA (H:Nat→Option AObj) (esz:Nat):AVal→Option (List AVal × Nat)
 | .nilSlice=>some ([],0)
 | .str l=>cond (Nat.beq esz 1) (some (l.map .u8,l.length)) none
 | .slice n off len sz=>cond (Nat.beq sz esz) (match H n with
  | some (.cells _ c)=>cond (Nat.ble (off+len * esz) c.length) (some ((c.drop off).take (len * esz),len)) none
  | _=>none) none
 | _=>none
theorem srcA_ok {P:Program}{H:Nat→Option AObj}{esz:Nat}{x:AVal}{news:List AVal}{m:Nat}(h:srcA H esz x=some (news,m)){σ:Sig}{x':Value}(hx:VR σ x x'){w:World}(hr:HRel σ H w) :
  news.length=m * esz∧(∀ w1,(Builtin.lenOf x').run P w1=.ok m w1)∧∀ w1,w1.heap=w.heap→∀ k,k≤m→∃ news',(Builtin.firstCells esz k x').run P w1=.ok news' w1∧LR σ (news.take (k * esz)) news':=by
 unfold srcA at h
 split at h
 ·cases h
  cases hx
  refine ⟨by simp,fun w1=>rfl,fun w1 hw k hk=>⟨#[],run_firstCells_none w1 esz k 0 0,by simp; exact LR.nil σ⟩⟩
 ·rename_i l
  cases hb:Nat.beq esz 1 <;> rw [hb] at h <;> simp only [cond_true,cond_false] at h
  ·cases h
  ·have he:=Nat.eq_of_beq_eq_true hb
   subst he
   cases h
   cases hx
   refine ⟨by simp,fun w1=>by simp [Builtin.lenOf,ByteArray.size],fun w1 hw k hk=>⟨((ByteArray.mk l.toArray).extract 0 k).data.map fun b=>.int .u8 b.toNat,rfl,?_⟩⟩
   have hd:((ByteArray.mk l.toArray).extract 0 k).data=(l.take k).toArray:=by simp [ByteArray.data_extract]
   rw [hd]
   refine ⟨by simp,fun i v v' g1 g2 => ?_⟩
   simp only [Nat.mul_one] at g1
   rw [← List.map_take,List.getElem?_map] at g1
   simp only [List.map_toArray,List.getElem?_toArray,List.getElem?_map] at g2
   cases hi:(l.take k)[i]? with
   | none=>rw [hi] at g1; cases g1
   | some b=>rw [hi] at g1 g2; cases g1; cases g2; exact .u8 b
 ·rename_i n off len sz
  cases hb:Nat.beq sz esz <;> rw [hb] at h <;> simp only [cond_true,cond_false] at h
  ·cases h
  ·have he:=Nat.eq_of_beq_eq_true hb
   subst he
   split at h
   ·rename_i ro c hc
    cases hl:Nat.ble (off+len * sz) c.length <;> rw [hl] at h <;> simp only [cond_true,cond_false] at h
    ·cases h
    ·have hl:=Nat.le_of_ble_eq_true hl
     cases h
     cases hx with
     | @slice _ _ _ _ p o cap hp ho hcap hs =>
      refine ⟨by rw [List.length_take,List.length_drop]; omega,fun w1=>rfl,fun w1 hw k hk => ?_⟩
      obtain ⟨q,hq,hor⟩:=hr.obj n _ hc
      rw [hp] at hq; cases hq
      have hor1:ORel σ w1 p (.cells ro c):=hor.mono (Sig.le_refl σ) (by rw [hw])
      have hkl:k * sz≤m * sz:=Nat.mul_le_mul_right _ hk
      have et:((c.drop off).take (m * sz)).take (k * sz)=(c.drop off).take (k * sz):=by rw [List.take_take]; congr 1; omega
      rw [et]
      rcases ho with h0 | ho
      ·subst h0
       have:k=0:=by omega
       subst this
       refine ⟨#[],by simp [Builtin.firstCells,loadCells,loadCellsFrom],by simp; exact LR.nil σ⟩
      ·subst ho
       obtain ⟨vs',g1,g2⟩:=loadRow (P:=P) hor1 (off:=off) (n:=k * sz) (by omega)
       exact ⟨vs',g1,g2⟩
   ·cases h
 ·cases h
def notIntD:TypeDesc→Bool
 | .slice _=>true
 | .string=>true
 | _=>false
def appendE (base:Nat) (H:Nat→Option AObj) (size bytes m:Nat) (news:List AVal):AVal→Option (AVal × List (Nat × Option AObj))
 | .nilSlice=>cond (Nat.beq m 0) (some (.nilSlice,[])) (cond (Nat.ble (m * bytes) 140737488355328 && Nat.ble m 140737488355328) (some (.slice base 0 m size,[(base,some (.cells false news))])) none)
 | .slice n off len sz=>cond (Nat.beq sz size && Nat.ble ((len+m) * bytes) 140737488355328 && Nat.ble (len+m) 140737488355328 && news.all oneA) (match H n with
  | some (.cells false c)=>cond (Nat.ble (off+len * sz) c.length) (some (.slice base 0 (len+m) sz,[(n,none),(base,some (.cells false ((c.drop off).take (len * sz)++news)))])) none
  | _=>none) none
 | _=>none
def appendA (P:Program) (ts:Array TypeId) (s x:AVal):Option EffA:=
 match ts[0]?,ts[1]? with
 | some t,some u=>match P.underlying t,P.underlying u with
  | some (.slice e),some d=>match P.info? e,zeroA P e with
   | some i,some z=>cond (notIntD d && Nat.ble 1 i.size && Nat.beq (cellsA z).length i.size) (some (.eff fun base H=>match srcA H i.size x with
     | some (news,m)=>appendE base H i.size i.bytes m news s
     | none=>none)) none
   | _,_=>none
  | _,_=>none
 | _,_=>none
theorem newPrefix_ok {σ:Sig}{H:List (Nat × AObj)}{w:World}{base:Nat}(hr:HRel σ (aget H) w) (hf:Free σ base){c:List AVal}{c':Array Value}(hc:∀ (i:Nat) v,c[i]? = some v→∃ v',c'[i]? = some v'∧VR σ v v') (t:TypeId) :
  HRel (σ.set base ⟨w.heap.size,0,c'.size,none⟩) (aget (aset H base (.cells false c))) (w.alloc (.cells c' t)) ∧
   Frm σ (aget H) w (σ.set base ⟨w.heap.size,0,c'.size,none⟩) (aget (aset H base (.cells false c))) (w.alloc (.cells c' t))∧Only σ (σ.set base ⟨w.heap.size,0,c'.size,none⟩) base:=by
 have hn:σ base=none:=hf 0 (by omega)
 refine ⟨?_,?_,fun n hn=>Sig.set_other σ _ (by omega)⟩
 ·rw [aget_aset_fun]
  refine hr.alloc' hn rfl ?_
  refine ⟨c',t,(0,0),by show (w.heap.push _)[w.heap.size]? = _; simp,rfl,fun i v hi => ?_,fun _=>.inr (by simp),fun T h=>by cases h⟩
  obtain ⟨v',h1,h2⟩:=hc i v hi
  exact ⟨v',by simpa using h1,h2.mono (Sig.le_set hn _)⟩
 ·rw [aget_aset_fun]
  exact Frm.alloc' hr hn rfl ⟨rfl,rfl,rfl⟩
theorem aget_adel_fun {α:Type}(l:List (Nat × α)) (n m:Nat) (v:α):∀ k,aget (aset (adel l n) m v) k=if m=k then some v else if n=k then none else aget l k:=fun k=>by
 rw [aget_aset,aget_adel]
set_option maxHeartbeats 2000000
theorem run_app_room {P:Program}{w:World}{ts:Array TypeId}{t u:TypeId}(ty:TypeId){e:TypeId}{d:TypeDesc}{i:TypeInfo}(h0:ts[0]? = some t) (h1:ts[1]? = some u) (ht:P.underlying t=some (.slice e)) (hu:P.underlying u=some d) (hd:notIntD d=true) (hi:P.info? e=some i)
  {a:Addr} {len cap m:Nat} {x':Value} {news':Array Value} (hL:(Builtin.lenOf x').run P w=.ok m w) (hF:(Builtin.firstCells i.size m x').run P w=.ok news' w) (hroom:len+m≤cap) {w':World} (hS:(storeCells (a.add (len * i.size)) news'.toList 0).run P w=.ok () w') :
  (Builtin.append_ ts ty #[.slice (some a) len cap,x']).run P w=.ok (.slice (some a) (len+m) cap) w':=by
 cases d <;> first
  | (cases hd; done)
  | simp [Builtin.append_,h0,h1,run_underlying ht,run_underlying hu,sizeOf,typeInfo,hi,hL,hroom,hF,hS]
theorem run_app_nil0 {P:Program}{w:World}{ts:Array TypeId}{t u:TypeId}(ty:TypeId){e:TypeId}{d:TypeDesc}{i:TypeInfo}(h0:ts[0]? = some t) (h1:ts[1]? = some u) (ht:P.underlying t=some (.slice e)) (hu:P.underlying u=some d) (hd:notIntD d=true) (hi:P.info? e=some i)
  {x':Value} {news':Array Value} (hL:(Builtin.lenOf x').run P w=.ok 0 w) (hF:(Builtin.firstCells i.size 0 x').run P w=.ok news' w) :
  (Builtin.append_ ts ty #[.slice none 0 0,x']).run P w=.ok (.slice none 0 0) w:=by
 cases d <;> first
  | (cases hd; done)
  | simp [Builtin.append_,h0,h1,run_underlying ht,run_underlying hu,sizeOf,typeInfo,hi,hL,hF]
theorem run_app_grow {P:Program}{w:World}{ts:Array TypeId}{t u:TypeId}(ty:TypeId){e:TypeId}{d:TypeDesc}{i:TypeInfo}{z:Value}(h0:ts[0]? = some t) (h1:ts[1]? = some u) (ht:P.underlying t=some (.slice e)) (hu:P.underlying u=some d) (hd:notIntD d=true) (hi:P.info? e=some i) (hz:i.zero=some z)
  {b:Option Addr} {len cap m:Nat} {x':Value} {old news':Array Value} (hL:(Builtin.lenOf x').run P w=.ok m w) (hO:(Builtin.firstCells i.size len (.slice b len cap)).run P w.drew=.ok old w.drew) (hF:(Builtin.firstCells i.size m x').run P w.drew=.ok news' w.drew) (hg:cap < len+m)
  (hb1:(len+m) * i.bytes≤140737488355328) (hb2:len+m≤140737488355328) :
  (Builtin.append_ ts ty #[.slice b len cap,x']).run P w=.ok (.slice (some ⟨w.heap.size,0,none⟩) (len+m) (grownCap w (len+m) cap e)) (w.drew.alloc (.cells (old++news' ++ Builtin.zeroCells z.cells (grownCap w (len+m) cap e - (len+m))) e)):=by
 have hn:¬ (len+m≤cap):=by omega
 have h63':¬ (9223372036854775807 < ((len:Int)+(m:Int))):=by omega
 have h48:=growslice_fits hg hb1
 have h48':¬ (281474976710656 < Builtin.nextslicecap (len+m) cap * i.bytes):=by omega
 cases d <;> first
  | (cases hd; done)
  | simp [Builtin.append_,h0,h1,run_underlying ht,run_underlying hu,sizeOf,typeInfo,zeroValue,hi,hz,hL,hn,h63',h48',Question.forced,hF,hO,newRow,grownCap]
theorem appendA_ok {P:Program}{ts:Array TypeId}{s x:AVal}{e:EffA}(h:appendA P ts s x=some e){σ:Sig}{s' x':Value}(hs:VR σ s s') (hx:VR σ x x') (ty:TypeId){H H':List (Nat × AObj)}{w:World}{base:Nat}{v:AVal}
  (hr:HRel σ (aget H) w) (ha:e.app base H=some (v,H')) (hf:Free σ base) :
  ∃ σ' v' w',(Builtin.append_ ts ty #[s',x']).run P w=.ok v' w'∧VR σ' v v'∧HRel σ' (aget H') w'∧Frm σ (aget H) w σ' (aget H') w'∧Only σ σ' base:=by
 unfold appendA at h
 split at h
 ·rename_i t u h0 h1
  split at h
  ·rename_i el d ht hu
   split at h
   ·rename_i i z hi hzero
    cases hb:(notIntD d && Nat.ble 1 i.size && Nat.beq (cellsA z).length i.size) <;> rw [hb] at h <;> simp only [cond_true,cond_false] at h
    ·cases h
    ·simp only [Bool.and_eq_true] at hb
     obtain ⟨⟨hd,hsz⟩,hzl⟩:=hb
     have hsz:=Nat.le_of_ble_eq_true hsz
     have hzl:=Nat.eq_of_beq_eq_true hzl
     cases h
     obtain ⟨z',hz1,hz2⟩:∃ z',i.zero=some z'∧VR σ z z':=by
      unfold zeroA at hzero
      rw [hi] at hzero
      simp only at hzero
      split at hzero
      ·rename_i z0 hz0
       exact ⟨z0,hz0,cval_ok hzero σ⟩
      ·cases hzero
     have hzc:z'.cells.size=i.size:=by rw [← (cellsA_ok hz2).1]; exact hzl
     simp only [EffA.app] at ha
     cases hsrc:srcA (aget H) i.size x with
     | none=>rw [hsrc] at ha; cases ha
     | some p =>
      obtain ⟨news,m⟩:=p
      rw [hsrc] at ha
      simp only at ha
      obtain ⟨hnl,hL,hFC⟩:=srcA_ok (P:=P) hsrc hx hr
      have takem:news.take (m * i.size)=news:=List.take_of_length_le (by omega)
      -- the new row,where it grew
      have grown:∀ (old:List AVal) (old' news':Array Value) (len cap:Nat) (ss:Value),LR σ old old'→LR σ news news'→old.length=len * i.size→cap < len+m →
        (Builtin.append_ ts ty #[ss,x']).run P w=.ok (.slice (some ⟨w.heap.size,0,none⟩) (len+m) (grownCap w (len+m) cap el)) (w.drew.alloc (.cells (old' ++ news' ++ Builtin.zeroCells z'.cells (grownCap w (len+m) cap el - (len+m))) el)) →
        ∃ σ' v' w',(Builtin.append_ ts ty #[ss,x']).run P w=.ok v' w'∧VR σ' (.slice base 0 (len+m) i.size) v'∧HRel σ' (aget (aset H base (.cells false (old++news)))) w'∧Frm σ (aget H) w σ' (aget (aset H base (.cells false (old++news)))) w'∧Only σ σ' base:=by
       intro old old' news' len cap ss ho hn hol hg hrun
       have hge:=grownCap_ge w (len+m) cap el
       have hsize:(old' ++ news' ++ Builtin.zeroCells z'.cells (grownCap w (len+m) cap el - (len+m))).size=grownCap w (len+m) cap el * i.size:=by
        simp only [Array.size_append,size_zeroCells,hzc,← ho.1,← hn.1,hol,hnl,← Nat.add_mul]
        congr 1
        omega
       have hpre:∀ (j:Nat) v,(old++news)[j]? = some v→∃ v',(old' ++ news' ++ Builtin.zeroCells z'.cells (grownCap w (len+m) cap el - (len+m)))[j]? = some v'∧VR σ v v':=fun j v hj=>by
        rw [List.getElem?_append] at hj
        split at hj
        ·rename_i hlt
         obtain ⟨v',g1,g2⟩:=ho.get hj
         refine ⟨v',?_,g2⟩
         rw [Array.append_assoc,Array.getElem?_append_left (by rw [← ho.1]; exact hlt)]
         exact g1
        ·rename_i hlt
         obtain ⟨v',g1,g2⟩:=hn.get hj
         have hlt2:=(Array.getElem?_eq_some_iff.1 g1).1
         refine ⟨v',?_,g2⟩
         rw [Array.append_assoc,Array.getElem?_append_right (by rw [← ho.1]; omega),Array.getElem?_append_left (by rw [← ho.1]; omega),← ho.1]
         exact g1
       have hr1:HRel σ (aget H) w.drew:=hr.drew rfl
       obtain ⟨g1,g2,g3⟩:=newPrefix_ok (c:=old++news) (c':=old' ++ news' ++ Builtin.zeroCells z'.cells (grownCap w (len+m) cap el - (len+m))) hr1 hf hpre el
       refine ⟨_,_,_,hrun,?_,g1,⟨g2.ext,g2.size,g2.os,g2.output,g2.tape,g2.old⟩,g3⟩
       refine .slice (p:=⟨w.heap.size,0,_,none⟩) (Sig.set_same σ base _) (.inr rfl) hge ?_
       show 0+_≤(_:Nat)
       simp only [hsize]
       exact Nat.le_of_eq (Nat.zero_add _)
      cases hE:appendE base (aget H) i.size i.bytes m news s with
      | none=>rw [hE] at ha; cases ha
      | some pr =>
      obtain ⟨v0,us⟩:=pr
      rw [hE] at ha
      simp only [Option.some.injEq,Prod.mk.injEq] at ha
      obtain ⟨rfl,rfl⟩:=ha
      unfold appendE at hE
      split at hE
      ·-- onto nil
       cases hs
       cases hm:Nat.beq m 0 <;> rw [hm] at hE <;> simp only [cond_true,cond_false] at hE
       ·cases hfit:(Nat.ble (m * i.bytes) 140737488355328 && Nat.ble m 140737488355328) <;> rw [hfit] at hE <;> simp only [cond_true,cond_false] at hE
        ·cases hE
        ·simp only [Bool.and_eq_true] at hfit
         have hf1:=Nat.le_of_ble_eq_true hfit.1
         have hf2:=Nat.le_of_ble_eq_true hfit.2
         have hm0:m ≠ 0:=fun e=>by subst e; cases hm
         cases hE
         obtain ⟨news',g1,g2⟩:=hFC w.drew rfl m (Nat.le_refl m)
         rw [takem] at g2
         have:=grown [] #[] news' 0 0 (.slice none 0 0) (LR.nil σ) g2 (by simp) (by omega) (by
          exact run_app_grow ty h0 h1 ht hu hd hi hz1 (hL w) (run_firstCells_none w.drew i.size 0 0 0) g1 (by omega) (by rw [Nat.zero_add]; exact hf1) (by omega))
         simpa only [Nat.zero_add,List.nil_append,appU] using this
       ·have hm:=Nat.eq_of_beq_eq_true hm
        subst hm
        cases hE
        obtain ⟨news',g1,g2⟩:=hFC w rfl 0 (Nat.le_refl 0)
        exact ⟨σ,_,w,run_app_nil0 ty h0 h1 ht hu hd hi (hL w) g1,.nilSlice,hr,Frm.refl _ _ _,Only.refl _ _⟩
      ·-- onto a slice
       rename_i n off len sz
       cases hc:(Nat.beq sz i.size && Nat.ble ((len+m) * i.bytes) 140737488355328 && Nat.ble (len+m) 140737488355328 && news.all oneA) <;> rw [hc] at hE <;> simp only [cond_true,cond_false] at hE
       ·cases hE
       ·simp only [Bool.and_eq_true] at hc
        obtain ⟨⟨⟨hc1,hc2⟩,hc3⟩,hc4⟩:=hc
        have hc1:=Nat.eq_of_beq_eq_true hc1
        have hc2:=Nat.le_of_ble_eq_true hc2
        have hc3:=Nat.le_of_ble_eq_true hc3
        subst hc1
        split at hE
        ·rename_i c hn
         cases hfit:Nat.ble (off+len * i.size) c.length <;> rw [hfit] at hE <;> simp only [cond_true,cond_false] at hE
         ·cases hE
         ·have hfit:=Nat.le_of_ble_eq_true hfit
          cases hE
          cases hs with
          | @slice _ _ _ _ p o cap hp ho hcap hsz2 =>
           obtain ⟨q,hq,hor⟩:=hr.obj n _ hn
           rw [hp] at hq; cases hq
           have hbn:σ base=none:=hf 0 (by omega)
           have hne:base ≠ n:=fun e=>by rw [e,hp] at hbn; cases hbn
           have hol:((c.drop off).take (len * i.size)).length=len * i.size:=by rw [List.length_take,List.length_drop]; omega
           have hload:∀ w1:World,w1.heap=w.heap→∃ old',(loadCells ⟨p.blk,o,none⟩ (len * i.size)).run P w1=.ok old' w1∧LR σ ((c.drop off).take (len * i.size)) old':=fun w1 hw1=>by
            rcases ho with h00 | h00
            ·subst h00
             exact ⟨#[],by simp [loadCells,loadCellsFrom],by simp; exact LR.nil σ⟩
            ·subst h00
             exact loadRow (P:=P) (hor.mono (Sig.le_refl σ) (by rw [hw1])) (by omega)
           by_cases hroom:len+m≤cap
           ·-- there is room
            obtain ⟨news',g1,g2⟩:=hFC w rfl m (Nat.le_refl m)
            rw [takem] at g2
            obtain ⟨c',t',fz,e1,e2,e3,e4⟩:=hor
            have hnl':news'.toList.length=news.length:=by simp [g2.1]
            have hmul:(len+m) * i.size≤cap * i.size:=Nat.mul_le_mul_right _ hroom
            rw [Nat.add_mul] at hmul
            obtain ⟨w',a1,a2,a3,a4,a5⟩:=storeRow (P:=P) p.blk (o+len * i.size) t' fz news'.toList 0 c' w e1 (fun v hv'=>by
             obtain ⟨j,hj,rfl⟩:=List.mem_iff_getElem.1 hv'
             have hj':j < news.length:=by omega
             have k2:news[j]? = some news[j]:=List.getElem?_eq_getElem hj'
             have k3:news'[j]? = some news'.toList[j]:=by simp at hj; simp [hj]
             exact oneA_ok (g2.2 j _ _ k2 k3) (List.all_eq_true.1 hc4 _ (List.getElem_mem hj'))) (by omega) (by rw [e2]; exact e4.1 rfl)
            have hput:ORel (σ.set base ⟨p.blk,o,p.sz,none⟩) w' ⟨p.blk,o,p.sz,none⟩ (.cells false ((c.drop off).take (len * i.size)++news)):=by
             obtain ⟨k1,k2⟩:=foldset (o+len * i.size) news'.toList 0 c'
             refine ⟨_,t',fz,a2,by rw [k2]; exact e2,fun j v hj => ?_,e4.1,fun T h=>by cases h⟩
             rw [k1]
             rw [List.getElem?_append] at hj
             split at hj
             ·rename_i hlt
              rw [hol] at hlt
              rw [if_neg (by show ¬ (o+len * i.size+0≤o+j∧_); omega)]
              rcases ho with h00 | h00
              ·subst h00; omega
              ·subst h00
               rw [List.getElem?_take,if_pos hlt,List.getElem?_drop] at hj
               obtain ⟨v',b1,b2⟩:=e3 (off+j) v hj
               refine ⟨v',?_,b2.mono (Sig.le_set hbn _)⟩
               rw [← b1]; congr 1; show p.sh+off+j=_; omega
             ·rename_i hlt
              rw [hol] at hlt hj
              have hj2:=(List.getElem?_eq_some_iff.1 hj).1
              rw [if_pos (by refine ⟨?_,?_,?_⟩ <;> simp only [] <;> omega)]
              obtain ⟨v',b1,b2⟩:=g2.get hj
              refine ⟨v',?_,b2.mono (Sig.le_set hbn _)⟩
              have e:o+j - (o+len * i.size+0)=j - len * i.size:=by omega
              show news'.toList[o+j - (o+len * i.size+0)]? = _
              rw [e]; simpa using b1
            have hH:∀ k,aget (appU H [(n,none),(base,some (.cells false ((c.drop off).take (len * i.size)++news)))]) k=if base=k then some (.cells false ((c.drop off).take (len * i.size)++news)) else if n=k then none else aget H k:=fun k=>by
             simp only [appU]
             exact aget_adel_fun H n base _ k
            refine ⟨σ.set base ⟨p.blk,o,p.sz,none⟩,.slice (some ⟨p.blk,o,none⟩) (len+m) cap,w',?_,?_,?_,?_,fun k hk=>Sig.set_other σ _ (by omega)⟩
            ·exact run_app_room ty h0 h1 ht hu hd hi (hL w) g1 hroom (by rw [add_mk]; exact a1)
            ·exact .slice (p:=⟨p.blk,o,p.sz,none⟩) (Sig.set_same σ base _) (.inr rfl) hroom hsz2
            ·exact hr.swap (o:=.cells false c) (q:=⟨p.blk,o,p.sz,none⟩) hn rfl hp hbn rfl hput a3 hH
            ·exact Frm.swap (o:=.cells false c) (q:=⟨p.blk,o,p.sz,none⟩) hn rfl hp hbn rfl a3 a4 a5 (fun k ob hk=>(hr.obj k ob hk).imp fun _ h=>h.1) hH
           ·-- it grows
            obtain ⟨news',g1,g2⟩:=hFC w.drew rfl m (Nat.le_refl m)
            rw [takem] at g2
            obtain ⟨old',l1,l2⟩:=hload w.drew rfl
            obtain ⟨σ',v',w',r1,r2,r3,r4,r5⟩:=grown ((c.drop off).take (len * i.size)) old' news' len cap (.slice (some ⟨p.blk,o,none⟩) len cap) l2 g2 hol (by omega) (by
             exact run_app_grow ty h0 h1 ht hu hd hi hz1 (hL w) (by simp only [Builtin.firstCells]; exact l1) g1 (by omega) hc2 hc3)
            have hsub:∀ k ob,aget (appU H [(n,none),(base,some (.cells false ((c.drop off).take (len * i.size)++news)))]) k=some ob→aget (aset H base (.cells false ((c.drop off).take (len * i.size)++news))) k=some ob:=fun k ob hk=>by
             simp only [appU] at hk
             rw [aget_adel_fun] at hk
             rw [aget_aset]
             by_cases e1:base=k
             ·rw [if_pos e1] at hk ⊢; exact hk
             ·rw [if_neg e1] at hk ⊢
              by_cases e2:n=k
              ·rw [if_pos e2] at hk; cases hk
              ·rw [if_neg e2] at hk; exact hk
            refine ⟨σ',v',w',r1,r2,⟨fun k ob hk=>r3.obj k ob (hsub k ob hk),fun k1 k2 o1 o2 q1 q2 h1 h2=>r3.inj k1 k2 o1 o2 q1 q2 (hsub _ _ h1) (hsub _ _ h2)⟩,⟨r4.ext,r4.size,r4.os,r4.output,r4.tape,fun b hb hno => ?_⟩,r5⟩
            obtain ⟨y1,y2⟩:=r4.old b hb hno
            exact ⟨y1,fun ⟨k,ob,r,z1,z2⟩=>y2 ⟨k,ob,r,hsub _ _ z1,z2⟩⟩
        ·cases hE
      ·cases hE
   ·cases h
  ·cases h
 ·cases h
def copyE (H:Nat→Option AObj) (size m:Nat) (news:List AVal):AVal→Option (AVal × List (Nat × Option AObj))
 | .nilSlice=>some (.int .i64 0,[])
 | .slice n off len sz=>cond (Nat.beq (Nat.min m len) 0) (some (.int .i64 0,[])) (cond (Nat.beq sz size && (news.take (Nat.min m len * sz)).all oneA) (match H n with
  | some (.cells false c)=>cond (Nat.ble (off+Nat.min m len * sz) c.length) (some (.int .i64 (Nat.min m len),[(n,some (.cells false (putA c off (news.take (Nat.min m len * sz)))))])) none
  | _=>none) none)
 | _=>none
def copyA (P:Program) (ts:Array TypeId) (s x:AVal):Option EffA:=
 match ts[0]? with
 | some t=>match P.underlying t with
  | some (.slice e)=>match szA P e with
   | some size=>some (.eff fun _ H=>match srcA H size x with
     | some (news,m)=>copyE H size m news s
     | none=>none)
   | none=>none
  | _=>none
 | none=>none
theorem copyA_ok {P:Program}{ts:Array TypeId}{s x:AVal}{e:EffA}(h:copyA P ts s x=some e){σ:Sig}{s' x':Value}(hs:VR σ s s') (hx:VR σ x x') (ty:TypeId){H H':List (Nat × AObj)}{w:World}{base:Nat}{v:AVal}
  (hr:HRel σ (aget H) w) (ha:e.app base H=some (v,H')) :
  ∃ v' w',(Builtin.copy_ ts ty #[s',x']).run P w=.ok v' w'∧VR σ v v'∧HRel σ (aget H') w'∧Frm σ (aget H) w σ (aget H') w':=by
 unfold copyA at h
 split at h
 ·rename_i t h0
  split at h
  ·rename_i el ht
   split at h
   ·rename_i size hz
    cases h
    simp only [EffA.app] at ha
    cases hsrc:srcA (aget H) size x with
    | none=>rw [hsrc] at ha; cases ha
    | some p =>
     obtain ⟨news,m⟩:=p
     rw [hsrc] at ha
     simp only at ha
     obtain ⟨hnl,hL,hFC⟩:=srcA_ok (P:=P) hsrc hx hr
     cases hE:copyE (aget H) size m news s with
     | none=>rw [hE] at ha; cases ha
     | some pr =>
     obtain ⟨v0,us⟩:=pr
     rw [hE] at ha
     simp only [Option.some.injEq,Prod.mk.injEq] at ha
     obtain ⟨rfl,rfl⟩:=ha
     unfold copyE at hE
     split at hE
     ·cases hE
      cases hs
      obtain ⟨news',g1,g2⟩:=hFC w rfl 0 (Nat.zero_le m)
      refine ⟨_,w,?_,.int .i64 0,hr,Frm.refl _ _ _⟩
      simp [Builtin.copy_,h0,run_underlying ht,hL,run_szA hz,g1,goInt]
     ·rename_i n off len sz
      cases hs with
      | @slice _ _ _ _ p o cap hp ho hcap hs2 =>
       obtain ⟨news',g1,g2⟩:=hFC w rfl (Nat.min m len) (Nat.min_le_left m len)
       cases hk:Nat.beq (Nat.min m len) 0 <;> rw [hk] at hE <;> simp only [cond_true,cond_false] at hE
       ·have hk0:Nat.min m len ≠ 0:=fun e=>by rw [e] at hk; cases hk
        have hlen0:len ≠ 0:=fun e=>hk0 (by rw [e]; exact Nat.min_zero m)
        have ho':o=p.sh+off:=ho.resolve_left hlen0
        subst ho'
        cases hc:(Nat.beq sz size && (news.take (Nat.min m len * sz)).all oneA) <;> rw [hc] at hE <;> simp only [cond_true,cond_false] at hE
        ·cases hE
        ·simp only [Bool.and_eq_true] at hc
         have hc1:=Nat.eq_of_beq_eq_true hc.1
         subst hc1
         split at hE
         ·rename_i c hn
          cases hfit:Nat.ble (off+Nat.min m len * sz) c.length <;> rw [hfit] at hE <;> simp only [cond_true,cond_false] at hE
          ·cases hE
          ·have hfit:=Nat.le_of_ble_eq_true hfit
           cases hE
           obtain ⟨w',a1,a2,a3⟩:=writeRow (P:=P) (off:=off) hr hn hp g2 hc.2 (Nat.le_trans (Nat.add_le_add_left (List.length_take_le _ _) off) hfit)
           refine ⟨_,w',?_,.int .i64 _,a2,a3⟩
           simp [Builtin.copy_,h0,run_underlying ht,hL,run_szA hz,g1,a1,goInt]
         ·cases hE
       ·have hk:=Nat.eq_of_beq_eq_true hk
        cases hE
        rw [hk] at g1 g2
        have hn0:news' = #[]:=by
         have:=g2.1
         simp at this
         exact Array.eq_empty_of_size_eq_zero this.symm
        subst hn0
        refine ⟨_,w,?_,.int .i64 0,hr,Frm.refl _ _ _⟩
        simp [Builtin.copy_,h0,run_underlying ht,hL,run_szA hz,hk,g1,goInt,storeCells]
     ·cases hE
   ·cases h
  ·cases h
 ·cases h
def clearE (H:Nat→Option AObj) (zc:List AVal):AVal→Option (AVal × List (Nat × Option AObj))
 | .nilSlice=>some (.tup [],[])
 | .slice n off len _=>cond (Nat.beq len 0) (some (.tup [],[])) (cond (Nat.ble 1 zc.length && (zrow zc (len * zc.length)).all oneA) (match H n with
  | some (.cells false c)=>cond (Nat.ble (off+len * zc.length) c.length) (some (.tup [],[(n,some (.cells false (putA c off (zrow zc (len * zc.length)))))])) none
  | _=>none) none)
 | _=>none
def clearA (P:Program) (ts:Array TypeId) (s:AVal):Option EffA:=
 match ts[0]? with
 | some t=>match P.underlying t with
  | some (.slice e)=>match zeroA P e with
   | some z=>some (.eff fun _ H=>clearE H (cellsA z) s)
   | none=>none
  | _=>none
 | none=>none
theorem clearA_ok {P:Program}{ts:Array TypeId}{s:AVal}{e:EffA}(h:clearA P ts s=some e){σ:Sig}{s':Value}(hs:VR σ s s') (ty:TypeId){H H':List (Nat × AObj)}{w:World}{base:Nat}{v:AVal}
  (hr:HRel σ (aget H) w) (ha:e.app base H=some (v,H')) :
  ∃ v' w',(Builtin.clear_ ts ty #[s']).run P w=.ok v' w'∧VR σ v v'∧HRel σ (aget H') w'∧Frm σ (aget H) w σ (aget H') w':=by
 unfold clearA at h
 have hv0:VR σ (.tup []) (.tuple #[]):=.tup rfl (fun i v v' h1 _=>by simp at h1)
 split at h
 ·rename_i t h0
  split at h
  ·rename_i el ht
   split at h
   ·rename_i z hz
    cases h
    simp only [EffA.app] at ha
    cases hE:clearE (aget H) (cellsA z) s with
    | none=>rw [hE] at ha; cases ha
    | some pr =>
    obtain ⟨v0,us⟩:=pr
    rw [hE] at ha
    simp only [Option.some.injEq,Prod.mk.injEq] at ha
    obtain ⟨rfl,rfl⟩:=ha
    unfold clearE at hE
    split at hE
    ·cases hE
     cases hs
     refine ⟨_,w,?_,hv0,hr,Frm.refl _ _ _⟩
     simp [Builtin.clear_,h0,run_underlying ht]
    ·rename_i n off len sz
     cases hs with
     | @slice _ _ _ _ p o cap hp ho hcap hs2 =>
      cases hk:Nat.beq len 0 <;> rw [hk] at hE <;> simp only [cond_true,cond_false] at hE
      ·have hlen0:len ≠ 0:=fun e=>by rw [e] at hk; cases hk
       have ho':o=p.sh+off:=ho.resolve_left hlen0
       subst ho'
       cases hc:(Nat.ble 1 (cellsA z).length && (zrow (cellsA z) (len * (cellsA z).length)).all oneA) <;> rw [hc] at hE <;> simp only [cond_true,cond_false] at hE
       ·cases hE
       ·rw [Bool.and_eq_true] at hc
        split at hE
        ·rename_i c hn
         cases hfit:Nat.ble (off+len * (cellsA z).length) c.length <;> rw [hfit] at hE <;> simp only [cond_true,cond_false] at hE
         ·cases hE
         ·have hfit:=Nat.le_of_ble_eq_true hfit
          cases hE
          obtain ⟨z',hz1,hz2⟩:=zeroA_ok hz σ w
          have hcz:=cellsA_ok hz2
          have hzr:=zrow_ok hcz (n:=len * (cellsA z).length) (.inr (Nat.le_of_ble_eq_true hc.1))
          obtain ⟨w',a1,a2,a3⟩:=writeRow (P:=P) (off:=off) hr hn hp hzr hc.2 (by rw [zrow_length]; exact hfit)
          refine ⟨_,w',?_,hv0,a2,a3⟩
          obtain ⟨k,rfl⟩:∃ k,len=k+1:=⟨len - 1,by omega⟩
          have hsz:z'.cells.size=(cellsA z).length:=hcz.1.symm
          rw [← hsz] at a1
          simp [Builtin.clear_,h0,run_underlying ht,hz1,Builtin.zeroCells]
          simp at a1
          simp [a1]
        ·cases hE
      ·have hk:=Nat.eq_of_beq_eq_true hk
       cases hE
       subst hk
       refine ⟨_,w,?_,hv0,hr,Frm.refl _ _ _⟩
       simp [Builtin.clear_,h0,run_underlying ht]
    ·cases hE
   ·cases h
  ·cases h
 ·cases h
end Go.Eng
namespace Go.Eng
open Go
def keyFs (P:Program) (rec:TypeId→AVal→Bool):List Field→List AVal→Bool
 | [],_=>true
 | f :: fs, xs => match decide (f.name = "_") with
  | true=>keyFs P rec fs xs
  | false=>match partA P f.type xs f.offset with
   | some a=>cond (rec f.type a) (keyFs P rec fs xs) false
   | none=>false
def keyIn (P:Program):Nat→TypeId→AVal→Bool
 | 0,_,_=>false
 | d+1,t,x=>match P.underlying t with
  | some .bool=>true
  | some (.int _)=>true
  | some .string=>true
  | some (.struct fs)=>match x with
   | .agg xs=>keyFs P (keyIn P d) fs.toList xs
   | _=>false
  | _=>false
theorem keyIn_ok (P:Program) (em:Bool):∀ (d:Nat) (t:TypeId) (x:AVal),keyIn P d t x=true→∀ (σ:Sig) (x':Value),VR σ x x'→∀ w,(Instr.checkKey em d t x').run P w=.ok () w
 | 0,t,x,h,_,_,_,_=>by cases h
 | d+1,t,x,h,σ,x',hx,w=>by
  have ih:=keyIn_ok P em d
  unfold keyIn at h
  split at h
  ·rename_i hu
   rw [Instr.checkKey]
   simp only [Sem.run_bind,run_underlying hu,Result.andThen_ok]
   cases x' <;> rfl
  ·rename_i hu
   rw [Instr.checkKey]
   simp only [Sem.run_bind,run_underlying hu,Result.andThen_ok]
   cases x' <;> rfl
  ·rename_i hu
   rw [Instr.checkKey]
   simp only [Sem.run_bind,run_underlying hu,Result.andThen_ok]
   cases x' <;> rfl
  ·rename_i fs hu
   split at h
   ·rename_i xs
    obtain ⟨xs',rfl,hl⟩:=hx.agg_inv
    rw [Instr.checkKey]
    simp only [Sem.run_bind,run_underlying hu,Result.andThen_ok]
    rw [← Array.forIn_toList]
    generalize fs.toList=L at h
    induction L with
    | nil=>simp
    | cons f L ihL =>
     simp only [keyFs] at h
     by_cases hn : f.name = "_"
     ·simp only [hn,decide_true] at h
      simp only [List.forIn_cons,Sem.run_bind,hn,ne_eq,not_true,if_false,Result.andThen_ok,Sem.run_pure]
      exact ihL h
     ·simp only [hn,decide_false] at h
      cases hp:partA P f.type xs f.offset with
      | none=>rw [hp] at h; cases h
      | some a =>
       rw [hp] at h
       simp only at h
       cases hr:keyIn P d f.type a with
       | false=>rw [hr] at h; cases h
       | true =>
        rw [hr] at h
        simp only [cond_true] at h
        obtain ⟨a',p1,p2⟩:=partA_ok hp hl w
        have p3:=ih f.type a hr σ a' p2 w
        simp only [List.forIn_cons,Sem.run_bind,hn,ne_eq,not_false_eq_true,if_true,Result.andThen_ok,p1,p3,Sem.run_pure]
        exact ihL h
   ·cases h
  ·cases h
def eqK (P:Program) (t:TypeId) (x y:AVal):Option Bool:=eqIn P Op.maxDepth t x y
theorem eqK_ok {P:Program}{t:TypeId}{x y:AVal}{r:Bool}(h:eqK P t x y=some r){σ:Sig}{x' y':Value}(hx:VR σ x x') (hy:VR σ y y') (w:World):(Op.equal t x' y').run P w=.ok r w:=
 eqIn_ok P _ t x y r h σ x' y' hx hy w
theorem sameNow_in {P:Program}{t:TypeId}{d:TypeDesc}(hu:P.underlying t=some d){x y:Value}{b:Bool}(h:Instr.sameNow d x y=some b) (w:World) (n:Nat):(Op.equalIn (n+1) t x y).run P w=.ok b w:=by
 unfold Instr.sameNow at h
 split at h
 ·rename_i k a k' b'
  split at h
  ·rename_i hk
   cases h
   subst hk
   simp only [Op.equalIn,Sem.run_bind,run_underlying hu,Result.andThen_ok,if_true]
   rfl
  ·cases h
 ·cases h
  simp only [Op.equalIn,Sem.run_bind,run_underlying hu,Result.andThen_ok]
  rfl
 ·cases h
  simp only [Op.equalIn,Sem.run_bind,run_underlying hu,Result.andThen_ok]
  rfl
 ·cases h
theorem sameNow_eq {P:Program}{t:TypeId}{d:TypeDesc}(hu:P.underlying t=some d){x y:Value}{b:Bool}(h:Instr.sameNow d x y=some b) (w:World):(Op.equal t x y).run P w=.ok b w:=
 sameNow_in hu h w 9999
def findM (P:Program) (kt:TypeId) (k:AVal):List AVal→Nat→Option (Option (Nat × AVal))
 | a::v::l,i=>match eqK P kt k a,findM P kt k l (i+1) with
  | some true,some none=>some (some (i,v))
  | some false,some r=>some r
  | _,_=>none
 | _,_=>some none
theorem LR.flat_cons {σ:Sig}{a v:AVal}{l:List AVal}{es:List MapEntry}(h:LR σ (a::v::l) (flatE es)):∃ e es1,es=e::es1∧VR σ a e.key∧VR σ v e.val∧LR σ l (flatE es1):=by
 cases es with
 | nil=>have:=h.1; simp [flatE] at this
 | cons e es1 =>
  refine ⟨e,es1,rfl,h.2 0 a e.key rfl (by simp [flatE]),h.2 1 v e.val rfl (by simp [flatE]),by have:=h.1; simp [flatE] at this ⊢; omega,fun i u u' h1 h2=>h.2 (i+2) u u' (by simpa using h1) ?_⟩
  simpa [flatE] using h2
theorem LR.flat_short {σ:Sig}{l:List AVal}{es:List MapEntry}(h:LR σ l (flatE es)) (hl:∀ a v r,l ≠ a::v::r):es=[]:=by
 cases es with
 | nil=>rfl
 | cons e es1 =>
  have:=h.1
  match l,hl with
  | [],_=>simp [flatE] at this
  | [a],_=>simp [flatE] at this
  | a::v::r,hl=>exact absurd rfl (hl a v r)
def EqF (P:Program) (kt:TypeId) (k':Value) (w:World) (b:Bool) (e:MapEntry):Prop:=(Op.equal kt k' e.key).run P w=.ok b w
theorem findM_all {P:Program}{kt:TypeId}{k:AVal}{σ:Sig}{k':Value}(hk:VR σ k k') (w:World):∀ (l:List AVal) (es:List MapEntry) (i:Nat) (r:Option (Nat × AVal)),LR σ l (flatE es)→findM P kt k l i=some r →
  (r=none∧∀ e ∈ es,EqF P kt k' w false e) ∨
  ∃ j v e,r=some (i+j,v)∧es[j]? = some e∧EqF P kt k' w true e∧(∀ x ∈ es.eraseIdx j,EqF P kt k' w false x)∧VR σ v e.val∧l[2 * j+1]? = some v∧∃ a,l[2 * j]? = some a∧VR σ a e.key
 | a::v::l,es,i,r,hl,h=>by
  obtain ⟨e,es1,rfl,h1,h2,h3⟩:=hl.flat_cons
  simp only [findM] at h
  cases hq:eqK P kt k a with
  | none=>rw [hq] at h; simp at h
  | some b =>
   rw [hq] at h
   have hrun:=eqK_ok hq hk h1 w
   cases hf:findM P kt k l (i+1) with
   | none=>rw [hf] at h; cases b <;> simp at h
   | some r1 =>
    rw [hf] at h
    have ih:=findM_all hk w l es1 (i+1) r1 h3 hf
    cases b with
    | true =>
     cases r1 with
     | some y=>simp at h
     | none =>
      simp only [Option.some.injEq] at h
      subst h
      rcases ih with ⟨_,g⟩ | ⟨j,u,e',e1,_⟩
      ·exact .inr ⟨0,v,e,rfl,rfl,hrun,by simpa using g,h2,rfl,a,rfl,h1⟩
      ·cases e1
    | false =>
     simp only [Option.some.injEq] at h
     subst h
     rcases ih with ⟨rfl,g⟩ | ⟨j,u,e',rfl,g,g1,g2,g3,g4,c,g5,g6⟩
     ·exact .inl ⟨rfl,fun x hx=>by
       rcases List.mem_cons.1 hx with rfl | hx
       ·exact hrun
       ·exact g x hx⟩
     ·refine .inr ⟨j+1,u,e',by rw [Nat.add_assoc,Nat.add_comm 1 j],by simpa using g,g1,fun x hx => ?_,g3,?_,c,?_,g6⟩
      ·rw [List.eraseIdx_cons_succ] at hx
       rcases List.mem_cons.1 hx with rfl | hx
       ·exact hrun
       ·exact g2 x hx
      ·rw [show 2 * (j+1)+1=(2 * j+1)+2 by omega]; simpa using g4
      ·rw [show 2 * (j+1)=2 * j+2 by omega]; simpa using g5
 | [],es,i,r,hl,h=>by
  have:=hl.flat_short (fun a v r h=>by cases h)
  subst this
  simp only [findM,Option.some.injEq] at h
  subst h
  exact .inl ⟨rfl,fun x hx=>by cases hx⟩
 | [a],es,i,r,hl,h=>by
  have:=hl.flat_short (fun a v r h=>by cases h)
  subst this
  simp only [findM,Option.some.injEq] at h
  subst h
  exact .inl ⟨rfl,fun x hx=>by cases hx⟩
theorem ask_none {P:Program}{kt:TypeId}{k':Value}{w:World}:∀ (es:List MapEntry) (i:Nat),(∀ e ∈ es,EqF P kt k' w false e)→(Instr.findAsking kt k' es i).run P w=.ok none w
 | [],i,_=>by simp [Instr.findAsking]
 | e::es,i,h=>by
  have h1:(Op.equal kt k' e.key).run P w=.ok false w:=h e (List.mem_cons_self ..)
  simp [Instr.findAsking,h1,ask_none es (i+1) fun x hx=>h x (List.mem_cons_of_mem _ hx)]
theorem ask_some {P:Program}{kt:TypeId}{k':Value}{w:World}{e:MapEntry}(he:EqF P kt k' w true e) (post:List MapEntry):∀ (pre:List MapEntry) (i:Nat),(∀ x ∈ pre,EqF P kt k' w false x)→(Instr.findAsking kt k' (pre++e::post) i).run P w=.ok (some (i+pre.length,e.val)) w
 | [],i,_=>by
  have h1:(Op.equal kt k' e.key).run P w=.ok true w:=he
  simp [Instr.findAsking,h1]
 | x::pre,i,h=>by
  have h1:(Op.equal kt k' x.key).run P w=.ok false w:=h x (List.mem_cons_self ..)
  have ih:=ask_some he post pre (i+1) fun y hy=>h y (List.mem_cons_of_mem _ hy)
  rw [show i+(x::pre).length=i+1+pre.length by simp only [List.length_cons]; omega]
  simp [Instr.findAsking,h1,ih]
theorem perm_at {α:Type}:∀ {l:List α}{j:Nat}{e:α},l[j]? = some e→l.Perm (e::l.eraseIdx j)
 | x::l,0,e,h=>by simp at h; subst h; exact List.Perm.refl _
 | x::l,j+1,e,h=>by
  rw [List.eraseIdx_cons_succ]
  exact ((perm_at (l:=l) (j:=j) (by simpa using h)).cons x).trans (List.Perm.swap e x _)
theorem perm_mod {α:Type}(f:α→α):∀ {l:List α}{j:Nat}{e:α},l[j]? = some e→(l.modify j f).Perm (f e::l.eraseIdx j)
 | x::l,0,e,h=>by simp at h; subst h; simp
 | x::l,j+1,e,h=>by
  rw [List.eraseIdx_cons_succ,List.modify_succ_cons]
  exact ((perm_mod f (l:=l) (j:=j) (by simpa using h)).cons x).trans (List.Perm.swap (f e) x _)
theorem findNow_ask {P:Program}{kt:TypeId}{d:TypeDesc}(hu:P.underlying kt=some d) (k':Value) (w:World):∀ (es:List MapEntry) (i:Nat) (r:Option (Nat × Value)),Instr.findNow d k' es i=some r→(Instr.findAsking kt k' es i).run P w=.ok r w
 | [],i,r,h=>by simp only [Instr.findNow,Option.some.injEq] at h; subst h; simp [Instr.findAsking]
 | e::es,i,r,h=>by
  simp only [Instr.findNow] at h
  split at h
  ·rename_i hs
   cases h
   simp [Instr.findAsking,sameNow_eq hu hs w]
  ·rename_i hs
   simp [Instr.findAsking,sameNow_eq hu hs w,findNow_ask hu k' w es (i+1) r h]
  ·cases h
theorem findKey_ask {P:Program}{kt:TypeId}{d:TypeDesc}(hu:P.underlying kt=some d) (k':Value) (es:List MapEntry) (w:World):(Instr.findKey kt k' es).run P w=(Instr.findAsking kt k' es).run P w:=by
 unfold Instr.findKey
 simp only [Sem.run_bind,run_underlying hu,Result.andThen_ok]
 cases h:Instr.findNow d k' es 0 with
 | none=>rfl
 | some r=>exact (findNow_ask hu k' w es 0 r h).symm
theorem findM_ok {P:Program}{kt:TypeId}{d:TypeDesc}(hu:P.underlying kt=some d){k:AVal}{σ:Sig}{k':Value}(hk:VR σ k k') (w:World){l:List AVal}{en:Array MapEntry}{r:Option (Nat × AVal)}(hl:MR σ l en) (h:findM P kt k l 0=some r) :
  (r=none∧(Instr.findKey kt k' en.toList).run P w=.ok none w) ∨
  ∃ L j m v e,L.Perm en.toList∧LR σ l (flatE L)∧r=some (j,v)∧(Instr.findKey kt k' en.toList).run P w=.ok (some (m,e.val)) w∧L[j]? = some e∧en.toList[m]? = some e∧(en.toList.eraseIdx m).Perm (L.eraseIdx j)∧VR σ v e.val∧l[2 * j+1]? = some v∧∃ a,l[2 * j]? = some a∧VR σ a e.key:=by
 rw [findKey_ask hu]
 obtain ⟨L,hp,hL⟩:=hl
 rcases findM_all (P:=P) hk w l L 0 r hL h with ⟨rfl,g⟩ | ⟨j,v,e,rfl,g,g1,g2,g3,g4,g5⟩
 ·exact .inl ⟨rfl,ask_none _ _ fun x hx=>g x (hp.mem_iff.2 hx)⟩
 ·have hp2:=hp.symm.trans (perm_at g)
  obtain ⟨pre,post,hpp⟩:=List.append_of_mem (hp2.mem_iff.2 (List.mem_cons_self ..))
  have hp3:(pre++post).Perm (L.eraseIdx j):=by
   rw [hpp] at hp2
   exact (List.perm_middle.symm.trans hp2).cons_inv
  have hrun:=ask_some (P:=P) (kt:=kt) (k':=k') (w:=w) g1 post pre 0 fun x hx=>g2 x (hp3.mem_iff.1 (List.mem_append.2 (.inl hx)))
  refine .inr ⟨L,j,pre.length,v,e,hp,hL,by rw [Nat.zero_add],by rw [hpp]; rw [Nat.zero_add] at hrun; exact hrun,g,by rw [hpp]; simp,?_,g3,g4,g5⟩
  rw [hpp,List.eraseIdx_append_of_length_le (Nat.le_refl _),Nat.sub_self,List.eraseIdx_cons_zero]
  exact hp3
theorem keyIn_und {P:Program}:∀ {d:Nat}{t:TypeId}{x:AVal},keyIn P d t x=true→∃ dd,P.underlying t=some dd
 | 0,t,x,h=>by cases h
 | d+1,t,x,h=>by
  unfold keyIn at h
  split at h
  ·rename_i hu; exact ⟨_,hu⟩
  ·rename_i hu; exact ⟨_,hu⟩
  ·rename_i hu; exact ⟨_,hu⟩
  ·rename_i hu; exact ⟨_,hu⟩
  ·cases h
def lookM (P:Program) (kt et:TypeId) (k:AVal) (ok:Bool) (c:List AVal):Option AVal:=
 cond (keyIn P 10000 kt k) (match findM P kt k c 0 with
  | some (some (_,v))=>some (cond ok (.tup [v,.bool true]) v)
  | some none=>match zeroA P et with
   | some z=>some (cond ok (.tup [z,.bool false]) z)
   | none=>none
  | none=>none) none
def lookupA (P:Program) (t:TypeId) (x k:AVal) (ok:Bool):Option EffA:=
 match P.underlying t with
 | some (.map kt et)=>match x with
  | .nilMap=>match lookM P kt et k ok [] with
   | some v=>some (.pure v)
   | none=>none
  | .map n=>some (.read n fun o=>match o with
   | .mp c=>lookM P kt et k ok c
   | _=>none)
  | _=>none
 | _=>none
theorem tup2_ok {σ:Sig}{u v:AVal}{u' v':Value}(hu:VR σ u u') (hv:VR σ v v'):VR σ (.tup [u,v]) (.tuple #[u',v']):=by
 have h:LR σ [u,v] [u',v'].toArray:=LR.cons hu (LR.cons hv (LR.nil σ))
 exact .tup h.1 h.2
theorem okv_ok {σ:Sig}{v:AVal}{v':Value}(ok b:Bool) (hv:VR σ v v'):VR σ (cond ok (.tup [v,.bool b]) v) (if ok=true then .tuple #[v',.bool b] else v'):=by
 cases ok
 ·exact hv
 ·exact tup2_ok hv (.bool b)
theorem lookM_ok {P:Program}{kt et:TypeId}{k:AVal}{ok:Bool}{c:List AVal}{v:AVal}(h:lookM P kt et k ok c=some v){σ:Sig}{k':Value}(hk:VR σ k k'){es:Array MapEntry}(hc:MR σ c es) (w:World) :
  ∃ v',(Instr.checkKey es.isEmpty 10000 kt k').run P w=.ok () w∧VR σ v v'∧((∃ j u,(Instr.findKey kt k' es.toList).run P w=.ok (some (j,u)) w∧v'=if ok=true then .tuple #[u,.bool true] else u) ∨
   (Instr.findKey kt k' es.toList).run P w=.ok none w∧∃ z,(zeroValue et).run P w=.ok z w∧v'=if ok=true then .tuple #[z,.bool false] else z):=by
 unfold lookM at h
 cases hki:keyIn P 10000 kt k with
 | false=>rw [hki] at h; cases h
 | true =>
  rw [hki] at h
  simp only [cond_true] at h
  have hck:=keyIn_ok P es.isEmpty 10000 kt k hki σ k' hk w
  obtain ⟨dd,hu⟩:=keyIn_und hki
  cases hf:findM P kt k c 0 with
  | none=>rw [hf] at h; cases h
  | some r =>
   rw [hf] at h
   rcases findM_ok hu hk w hc hf with ⟨rfl,g⟩ | ⟨L,j,m,u,e,_,_,rfl,g,_,_,_,g3,_⟩
   ·simp only at h
    split at h
    ·rename_i z hz
     cases h
     obtain ⟨z',z1,z2⟩:=zeroA_ok hz σ w
     exact ⟨_,hck,okv_ok ok false z2,.inr ⟨g,z',z1,rfl⟩⟩
    ·cases h
   ·simp only [Option.some.injEq] at h
    subst h
    exact ⟨_,hck,okv_ok ok true g3,.inl ⟨m,e.val,g,rfl⟩⟩
theorem lookupA_ok {P:Program}{t:TypeId}{x k:AVal}{ok:Bool}{e:EffA}(h:lookupA P t x k ok=some e){σ:Sig}{x' k':Value}(hx:VR σ x x') (hk:VR σ k k'){H H':List (Nat × AObj)}{w:World}{base:Nat}{v:AVal}
  (ha:e.app base H=some (v,H')) (hr:HRel σ (aget H) w):H'=H∧∃ v',(Instr.lookup t x' k' ok).run P w=.ok v' w∧VR σ v v':=by
 unfold lookupA at h
 split at h
 ·rename_i kt et hu
  split at h
  ·split at h
   ·rename_i u hl
    cases h
    simp only [EffA.app,Option.some.injEq,Prod.mk.injEq] at ha
    obtain ⟨rfl,rfl⟩:=ha
    refine ⟨rfl,?_⟩
    cases hx
    obtain ⟨v',g1,g2,g3⟩:=lookM_ok hl hk (es:=#[]) ⟨[],List.Perm.refl _,LR.nil σ⟩ w
    refine ⟨v',?_,g2⟩
    rcases g3 with ⟨j,u,g4,rfl⟩ | ⟨g4,z,g5,rfl⟩
    ·simp only [Instr.lookup,Sem.run_bind,run_underlying hu,Result.andThen_ok,Sem.run_pure,g1,g4]
    ·simp only [Instr.lookup,Sem.run_bind,run_underlying hu,Result.andThen_ok,Sem.run_pure,g1,g4,g5]
   ·cases h
  ·rename_i n
   cases h
   simp only [EffA.app] at ha
   cases hb:aget H n with
   | none=>rw [hb] at ha; cases ha
   | some ob =>
    rw [hb] at ha
    cases ob with
    | cells ro c=>cases ha
    | mp c =>
     simp only at ha
     cases hl:lookM P kt et k ok c with
     | none=>rw [hl] at ha; cases ha
     | some u =>
      rw [hl] at ha
      simp only [Option.some.injEq,Prod.mk.injEq] at ha
      obtain ⟨rfl,rfl⟩:=ha
      refine ⟨rfl,?_⟩
      cases hx with
      | @map _ p hp =>
       obtain ⟨q,hq,en,clk,h1,hst,h2⟩:=hr.obj n _ hb
       rw [hp] at hq; cases hq
       obtain ⟨v',g1,g2,g3⟩:=lookM_ok hl hk h2 w
       refine ⟨v',?_,g2⟩
       rcases g3 with ⟨j,u,g4,rfl⟩ | ⟨g4,z,g5,rfl⟩
       ·simp only [Instr.lookup,Sem.run_bind,run_underlying hu,Result.andThen_ok,Sem.run_pure,run_getObj_map _ _ _ _ h1,g1,g4]
       ·simp only [Instr.lookup,Sem.run_bind,run_underlying hu,Result.andThen_ok,Sem.run_pure,run_getObj_map _ _ _ _ h1,g1,g4,g5]
  ·cases h
 ·cases h
def sameK:AVal→AVal→Bool
 | .bool a,.bool b=>a == b
 | .u8 a,.u8 b=>a == b
 | .u32 a,.u32 b=>a == b
 | .u64 a,.u64 b=>a == b
 | .int j a,.int k b=>decide (j=k) && a == b
 | .str a,.str b=>a == b
 | _,_=>false
def sameL:List AVal→List AVal→Bool
 | [],[]=>true
 | a::l,b::m=>sameK a b && sameL l m
 | _,_=>false
def sameB (a b:AVal):Bool:=
 match a,b with
 | .agg a,.agg b=>sameL a b
 | a,b=>sameK a b
theorem sameK_ok {a b:AVal}(h:sameK a b=true){σ:Sig}{a' b':Value}(ha:VR σ a a') (hb:VR σ b b') (n:Nat):Instr.sameBits n a' b'=true:=by
 unfold sameK at h
 split at h
 ·cases ha; cases hb; cases n <;> simpa [Instr.sameBits] using h
 ·cases ha; cases hb; cases n <;> (have:=eq_of_beq h; subst this; simp [Instr.sameBits])
 ·cases ha; cases hb; cases n <;> (have:=eq_of_beq h; subst this; simp [Instr.sameBits])
 ·cases ha; cases hb; cases n <;> (have:=eq_of_beq h; subst this; simp [Instr.sameBits])
 ·cases ha; cases hb
  simp only [Bool.and_eq_true,decide_eq_true_eq,beq_iff_eq] at h
  obtain ⟨rfl,rfl⟩:=h
  cases n <;> simp [Instr.sameBits]
 ·cases ha; cases hb; have:=eq_of_beq h; subst this; cases n <;> (simp only [Instr.sameBits]; rw [beq_toListBytes,toList_mk]; simp)
 ·cases h
theorem sameL_ok {σ:Sig}:∀ {a b:List AVal}{a' b':List Value},sameL a b=true→LR σ a a'.toArray→LR σ b b'.toArray→a'.length=b'.length∧∀ n,(a'.zip b').all (fun (x,y)=>Instr.sameBits n x y)=true
 | [],[],a',b',h,ha,hb=>by
  have h1:a'=[]:=List.eq_nil_of_length_eq_zero (by simpa using ha.1.symm)
  have h2:b'=[]:=List.eq_nil_of_length_eq_zero (by simpa using hb.1.symm)
  subst h1; subst h2
  exact ⟨rfl,fun n=>rfl⟩
 | [],b::m,a',b',h,ha,hb=>by cases h
 | a::l,[],a',b',h,ha,hb=>by cases h
 | a::l,b::m,a',b',h,ha,hb=>by
  simp only [sameL,Bool.and_eq_true] at h
  cases a' with
  | nil=>have:=ha.1; simp at this
  | cons x a' =>
   cases b' with
   | nil=>have:=hb.1; simp at this
   | cons y b' =>
    have h1:=sameK_ok h.1 (ha.2 0 a x rfl rfl) (hb.2 0 b y rfl rfl)
    obtain ⟨h2,h3⟩:=sameL_ok (a':=a') (b':=b') h.2 (LR.of_list (by have:=ha.1; simpa using this) fun i u u' g g'=>ha.2 (i+1) u u' (by simpa using g) (by simpa using g')) (LR.of_list (by have:=hb.1; simpa using this) fun i u u' g g'=>hb.2 (i+1) u u' (by simpa using g) (by simpa using g'))
    exact ⟨by simp [h2],fun n=>by simp only [List.zip_cons_cons,List.all_cons,h1 n,h3 n,Bool.true_and]⟩
theorem sameB_ok {a b:AVal}(h:sameB a b=true){σ:Sig}{a' b':Value}(ha:VR σ a a') (hb:VR σ b b'):Instr.sameBits 10000 a' b'=true:=by
 unfold sameB at h
 split at h
 ·obtain ⟨xs,rfl,hx⟩:=ha.agg_inv
  obtain ⟨ys,rfl,hy⟩:=hb.agg_inv
  obtain ⟨h1,h2⟩:=sameL_ok (a':=xs.toList) (b':=ys.toList) h (by simpa using hx) (by simpa using hy)
  show Instr.sameBits (9999+1) _ _=true
  simp only [Instr.sameBits,Bool.and_eq_true,beq_iff_eq]
  exact ⟨by simpa using h1,h2 9999⟩
 ·exact sameK_ok h ha hb _
def setM (c:List AVal) (i:Nat) (k v:AVal):List AVal:=c.take (2 * i)++k::v::c.drop (2 * i+2)
def cutM (c:List AVal) (i:Nat):List AVal:=c.take (2 * i)++c.drop (2 * i+2)
theorem LR.flat_mk {σ:Sig}{a v:AVal}{l:List AVal}{e:MapEntry}{es:List MapEntry}(h1:VR σ a e.key) (h2:VR σ v e.val) (h:LR σ l (flatE es)):LR σ (a::v::l) (flatE (e::es)):=by
 have:=LR.cons h1 (LR.cons h2 h)
 simpa [flatE] using this
theorem LR.flat_nil {σ:Sig}{l:List AVal}(h:LR σ l (flatE [])):l=[]:=List.eq_nil_of_length_eq_zero (by simpa [flatE] using h.1)
theorem LR.flat_of {σ:Sig}{l:List AVal}{e:MapEntry}{es:List MapEntry}(h:LR σ l (flatE (e::es))):∃ a v l1,l=a::v::l1∧VR σ a e.key∧VR σ v e.val∧LR σ l1 (flatE es):=by
 match l,h with
 | [],h=>have:=h.1; simp [flatE] at this
 | [a],h=>have:=h.1; simp [flatE] at this
 | a::v::l1,h =>
  obtain ⟨e',es',he,h1,h2,h3⟩:=h.flat_cons
  cases he
  exact ⟨a,v,l1,rfl,h1,h2,h3⟩
theorem setM_ok {σ:Sig}{k v:AVal}{k' v':Value}(hk:VR σ k k') (hv:VR σ v v'):∀ (es:List MapEntry) (i:Nat) (c:List AVal),i < es.length→LR σ c (flatE es)→LR σ (setM c i k v) (flatE (es.modify i fun e => { e with key:=k',val:=v' }))
 | [],i,c,hi,h=>by simp at hi
 | e::es,0,c,hi,h=>by
  obtain ⟨a,u,l,rfl,h1,h2,h3⟩:=h.flat_of
  simp only [List.modify_zero_cons,setM,Nat.mul_zero,List.take_zero,List.nil_append,Nat.zero_add,List.drop_succ_cons,List.drop_zero]
  exact LR.flat_mk (e:={ e with key:=k',val:=v' }) hk hv h3
 | e::es,i+1,c,hi,h=>by
  obtain ⟨a,u,l,rfl,h1,h2,h3⟩:=h.flat_of
  have:=setM_ok hk hv es i l (by simpa using hi) h3
  rw [List.modify_succ_cons]
  have e1:setM (a::u::l) (i+1) k v=a::u::setM l i k v:=by
   simp [setM,Nat.mul_add]
  rw [e1]
  exact LR.flat_mk h1 h2 this
theorem cutM_ok {σ:Sig}:∀ (es:List MapEntry) (i:Nat) (c:List AVal),i < es.length→LR σ c (flatE es)→LR σ (cutM c i) (flatE (es.eraseIdx i))
 | [],i,c,hi,h=>by simp at hi
 | e::es,0,c,hi,h=>by
  obtain ⟨a,u,l,rfl,h1,h2,h3⟩:=h.flat_of
  simpa [cutM] using h3
 | e::es,i+1,c,hi,h=>by
  obtain ⟨a,u,l,rfl,h1,h2,h3⟩:=h.flat_of
  have:=cutM_ok es i l (by simpa using hi) h3
  rw [List.eraseIdx_cons_succ]
  have e1:cutM (a::u::l) (i+1)=a::u::cutM l i:=by
   simp [cutM,Nat.mul_add]
  rw [e1]
  exact LR.flat_mk h1 h2 this
theorem addM_ok {σ:Sig}{k v:AVal}{e:MapEntry}(hk:VR σ k e.key) (hv:VR σ v e.val):∀ (es:List MapEntry) (c:List AVal),LR σ c (flatE es)→LR σ (c++[k,v]) (flatE (es++[e]))
 | [],c,h=>by
  rw [h.flat_nil]
  exact LR.flat_mk hk hv (LR.nil σ)
 | e1::es,c,h=>by
  obtain ⟨a,u,l,rfl,h1,h2,h3⟩:=h.flat_of
  exact LR.flat_mk h1 h2 (addM_ok hk hv es l h3)
def updM (P:Program) (kt:TypeId) (k v:AVal) (c:List AVal):Option (List AVal):=
 cond (keyIn P 10000 kt k) (match findM P kt k c 0 with
  | some (some (i,_))=>match c[2 * i]? with
   | some old=>cond (sameB old k) (some (setM c i k v)) none
   | none=>none
  | some none=>some (c++[k,v])
  | none=>none) none
def delM (P:Program) (kt:TypeId) (k:AVal) (c:List AVal):Option (List AVal):=
 cond (keyIn P 10000 kt k) (match findM P kt k c 0 with
  | some (some (i,_))=>some (cutM c i)
  | some none=>some c
  | none=>none) none
def oneM (n:Nat) (g:List AVal→Option (List AVal)):EffA:=.one n fun o=>match o with
 | .mp c=>match g c with
  | some c'=>some (.tup [],.mp c')
  | none=>none
 | _=>none
def mapUpdateA (P:Program) (t:TypeId) (x k v:AVal):Option EffA:=
 match P.underlying t with
 | some (.map kt _)=>match x with
  | .map n=>some (oneM n (updM P kt k v))
  | _=>none
 | _=>none
def deleteA (P:Program) (ts:Array TypeId) (x k:AVal):Option EffA:=
 match ts[0]? with
 | some t=>match P.underlying t with
  | some (.map kt _)=>match x with
   | .nilMap=>cond (keyIn P 10000 kt k) (some (.pure (.tup []))) none
   | .map n=>some (oneM n (delM P kt k))
   | _=>none
  | _=>none
 | none=>none
def mapLenA (P:Program) (ts:Array TypeId) (n:Nat):Option EffA:=
 match ts[0]? with
 | some t=>match P.underlying t with
  | some (.map _ _)=>some (.read n fun o=>match o with
   | .mp c=>some (.int .i64 ((c.length / 2:Nat):Int))
   | _=>none)
  | _=>none
 | none=>none
def makeMapA:EffA:=.alloc (.mp []) fun n=>.map n
theorem oneM_app {n:Nat}{g:List AVal→Option (List AVal)}{base:Nat}{H H':List (Nat × AObj)}{v:AVal}(h:(oneM n g).app base H=some (v,H')):∃ c c',aget H n=some (.mp c)∧g c=some c'∧v=.tup []∧H'=aset H n (.mp c'):=by
 unfold oneM at h
 simp only [EffA.app] at h
 cases hb:aget H n with
 | none=>rw [hb] at h; cases h
 | some ob =>
  rw [hb] at h
  cases ob with
  | cells ro c=>cases h
  | mp c =>
   simp only at h
   cases hg:g c with
   | none=>rw [hg] at h; cases h
   | some c' =>
    rw [hg] at h
    simp only [Option.some.injEq,Prod.mk.injEq] at h
    exact ⟨c,c',rfl,hg,h.1.symm,h.2.symm⟩
theorem Stm.push {en:List MapEntry}{clk:Nat}(h:Stm en clk) (k v:Value):Stm (en++[{ key:=k,val:=v,born:=clk }]) (clk+1):=by
 refine ⟨fun x hx => ?_,?_⟩
 ·rcases List.mem_append.1 hx with h1 | h1
  ·exact Nat.lt_succ_of_lt (h.1 x h1)
  ·rw [List.mem_singleton.1 h1]; exact Nat.lt_succ_self clk
 ·rw [List.map_append,List.nodup_append]
  refine ⟨h.2,by simp,fun a ha b hb => ?_⟩
  obtain ⟨x,hx,rfl⟩:=List.mem_map.1 ha
  have:=h.1 x hx
  simp only [List.map_cons,List.map_nil,List.mem_singleton] at hb
  omega
theorem map_born_modify (k v:Value):∀ (en:List MapEntry) (i:Nat),(en.modify i fun e => { e with key:=k,val:=v }).map (·.born)=en.map (·.born)
 | [],i=>by simp
 | e::en,0=>by simp
 | e::en,i+1=>by simp [map_born_modify k v en i]
theorem Stm.modify {en:List MapEntry}{clk:Nat}(h:Stm en clk) (i:Nat) (k v:Value):Stm (en.modify i fun e => { e with key:=k,val:=v }) clk:=by
 have e:=map_born_modify k v en i
 refine ⟨fun x hx => ?_,by rw [e]; exact h.2⟩
 have h1:x.born ∈ en.map (·.born):=by rw [← e]; exact List.mem_map.2 ⟨x,hx,rfl⟩
 obtain ⟨y,hy,e2⟩:=List.mem_map.1 h1
 rw [← e2]
 exact h.1 y hy
theorem Stm.cut {en:List MapEntry}{clk:Nat}(h:Stm en clk) (i:Nat):Stm (en.eraseIdx i) clk:=
 ⟨fun x hx=>h.1 x (List.mem_of_mem_eraseIdx hx),List.Sublist.nodup ((List.eraseIdx_sublist en i).map _) h.2⟩
theorem mapWrite {σ:Sig}{H:List (Nat × AObj)}{w:World}(hr:HRel σ (aget H) w){n:Nat}{c c':List AVal}(hb:aget H n=some (.mp c)){p:Place}(hp:σ n=some p){en en':Array MapEntry}{clk clk':Nat}(h1:w.heap[p.blk]? = some (.map en clk)) (hst:Stm en'.toList clk') (h2:MR σ c' en') :
  HRel σ (aget (aset H n (.mp c'))) { w with heap:=w.heap.setIfInBounds p.blk (.map en' clk') } ∧ Frm σ (aget H) w σ (aget (aset H n (.mp c'))) { w with heap:=w.heap.setIfInBounds p.blk (.map en' clk') }:=by
 obtain ⟨g1,g2⟩:=MapKept.heap_set (w:=w) (o':=.map en' clk') h1
 rw [aget_aset_fun]
 exact ⟨hr.write hb rfl hp ⟨en',clk',g1,hst,h2⟩ g2,Frm.write hb rfl hp g2 (by simp) rfl rfl rfl⟩
theorem mapUpdateA_ok {P:Program}{t:TypeId}{x k u:AVal}{e:EffA}(h:mapUpdateA P t x k u=some e){σ:Sig}{x' k' u':Value}(hx:VR σ x x') (hk:VR σ k k') (hu:VR σ u u'){H H':List (Nat × AObj)}{w:World}{base:Nat}{v:AVal}
  (ha:e.app base H=some (v,H')) (hr:HRel σ (aget H) w):v=.tup []∧∃ w',(Instr.mapUpdate t x' k' u').run P w=.ok () w'∧HRel σ (aget H') w'∧Frm σ (aget H) w σ (aget H') w':=by
 unfold mapUpdateA at h
 split at h
 ·rename_i kt et hut
  split at h
  ·rename_i n
   cases h
   obtain ⟨c,c',hb,hg,rfl,rfl⟩:=oneM_app ha
   refine ⟨rfl,?_⟩
   cases hx with
   | @map _ p hp =>
    obtain ⟨q,hq,en,clk,h1,hst,h2⟩:=hr.obj n _ hb
    rw [hp] at hq; cases hq
    unfold updM at hg
    cases hki:keyIn P 10000 kt k with
    | false=>rw [hki] at hg; cases hg
    | true =>
     rw [hki] at hg
     simp only [cond_true] at hg
     have hck:=keyIn_ok P false 10000 kt k hki σ k' hk w
     obtain ⟨dd,hud⟩:=keyIn_und hki
     cases hf:findM P kt k c 0 with
     | none=>rw [hf] at hg; cases hg
     | some r =>
      rw [hf] at hg
      rcases findM_ok hud hk w h2 hf with ⟨rfl,g⟩ | ⟨L,j,m,y,e,hp2,hL,rfl,g,g2,gm,hpe,g3,g4,old,g5,g6⟩
      ·simp only [Option.some.injEq] at hg
       subst hg
       obtain ⟨a1,a2⟩:=mapWrite (clk':=clk+1) (en':=en.push { key:=k',val:=u',born:=clk }) hr hb hp h1 (by rw [Array.toList_push]; exact hst.push k' u') (h2.elim fun L h=>⟨L++[{ key:=k',val:=u',born:=clk }],by rw [Array.toList_push]; exact h.1.append_right _,addM_ok hk hu L c h.2⟩)
       refine ⟨_,?_,a1,a2⟩
       simp only [Instr.mapUpdate,Sem.run_bind,run_underlying hut,Result.andThen_ok,run_getObj_map _ _ _ _ h1,hck,g,MapKept.run_setObj_map _ h1]
      ·simp only [g5] at hg
       cases hs:sameB old k with
       | false=>rw [hs] at hg; cases hg
       | true =>
        rw [hs] at hg
        simp only [cond_true,Option.some.injEq] at hg
        subst hg
        have hlt:j < L.length:=(List.getElem?_eq_some_iff.1 g2).1
        have hej:en[m]? = some e:=by simpa using gm
        obtain ⟨a1,a2⟩:=mapWrite (clk':=clk) (en':=en.modify m fun e => { e with key:=k',val:=u' }) hr hb hp h1 (by rw [Array.toList_modify]; exact hst.modify m k' u') ⟨L.modify j fun e => { e with key:=k',val:=u' },by rw [Array.toList_modify]; exact (perm_mod (fun e:MapEntry => { e with key:=k',val:=u' }) g2).trans ((hpe.symm.cons _).trans (perm_mod (fun e:MapEntry => { e with key:=k',val:=u' }) gm).symm),setM_ok hk hu L j c hlt hL⟩
        refine ⟨_,?_,a1,a2⟩
        simp only [Instr.mapUpdate,Sem.run_bind,run_underlying hut,Result.andThen_ok,run_getObj_map _ _ _ _ h1,hck,g,MapKept.run_setObj_map _ h1,hej,Option.map_some,Option.getD_some,Instr.keyThatStays,sameB_ok hs g6 hk,if_true,Sem.run_pure]
  ·cases h
 ·cases h
theorem deleteA_ok {P:Program}{ts:Array TypeId}{x k:AVal}{e:EffA}(h:deleteA P ts x k=some e){σ:Sig}{x' k':Value}(hx:VR σ x x') (hk:VR σ k k') (ty:TypeId){H H':List (Nat × AObj)}{w:World}{base:Nat}{v:AVal}
  (ha:e.app base H=some (v,H')) (hr:HRel σ (aget H) w):∃ v' w',(Builtin.delete_ ts ty #[x',k']).run P w=.ok v' w'∧VR σ v v'∧HRel σ (aget H') w'∧Frm σ (aget H) w σ (aget H') w':=by
 unfold deleteA at h
 have h0:(#[x',k']:Array Value)[0]? = some x':=rfl
 have h00:(#[x',k']:Array Value)[1]? = some k':=rfl
 have hvt:VR σ (.tup []) (.tuple #[]):=.tup rfl fun i v v' h=>by simp at h
 split at h
 ·rename_i t ht
  split at h
  ·rename_i kt et hut
   split at h
   ·cases hki:keyIn P 10000 kt k with
    | false=>rw [hki] at h; cases h
    | true =>
     rw [hki] at h
     simp only [cond_true,Option.some.injEq] at h
     subst h
     simp only [EffA.app,Option.some.injEq,Prod.mk.injEq] at ha
     obtain ⟨rfl,rfl⟩:=ha
     cases hx
     have hck:=keyIn_ok P true 10000 kt k hki σ k' hk w
     refine ⟨_,w,?_,hvt,hr,Frm.refl _ _ _⟩
     simp only [Builtin.delete_,ht,h0,h00,Sem.run_bind,run_underlying hut,Result.andThen_ok,hck,Sem.run_pure]
   ·rename_i n
    cases h
    obtain ⟨c,c',hb,hg,rfl,rfl⟩:=oneM_app ha
    cases hx with
    | @map _ p hp =>
     obtain ⟨q,hq,en,clk,h1,hst,h2⟩:=hr.obj n _ hb
     rw [hp] at hq; cases hq
     unfold delM at hg
     cases hki:keyIn P 10000 kt k with
     | false=>rw [hki] at hg; cases hg
     | true =>
      rw [hki] at hg
      simp only [cond_true] at hg
      have hck:=keyIn_ok P en.isEmpty 10000 kt k hki σ k' hk w
      obtain ⟨dd,hud⟩:=keyIn_und hki
      cases hf:findM P kt k c 0 with
      | none=>rw [hf] at hg; cases hg
      | some r =>
       rw [hf] at hg
       rcases findM_ok hud hk w h2 hf with ⟨rfl,g⟩ | ⟨L,j,m,y,e,hp2,hL,rfl,g,g2,gm,hpe,g3,g4,_⟩
       ·simp only [Option.some.injEq] at hg
        subst hg
        obtain ⟨a1,a2⟩:=mapWrite (clk':=clk) (en':=en) hr hb hp h1 hst h2
        refine ⟨_,_,?_,hvt,a1,a2⟩
        simp only [Builtin.delete_,ht,h0,h00,Sem.run_bind,run_underlying hut,Result.andThen_ok,run_getObj_map _ _ _ _ h1,hck,g,MapKept.run_setObj_map _ h1,Sem.run_pure]
       ·simp only [Option.some.injEq] at hg
        subst hg
        have hlt:j < L.length:=(List.getElem?_eq_some_iff.1 g2).1
        obtain ⟨a1,a2⟩:=mapWrite (clk':=clk) (en':=en.eraseIdxIfInBounds m) hr hb hp h1 (by rw [Array.toList_eraseIdxIfInBounds]; exact hst.cut m) ⟨L.eraseIdx j,by rw [Array.toList_eraseIdxIfInBounds]; exact hpe.symm,cutM_ok L j c hlt hL⟩
        refine ⟨_,_,?_,hvt,a1,a2⟩
        simp only [Builtin.delete_,ht,h0,h00,Sem.run_bind,run_underlying hut,Result.andThen_ok,run_getObj_map _ _ _ _ h1,hck,g,MapKept.run_setObj_map _ h1,Sem.run_pure]
   ·cases h
  ·cases h
 ·cases h
theorem flatE_size:∀ es:List MapEntry,(flatE es).size=2 * es.length
 | []=>rfl
 | e::es=>by
  have:=flatE_size es
  simp only [flatE,List.size_toArray,List.flatMap_cons,List.length_append,List.length_cons,List.length_nil] at this ⊢
  omega
theorem mapLenA_ok {P:Program}{ts:Array TypeId}{n:Nat}{e:EffA}(h:mapLenA P ts n=some e){σ:Sig}{x':Value}(hx:VR σ (.map n) x') (ty:TypeId){H H':List (Nat × AObj)}{w:World}{base:Nat}{v:AVal}
  (ha:e.app base H=some (v,H')) (hr:HRel σ (aget H) w):H'=H∧∃ v',(Builtin.len_ ts ty #[x']).run P w=.ok v' w∧VR σ v v':=by
 unfold mapLenA at h
 have h0:(#[x']:Array Value)[0]? = some x':=rfl
 split at h
 ·rename_i t ht
  split at h
  ·rename_i kt et hut
   cases h
   simp only [EffA.app] at ha
   cases hb:aget H n with
   | none=>rw [hb] at ha; cases ha
   | some ob =>
    rw [hb] at ha
    cases ob with
    | cells ro c=>cases ha
    | mp c =>
     simp only [Option.some.injEq,Prod.mk.injEq] at ha
     obtain ⟨rfl,rfl⟩:=ha
     refine ⟨rfl,?_⟩
     cases hx with
     | @map _ p hp =>
      obtain ⟨q,hq,en,clk,h1,hst,h2⟩:=hr.obj n _ hb
      rw [hp] at hq; cases hq
      have hl:c.length / 2=en.size:=by
       obtain ⟨L,hp2,hL⟩:=h2
       have h3:=hL.1
       have e1:=flatE_size L
       have e2:L.length=en.size:=hp2.length_eq.trans Array.length_toList
       omega
      refine ⟨.int .i64 (en.size:Int),?_,?_⟩
      ·simp only [Builtin.len_,ht,h0,Sem.run_bind,run_underlying hut,Result.andThen_ok,run_getObj_map _ _ _ _ h1,Sem.run_pure,goInt]
      ·rw [hl]; exact .int _ _
  ·cases h
 ·cases h
theorem makeMapA_ok {P:Program}{t:TypeId}{σ:Sig}{H H':List (Nat × AObj)}{w:World}{base:Nat}{v:AVal}
  (ha:makeMapA.app base H=some (v,H')) (hr:HRel σ (aget H) w) (hf:Free σ base) :
  ∃ σ' v' w',(Instr.makeMap t none).run P w=.ok v' w'∧VR σ' v v'∧HRel σ' (aget H') w'∧Frm σ (aget H) w σ' (aget H') w'∧Only σ σ' base:=by
 unfold makeMapA at ha
 simp only [EffA.app,Option.some.injEq,Prod.mk.injEq] at ha
 obtain ⟨rfl,rfl⟩:=ha
 have hn:σ base=none:=hf 0 (by omega)
 refine ⟨σ.set base ⟨w.heap.size,0,0,none⟩,.map (some w.heap.size),w.alloc (.map #[] 0),?_,?_,?_,?_,fun n hn=>Sig.set_other σ _ (by omega)⟩
 ·simp only [Instr.makeMap,Sem.run_bind,Sem.run_pure]; rfl
 ·exact VR.map (p:=⟨w.heap.size,0,0,none⟩) (Sig.set_same σ base _)
 ·rw [aget_aset_fun]
  refine hr.alloc' hn rfl ?_
  exact ⟨#[],0,by show (w.heap.push _)[w.heap.size]? = _; simp,⟨(fun x hx=>by cases hx),List.nodup_nil⟩,[],List.Perm.refl _,LR.nil _⟩
 ·rw [aget_aset_fun]
  exact Frm.alloc' hr hn rfl ⟨rfl,rfl,rfl⟩
end Go.Eng
