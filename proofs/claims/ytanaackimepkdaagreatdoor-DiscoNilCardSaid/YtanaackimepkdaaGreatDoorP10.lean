/- Texts Eng46, QAPl4, Eng47, QAPl5, QAPl6, QAPl7, QAPl8, QAPl9, QAPm0, QAPm1, QAPm2, QAPn0, QAPn1, QAPn2, QAPv3, QAPv4: what they show that this claim uses. -/
import Derived.Test.YtanaackimepkdaaGreatDoorP6
import Derived.Test.YtanaackimepkdaaGreatDoorP7
import Derived.Test.YtanaackimepkdaaGreatDoorP8
import Derived.Test.YtanaackimepkdaaGreatDoorP9
set_option maxRecDepth 100000
set_option maxHeartbeats 1000000
set_option linter.unusedVariables false
set_option linter.unusedSimpArgs false
namespace Go.Eng
open Go
def winE (b o m:Nat) (k:List AVal→Option AVal):EffA:=
 oneE b fun _ C=>cond (Nat.ble (o+m) C.length && ltL 0 ((C.drop o).take m)) (match k ((C.drop o).take m) with
  | some v=>some (v,C)
  | none=>none) none
theorem ltL_mem46:∀ {l:List AVal}{m:Nat},ltL m l=true→∀ v,v ∈ l→ltS m v=true
 | [],_,_,v,hv=>by cases hv
 | x::l,m,h,v,hv=>by
  simp only [ltL] at h
  cases hx:ltS m x <;> rw [hx] at h <;> simp only [cond_true,cond_false] at h
  ·cases h
  ·rcases List.mem_cons.1 hv with rfl | e
   ·exact hx
   ·exact ltL_mem46 h v e
theorem ltV_of_ltS {v:AVal}(h:ltS 0 v=true):ltV 0 v=true:=by
 have h0:∀ n:Nat,Nat.ble (n+1) 0=false:=fun n=>rfl
 cases v <;> first | rfl | (simp only [ltS,h0] at h; cases h; done) | skip
 all_goals simp only [ltS] at h
 all_goals first | cases h | (rename_i cs; cases cs <;> first | rfl | cases h)
theorem hrel_ro1 {σ:Sig}{H:Heap}{w:World}(h:∀ n o,H n=some o→o.ro=true∧∃ p,σ n=some p∧ORel σ w p o):HRel σ H w:=
 ⟨fun n o hn=>(h n o hn).2,fun n m o o' p q hn hm _ _ _=>.inr ⟨(h n o hn).1,(h m o' hm).1⟩⟩
theorem callOk_win {P:Program}{cs:CS}(hcs:CSOk P cs) (hm:P.follows .mixedOrders=true){f:FuncId}{b o m:Nat}{rest:List AVal}(ha:allV rest=true){k:List AVal→Option AVal}
  (h:∀ W v,W.length=m→k W=some v→ltL 0 W=true→ltV 0 v=true∧∃ F nn H' fr',run1 P cs nn F f (.slice P.globals.size 0 m 1::rest) [(P.globals.size,.cells true W)] (P.globals.size+1)=some (v,H',fr')) :
  CallOk P f (.slice b o m 1::rest) (winE b o m k):=by
 intro σ args' H w base v0 H0 hl hg hH happ hfree
 unfold winE oneE EffA.app at happ
 simp only at happ
 cases hn:aget H b with
 | none=>rw [hn] at happ; cases happ
 | some ob =>
  rw [hn] at happ
  cases ob with
  | mp _=>cases happ
  | cells ro C =>
  cases ro with
  | true=>cases happ
  | false =>
   simp only at happ
   cases hc:(Nat.ble (o+m) C.length && ltL 0 ((C.drop o).take m)) <;> rw [hc] at happ <;> simp only [cond_true,cond_false] at happ
   ·cases happ
   ·cases hk:k ((C.drop o).take m) with
    | none=>rw [hk] at happ; cases happ
    | some v =>
     rw [hk] at happ
     simp only [Option.some.injEq,Prod.mk.injEq] at happ
     obtain ⟨rfl,rfl⟩:=happ
     rw [Bool.and_eq_true] at hc
     have hlen:=Nat.le_of_ble_eq_true hc.1
     obtain ⟨W,hW⟩:∃ W,W=(C.drop o).take m:=⟨_,rfl⟩
     rw [← hW] at hk hc
     have hWl:W.length=m:=by rw [hW,List.length_take,List.length_drop]; omega
     obtain ⟨hv,F,nn,H',fr',hrun⟩:=h W v hWl hk hc.2
     obtain ⟨fn,c,hf,hb,hr⟩:=run1_some hrun
     -- the block's place,and the window's
     obtain ⟨p,hp,c',t,fz,e1,e2,e3,e4⟩:=hH.obj b _ hn
     obtain ⟨q,hq⟩:∃ q:Place,q=⟨p.blk,p.sh+o,p.sz,none⟩:=⟨_,rfl⟩
     obtain ⟨σ1,hσ1⟩:∃ σ1:Sig,σ1=(cut P.globals.size σ).set P.globals.size q:=⟨_,rfl⟩
     have sat:σ1 P.globals.size=some q:=by rw [hσ1]; exact Sig.set_same _ _ _
     have hg1:GRel P σ1:=fun g hgl=>by
      obtain ⟨sz,hs⟩:=hg g hgl
      refine ⟨sz,?_⟩
      rw [hσ1,Sig.set_other _ _ (by omega)]
      exact cut_of hs hgl
     have hfr1:Fresh σ1 (P.globals.size+1):=fun n hn=>by
      rw [hσ1,Sig.set_other _ _ (by omega)]
      exact cut_fresh _ _ n (by omega)
     have hl1:LR σ1 (.slice P.globals.size 0 m 1::rest) args':=by
      refine ⟨hl.1,fun i u u' h1 h2 => ?_⟩
      cases i with
      | zero =>
       simp only [List.getElem?_cons_zero,Option.some.injEq] at h1
       subst h1
       have:=hl.2 0 (.slice b o m 1) u' rfl h2
       cases this with
       | slice hpb ho hcp hs =>
        rw [hp] at hpb
        cases hpb
        have hblk:q.blk=p.blk:=by rw [hq]
        rw [← hblk]
        refine .slice sat ?_ hcp (by rw [hq]; exact hs)
        rcases ho with ho | ho
        ·exact .inl ho
        ·exact .inr (by rw [ho,hq]; rfl)
      | succ i =>
       rw [List.getElem?_cons_succ] at h1
       exact (hl.2 (i+1) u u' (by rw [List.getElem?_cons_succ]; exact h1) h2).cut0 (allV_mem ha u (List.mem_of_getElem? h1)) σ1
     have hH1:HRel σ1 (aget [(P.globals.size,.cells true W)]) w:=by
      refine hrel_ro1 ?_
      intro n ob' hob
      rcases beq_cases P.globals.size n with ⟨e,hbq⟩ | ⟨e,hbq⟩
      ·simp only [aget,hbq,cond_true,Option.some.injEq] at hob
       subst hob
       subst e
       refine ⟨rfl,q,sat,c',t,fz,by rw [hq]; exact e1,by rw [hq]; exact e2,fun i u hi => ?_,(fun h=>by cases h),fun T h=>by rw [hq] at h; cases h⟩
       have hi2:C[o+i]? = some u:=by
        rw [hW] at hi
        have him:i < m:=by
         have:=(List.getElem?_eq_some_iff.1 hi).1
         rw [List.length_take] at this
         omega
        rw [List.getElem?_take_of_lt him,List.getElem?_drop] at hi
        exact hi
       obtain ⟨u',g1,g2⟩:=e3 (o+i) u hi2
       refine ⟨u',by rw [hq]; show c'[p.sh+o+i]? = some u'; rw [Nat.add_assoc]; exact g1,?_⟩
       exact g2.cut0 (ltV_of_ltS (ltL_mem46 hc.2 u (List.mem_of_getElem? hi))) σ1
      ·simp only [aget,hbq,cond_false] at hob
       cases hob
     refine (runF_ok hcs hm hf hb hr hl1 hH1 hg1 hfr1).mono fun r w' hrw => ?_
     obtain ⟨σ',v',rfl,g1,g2,g3,g4⟩:=hrw
     have hold:∀ bb,bb < w.heap.size→w'.heap[bb]? = w.heap[bb]?:=fun bb hbb=>(g3.old bb hbb fun ⟨n,o1,p1,a1,a2,_⟩=>by
      rcases beq_cases P.globals.size n with ⟨e,hbq⟩ | ⟨e,hbq⟩
      ·simp only [aget,hbq,cond_true,Option.some.injEq] at a1
       subst a1
       cases a2
      ·simp only [aget,hbq,cond_false] at a1
       cases a1).1
     have same:aget (aset H b (.cells false C))=aget H:=by
      funext n
      rw [aget_aset]
      split
      ·rename_i e
       subst e
       rw [hn]
      ·rfl
     refine ⟨σ,v',rfl,g1.cut0 hv σ,?_,?_,Only.refl σ base⟩
     ·show HRel σ (aget (aset H b (.cells false C))) w'
      rw [same]
      refine ⟨fun n ob' hob => ?_,hH.inj⟩
      obtain ⟨p',hp',ho'⟩:=hH.obj n ob' hob
      exact ⟨p',hp',ho'.mono (Sig.le_refl σ) (hold _ ho'.lt)⟩
     ·show Frm σ (aget H) w σ (aget (aset H b (.cells false C))) w'
      rw [same]
      exact ⟨Sig.le_refl σ,g3.size,g3.os,g3.output,g3.tape,fun bb hbb hn=>⟨hold bb hbb,hn⟩⟩
end Go.Eng
namespace Go.Proofs.YtanaackimepkdaaGreatDoor.Pol
open Go Go.Eng
set_option maxRecDepth 1000000
def bt (c:Nat→UInt8) (m n i:Nat):UInt64:=cond (Nat.blt 0 n && Nat.beq i n) 1 (cond (Nat.blt i m) (c i).toUInt64 0)
def of1 (b:UInt64) (x:Nat→UInt64) (i:Nat):Nat→UInt64:=updF x (8 * i / 26) (x (8 * i / 26) ||| (shl_u64 b (8 * i % 26) &&& 67108863))
def ofS (b:UInt64) (x:Nat→UInt64) (i:Nat):Nat→UInt64:=cond (Nat.blt 18 (8 * i % 26) && Nat.blt (8 * i / 26) 4) (updF (of1 b x i) (8 * i / 26+1) (of1 b x i (8 * i / 26+1) ||| shr_u64 b (26 - 8 * i % 26))) (of1 b x i)
def ofN (c:Nat→UInt8) (m n:Nat):Nat→Nat→UInt64
 | 0=>fun _=>0
 | i+1=>ofS (bt c m n i) (ofN c m n i) i
theorem run10_1_1 (c:Nat→UInt8):(run1 Tryz.prog noCS (mask 163) 100 163 [.slice 5 0 1 1,.int .i64 1] [(5,.cells true (cellsB 1 c))] 6).map (·.1)=some (.agg (cellsU 5 (ofN c 1 1 17))):=by kernel_rfl
theorem run10_2_2 (c:Nat→UInt8):(run1 Tryz.prog noCS (mask 163) 100 163 [.slice 5 0 2 1,.int .i64 2] [(5,.cells true (cellsB 2 c))] 6).map (·.1)=some (.agg (cellsU 5 (ofN c 2 2 17))):=by kernel_rfl
theorem run10_3_3 (c:Nat→UInt8):(run1 Tryz.prog noCS (mask 163) 100 163 [.slice 5 0 3 1,.int .i64 3] [(5,.cells true (cellsB 3 c))] 6).map (·.1)=some (.agg (cellsU 5 (ofN c 3 3 17))):=by kernel_rfl
theorem run10_4_4 (c:Nat→UInt8):(run1 Tryz.prog noCS (mask 163) 100 163 [.slice 5 0 4 1,.int .i64 4] [(5,.cells true (cellsB 4 c))] 6).map (·.1)=some (.agg (cellsU 5 (ofN c 4 4 17))):=by kernel_rfl
theorem run10_5_5 (c:Nat→UInt8):(run1 Tryz.prog noCS (mask 163) 100 163 [.slice 5 0 5 1,.int .i64 5] [(5,.cells true (cellsB 5 c))] 6).map (·.1)=some (.agg (cellsU 5 (ofN c 5 5 17))):=by kernel_rfl
theorem run10_6_6 (c:Nat→UInt8):(run1 Tryz.prog noCS (mask 163) 100 163 [.slice 5 0 6 1,.int .i64 6] [(5,.cells true (cellsB 6 c))] 6).map (·.1)=some (.agg (cellsU 5 (ofN c 6 6 17))):=by kernel_rfl
theorem run10_7_7 (c:Nat→UInt8):(run1 Tryz.prog noCS (mask 163) 100 163 [.slice 5 0 7 1,.int .i64 7] [(5,.cells true (cellsB 7 c))] 6).map (·.1)=some (.agg (cellsU 5 (ofN c 7 7 17))):=by kernel_rfl
theorem run10_8_8 (c:Nat→UInt8):(run1 Tryz.prog noCS (mask 163) 100 163 [.slice 5 0 8 1,.int .i64 8] [(5,.cells true (cellsB 8 c))] 6).map (·.1)=some (.agg (cellsU 5 (ofN c 8 8 17))):=by kernel_rfl
theorem run10_9_9 (c:Nat→UInt8):(run1 Tryz.prog noCS (mask 163) 100 163 [.slice 5 0 9 1,.int .i64 9] [(5,.cells true (cellsB 9 c))] 6).map (·.1)=some (.agg (cellsU 5 (ofN c 9 9 17))):=by kernel_rfl
theorem run10_10_10 (c:Nat→UInt8):(run1 Tryz.prog noCS (mask 163) 100 163 [.slice 5 0 10 1,.int .i64 10] [(5,.cells true (cellsB 10 c))] 6).map (·.1)=some (.agg (cellsU 5 (ofN c 10 10 17))):=by kernel_rfl
theorem run10_11_11 (c:Nat→UInt8):(run1 Tryz.prog noCS (mask 163) 100 163 [.slice 5 0 11 1,.int .i64 11] [(5,.cells true (cellsB 11 c))] 6).map (·.1)=some (.agg (cellsU 5 (ofN c 11 11 17))):=by kernel_rfl
theorem run10_12_12 (c:Nat→UInt8):(run1 Tryz.prog noCS (mask 163) 100 163 [.slice 5 0 12 1,.int .i64 12] [(5,.cells true (cellsB 12 c))] 6).map (·.1)=some (.agg (cellsU 5 (ofN c 12 12 17))):=by kernel_rfl
theorem run10_13_13 (c:Nat→UInt8):(run1 Tryz.prog noCS (mask 163) 100 163 [.slice 5 0 13 1,.int .i64 13] [(5,.cells true (cellsB 13 c))] 6).map (·.1)=some (.agg (cellsU 5 (ofN c 13 13 17))):=by kernel_rfl
theorem run10_14_14 (c:Nat→UInt8):(run1 Tryz.prog noCS (mask 163) 100 163 [.slice 5 0 14 1,.int .i64 14] [(5,.cells true (cellsB 14 c))] 6).map (·.1)=some (.agg (cellsU 5 (ofN c 14 14 17))):=by kernel_rfl
theorem run10_15_15 (c:Nat→UInt8):(run1 Tryz.prog noCS (mask 163) 100 163 [.slice 5 0 15 1,.int .i64 15] [(5,.cells true (cellsB 15 c))] 6).map (·.1)=some (.agg (cellsU 5 (ofN c 15 15 17))):=by kernel_rfl
theorem run10_16_16 (c:Nat→UInt8):(run1 Tryz.prog noCS (mask 163) 100 163 [.slice 5 0 16 1,.int .i64 16] [(5,.cells true (cellsB 16 c))] 6).map (·.1)=some (.agg (cellsU 5 (ofN c 16 16 17))):=by kernel_rfl
theorem run10_16_0 (c:Nat→UInt8):(run1 Tryz.prog noCS (mask 163) 100 163 [.slice 5 0 16 1,.int .i64 0] [(5,.cells true (cellsB 16 c))] 6).map (·.1)=some (.agg (cellsU 5 (ofN c 16 0 17))):=by kernel_rfl
def ok10 (m:Nat) (n:Int):Bool:=(decide (1≤m) && decide (m≤16) && decide (n=(m:Int))) || (Nat.beq m 16 && decide (n=0))
def k10 (f:(Nat→UInt8)→Nat→Nat→Nat→UInt64):List AVal→Option EffA
 | [.slice b o m 1,.int .i64 n]=>some (winE b o m fun W=>cond (shAllB W && ok10 m n) (some (.agg (cellsU 5 (f (gB W) m n.toNat)))) none)
 | _=>none
theorem callOk10:CSOk Tryz.prog (csOne 163 (k10 fun c m n=>ofN c m n 17)):=by
 refine csOne_ok fun args e h => ?_
 unfold k10 at h
 split at h
 ·rename_i b o m n
  cases h
  refine callOk_win (noCS_ok _) hmix rfl fun W v hWl hk hl => ?_
  cases hc:(shAllB W && ok10 m n) <;> rw [hc] at hk <;> simp only [cond_true,cond_false] at hk
  ·cases hk
  ·cases hk
   rw [Bool.and_eq_true] at hc
   have ec:=shAllB_ok hc.1
   have h3:=hc.2
   unfold ok10 at h3
   simp only [Bool.and_eq_true,Bool.or_eq_true,decide_eq_true_eq] at h3
   obtain ⟨g,hg⟩:∃ g,g=gB W:=⟨_,rfl⟩
   rw [hWl,← hg] at ec
   rw [← hg]
   have hv:ltV 0 (.agg (cellsU 5 (ofN g m n.toNat 17)))=true:=ltL_U ..
   refine ⟨hv,100,mask 163,?_⟩
   rw [gl,ec]
   rcases h3 with ⟨⟨m1,m2⟩,rfl⟩ | ⟨m1,rfl⟩
   ·have:m=1 ∨ m=2 ∨ m=3 ∨ m=4 ∨ m=5 ∨ m=6 ∨ m=7 ∨ m=8 ∨ m=9 ∨ m=10 ∨ m=11 ∨ m=12 ∨ m=13 ∨ m=14 ∨ m=15 ∨ m=16:=by omega
    rcases this with rfl | rfl | rfl | rfl | rfl | rfl | rfl | rfl | rfl | rfl | rfl | rfl | rfl | rfl | rfl | rfl
    ·exact run_of (run10_1_1 g)
    ·exact run_of (run10_2_2 g)
    ·exact run_of (run10_3_3 g)
    ·exact run_of (run10_4_4 g)
    ·exact run_of (run10_5_5 g)
    ·exact run_of (run10_6_6 g)
    ·exact run_of (run10_7_7 g)
    ·exact run_of (run10_8_8 g)
    ·exact run_of (run10_9_9 g)
    ·exact run_of (run10_10_10 g)
    ·exact run_of (run10_11_11 g)
    ·exact run_of (run10_12_12 g)
    ·exact run_of (run10_13_13 g)
    ·exact run_of (run10_14_14 g)
    ·exact run_of (run10_15_15 g)
    ·exact run_of (run10_16_16 g)
   ·have:=Nat.eq_of_beq_eq_true m1
    subst this
    exact run_of (run10_16_0 g)
 ·cases h
end Go.Proofs.YtanaackimepkdaaGreatDoor.Pol
namespace Go.Eng
open Go
def mvS (G b:Nat):AVal→AVal
 | .slice n o m e=>cond (Nat.beq n G) (.slice b o m e) (.slice n o m e)
 | v=>v
def okM (G:Nat):AVal→Bool
 | .slice n _ _ _=>Nat.beq n G
 | v=>ltS 0 v
theorem mv_ok {σ σ':Sig}{G b:Nat}{p:Place}(h1:σ G=some p) (h2:σ' b=some p){u:AVal}{v:Value}(ho:okM G u=true) (hv:VR σ u v):VR σ' (mvS G b u) v:=by
 cases u with
 | slice n o m e =>
  have:=Nat.eq_of_beq_eq_true ho
  subst this
  simp only [mvS,Nat.beq_refl,cond_true]
  cases hv with
  | slice hp hh hc hs =>
   rw [h1] at hp
   cases hp
   exact .slice h2 hh hc hs
 | _ =>
  simp only [okM] at ho
  simp only [mvS]
  exact hv.cut0 (ltV_of_ltS ho) σ'
theorem orel_mv {σ σ':Sig}{G b:Nat}{p:Place}(h1:σ G=some p) (h2:σ' b=some p){w:World}{q:Place}{c:List AVal}{ro:Bool}(ho:c.all (okM G)=true) (h:ORel σ w q (.cells ro c)):ORel σ' w q (.cells ro (c.map (mvS G b))):=by
 obtain ⟨c',t,fz,e1,e2,e3,e4⟩:=h
 refine ⟨c',t,fz,e1,e2,fun i v hi => ?_,e4⟩
 rw [List.getElem?_map] at hi
 cases hu:c[i]? with
 | none=>rw [hu] at hi; cases hi
 | some u =>
  rw [hu] at hi
  simp only [Option.map_some,Option.some.injEq] at hi
  subst hi
  obtain ⟨v',g1,g2⟩:=e3 i u hu
  exact ⟨v',g1,mv_ok h1 h2 (List.all_eq_true.1 ho u (List.mem_of_getElem? hu)) g2⟩
theorem callOk_closS {P:Program}{cs:CS}(hcs:CSOk P cs) (hm:P.follows .mixedOrders=true){nn F:Nat}{f:FuncId}{nb o m:Nat}{rest:List AVal}{g:FuncId}{ns:List Nat}{cs0 css:List (List AVal)}{H1:HL}{fr1:Nat}
  (h:run1 P cs nn F f (.slice P.globals.size o m 1::rest) [] (P.globals.size+1)=some (.fn g (ns.map fun n=>.ptr n 0),H1,fr1)) (ha:allV rest=true) (hnd:nodupB ns=true) (hl:css.length=ns.length) (hk:Nat.ble ns.length 8=true)
  (hc:∀ j n,ns[j]? = some n→aget H1 n=some (.cells false (cs0.getD j []))∧css.getD j []=(cs0.getD j []).map (mvS P.globals.size nb)∧(cs0.getD j []).all (okM P.globals.size)=true):CallOk P f (.slice nb o m 1::rest) (closE g css):=by
 intro σ args' H w base v0 H0 hla hg hH happ hfree
 have hnd:=nodupB_ok hnd
 have hk:=Nat.le_of_ble_eq_true hk
 simp only [closE,EffA.app,Option.some.injEq,Prod.mk.injEq] at happ
 obtain ⟨rfl,rfl⟩:=happ
 obtain ⟨v0,hv0,hvr⟩:=hla.get (i:=0) rfl
 obtain ⟨p0,hp0⟩:∃ p0,σ nb=some p0:=by
  cases hvr with
  | slice hp _ _ _=>exact ⟨_,hp⟩
 obtain ⟨σ0,hσ0⟩:∃ σ0:Sig,σ0=(cut P.globals.size σ).set P.globals.size p0:=⟨_,rfl⟩
 have sat0:σ0 P.globals.size=some p0:=by rw [hσ0]; exact Sig.set_same _ _ _
 have hg0:GRel P σ0:=fun g hgl=>by
  obtain ⟨sz,hs⟩:=hg g hgl
  refine ⟨sz,?_⟩
  rw [hσ0,Sig.set_other _ _ (by omega)]
  exact cut_of hs hgl
 have hfr0:Fresh σ0 (P.globals.size+1):=fun n hn=>by
  rw [hσ0,Sig.set_other _ _ (by omega)]
  exact cut_fresh _ _ n (by omega)
 have hl0:LR σ0 (.slice P.globals.size o m 1::rest) args':=by
  refine ⟨hla.1,fun i u u' h1 h2 => ?_⟩
  cases i with
  | zero =>
   simp only [List.getElem?_cons_zero,Option.some.injEq] at h1
   subst h1
   have:=hla.2 0 (.slice nb o m 1) u' rfl h2
   cases this with
   | slice hpb ho hcp hs =>
    rw [hp0] at hpb
    cases hpb
    exact .slice sat0 ho hcp hs
  | succ i =>
   rw [List.getElem?_cons_succ] at h1
   exact (hla.2 (i+1) u u' (by rw [List.getElem?_cons_succ]; exact h1) h2).cut0 (allV_mem ha u (List.mem_of_getElem? h1)) σ0
 obtain ⟨fn,c,hf,hb,hrun⟩:=run1_some h
 refine (runF_ok hcs hm hf hb hrun hl0 ⟨fun n o hn=>by simp [aget] at hn,fun n m o o' p q hn=>by simp [aget] at hn⟩ hg0 hfr0).mono fun r w' hrw => ?_
 obtain ⟨σ1,v',rfl,g1,g2,g3,g4⟩:=hrw
 have hold:∀ b,b < w.heap.size→w'.heap[b]? = w.heap[b]? ∧ ¬ Own σ1 (aget H1) b:=fun b hb=>g3.old b hb fun ⟨n,o,p,a1,_⟩=>by simp [aget] at a1
 have sat1:σ1 P.globals.size=some p0:=g3.ext _ _ sat0
 -- the places of the new names
 obtain ⟨σ2,hσ2⟩:∃ σ2:Sig,σ2=fun n=>if base≤n∧n < base+ns.length then σ1 (ns.getD (n - base) 0) else σ n:=⟨_,rfl⟩
 have at2:∀ j n,ns[j]? = some n→σ2 (base+j)=σ1 n:=fun j n hj=>by
  have hjl:j < ns.length:=(List.getElem?_eq_some_iff.1 hj).1
  rw [hσ2]
  simp only
  rw [if_pos ⟨by omega,by omega⟩,Nat.add_sub_cancel_left,List.getD_eq_getElem?_getD,hj]; rfl
 have off2:∀ n,¬ (base≤n∧n < base+ns.length)→σ2 n=σ n:=fun n hn=>by
  rw [hσ2]
  exact if_neg hn
 have le2:Sig.le σ σ2:=fun n p hp=>by
  rw [off2 n fun hn => ?_]
  ·exact hp
  ·have:=hfree (n - base) (by omega)
   rw [show base+(n - base)=n by omega,hp] at this
   cases this
 have obj1:∀ j n,ns[j]? = some n→∃ p,σ1 n=some p∧ORel σ1 w' p (.cells false (cs0.getD j []))∧w.heap.size≤p.blk:=fun j n hj=>by
  obtain ⟨p,hp,ho⟩:=g2.obj n _ (hc j n hj).1
  exact ⟨p,hp,ho,Nat.le_of_not_lt fun hlt=>(hold p.blk hlt).2 ⟨n,_,p,(hc j n hj).1,rfl,hp,rfl⟩⟩
 have us:∀ m x,(m,x) ∈ ((List.range css.length).map fun j=>(base+j,some (AObj.cells false (css.getD j []))))→∃ j,j < css.length∧m=base+j∧x=some (.cells false (css.getD j [])):=fun m x hx=>by
  obtain ⟨j,hj,e⟩:=List.mem_map.1 hx
  cases e
  exact ⟨j,List.mem_range.1 hj,rfl,rfl⟩
 have getH:∀ m o,aget (appU H ((List.range css.length).map fun j=>(base+j,some (AObj.cells false (css.getD j []))))) m=some o →
   (∃ j n,ns[j]? = some n∧m=base+j∧o=.cells false (css.getD j [])) ∨ (¬ (base≤m∧m < base+ns.length)∧aget H m=some o):=fun m o hm=>by
  rcases appU_get (us:=(List.range css.length).map fun j=>(base+j,some (AObj.cells false (css.getD j [])))) (H:=H) (fun m x hx=>by obtain ⟨j,_,_,rfl⟩:=us m x hx; rfl) m with ⟨o',a1,a2⟩ | ⟨a1,a2⟩
  ·rw [a2] at hm
   cases hm
   obtain ⟨j,hj,rfl,e⟩:=us m _ a1
   cases e
   exact .inl ⟨j,ns[j]'(by omega),List.getElem?_eq_getElem (by omega),rfl,rfl⟩
  ·rw [a2] at hm
   refine .inr ⟨fun hb => ?_,hm⟩
   exact a1 (some (.cells false (css.getD (m - base) []))) (List.mem_map.2 ⟨m - base,List.mem_range.2 (by omega),by rw [show base+(m - base)=m by omega]⟩)
 refine ⟨σ2,v',rfl,?_,⟨fun m o hm => ?_,fun m m' o o' p q hm hm' hp hq hpq => ?_⟩,⟨le2,g3.size,g3.os,g3.output,g3.tape,fun b hb hn=>⟨(hold b hb).1,?_⟩⟩,fun n hn=>off2 n (by omega)⟩
 ·cases g1 with
  | fn hs hcap =>
   refine .fn (by rw [← hs]; simp [hl]) fun i u u' hu hu' => ?_
   have hi:i < css.length:=by
    have:=(List.getElem?_eq_some_iff.1 hu).1
    simpa using this
   have e1:u=.ptr (base+i) 0:=by
    rw [List.getElem?_map,List.getElem?_range hi] at hu
    simpa using hu.symm
   subst e1
   have hn:ns[i]? = some (ns[i]'(by omega)):=List.getElem?_eq_getElem (by omega)
   have hv:=hcap i (.ptr (ns[i]'(by omega)) 0) u' (by rw [List.getElem?_map,hn]; rfl) hu'
   cases hv with
   | ptr hp=>exact .ptr (by rw [at2 i _ hn]; exact hp)
 ·rcases getH m o hm with ⟨j,n,hj,rfl,rfl⟩ | ⟨hb,ho⟩
  ·obtain ⟨p,hp,ho,_⟩:=obj1 j n hj
   refine ⟨p,by rw [at2 j n hj]; exact hp,?_⟩
   obtain ⟨q1,q2⟩:=(hc j n hj).2
   rw [q1]
   exact orel_mv sat1 (le2 nb p0 hp0) q2 ho
  ·obtain ⟨p,hp,hor⟩:=hH.obj m o ho
   exact ⟨p,le2 m p hp,hor.mono le2 (hold _ hor.lt).1⟩
 ·rcases getH m o hm with ⟨j,n,hj,rfl,rfl⟩ | ⟨hb,ho⟩ <;> rcases getH m' o' hm' with ⟨j',n',hj',rfl,rfl⟩ | ⟨hb',ho'⟩
  ·rw [at2 j n hj] at hp
   rw [at2 j' n' hj'] at hq
   rcases g2.inj n n' _ _ p q (hc j n hj).1 (hc j' n' hj').1 hp hq hpq with e | ⟨e,_⟩
   ·subst e
    have:j=j':=(List.getElem?_inj (List.getElem?_eq_some_iff.1 hj).1 hnd).1 (hj.trans hj'.symm)
    exact .inl (by rw [this])
   ·cases e
  ·exfalso
   obtain ⟨p1,hp1,_,hge⟩:=obj1 j n hj
   rw [at2 j n hj,hp1] at hp
   cases hp
   obtain ⟨q1,hq1,hor⟩:=hH.obj m' o' ho'
   rw [off2 m' hb',hq1] at hq
   cases hq
   have:=hor.lt
   omega
  ·exfalso
   obtain ⟨p1,hp1,_,hge⟩:=obj1 j' n' hj'
   rw [at2 j' n' hj',hp1] at hq
   cases hq
   obtain ⟨q1,hq1,hor⟩:=hH.obj m o ho
   rw [off2 m hb,hq1] at hp
   cases hp
   have:=hor.lt
   omega
  ·rw [off2 m hb] at hp
   rw [off2 m' hb'] at hq
   exact hH.inj m m' o o' p q ho ho' hp hq hpq
 ·rintro ⟨m,o,p,h1,h2,h3,h4⟩
  rcases getH m o h1 with ⟨j,n,hj,rfl,rfl⟩ | ⟨hb2,ho⟩
  ·obtain ⟨p1,hp1,_,hge⟩:=obj1 j n hj
   rw [at2 j n hj,hp1] at h3
   cases h3
   omega
  ·rw [off2 m hb2] at h3
   exact hn ⟨m,o,p,ho,h2,h3,h4⟩
end Go.Eng
namespace Go.Proofs.YtanaackimepkdaaGreatDoor.Pol
open Go Go.Eng
set_option maxRecDepth 1000000
def ansC (a b:Nat) (x:Option (AVal × HL × Nat)):Option (AVal × Option AObj × Option AObj):=
 match x with
 | some (v,H',_)=>some (v,aget H' a,aget H' b)
 | none=>none
theorem run11 (o m:Nat):ansC 6 14 (run1 Tryz.prog noCS (mask 164) 50 164 [.slice 5 o m 1,.int .i64 16] [] 6)=some (.fn 207 [.ptr 6 0,.ptr 14 0],some (.cells false [.slice 5 o m 1]),some (.cells false [.int .i64 16])):=by kernel_rfl
def k11:List AVal→Option EffA
 | [.slice b o m 1,.int .i64 16]=>some (closE 207 [[.slice b o m 1],[.int .i64 16]])
 | _=>none
theorem callOk11:CSOk Tryz.prog (csOne 164 k11):=by
 refine csOne_ok fun args e h => ?_
 unfold k11 at h
 split at h
 ·rename_i b o m
  cases h
  have r:=run11 o m
  unfold ansC at r
  split at r
  ·rename_i v H1 fr1 hr
   simp only [Option.some.injEq,Prod.mk.injEq] at r
   obtain ⟨rfl,h1,h2⟩:=r
   refine callOk_closS (ns:=[6,14]) (cs0:=[[.slice 5 o m 1],[.int .i64 16]]) (noCS_ok _) hmix (by rw [gl]; exact hr) rfl rfl rfl rfl fun j n hj => ?_
   rw [gl]
   match j,hj with
   | 0,hj=>cases hj; exact ⟨h1,rfl,rfl⟩
   | 1,hj=>cases hj; exact ⟨h2,rfl,rfl⟩
  ·cases r
 ·cases h
end Go.Proofs.YtanaackimepkdaaGreatDoor.Pol
namespace Go.Proofs.YtanaackimepkdaaGreatDoor.Pol
open Go Go.Eng
set_option maxRecDepth 1000000
structure Fq where
 of:(Nat→UInt8)→Nat→Nat→Nat→UInt64
 car:(Nat→UInt64)→Nat→UInt64
 mul:(Nat→UInt64)→(Nat→UInt64)→Nat→UInt64
 red:(Nat→UInt64)→Nat→UInt64
 carR:(Nat→UInt64)→Nat→UInt64
 mulR:(Nat→UInt64)→(Nat→UInt64)→Nat→UInt64
 whole:(Nat→UInt64)→Nat→UInt64
def q1 (k:Nat) (f:(Nat→UInt64)→Nat→UInt64):List AVal→Option EffA
 | [u]=>match aggU k u with
  | some a=>some (.pure (.agg (cellsU k (f a))))
  | _=>none
 | _=>none
def q2 (k:Nat) (f:(Nat→UInt64)→(Nat→UInt64)→Nat→UInt64):List AVal→Option EffA
 | [u,v]=>match aggU k u,aggU k v with
  | some a,some b=>some (.pure (.agg (cellsU k (f a b))))
  | _,_=>none
 | _=>none
def nq (θ:Fq):CS:=csAlt (csOne 163 (k10 θ.of)) (csAlt (csOne 165 (q1 5 θ.car)) (csAlt (csOne 166 (q2 5 θ.mul)) (csAlt (csOne 167 (q1 5 θ.red)) (csAlt (csOne 164 k11) (csAlt (csOne 188 (q1 18 θ.carR)) (csAlt (csOne 187 (q2 18 θ.mulR)) (csOne 189 (q1 18 θ.whole))))))))
def τr:Fp:=⟨carF,carR⟩
def mulF (x y:Nat→UInt64):Nat→UInt64:=carF (gU (cellsU 5 fun j=>zS x y j 5))
def redF (x:Nat→UInt64):Nat→UInt64:=cond (decide (0 < redC (car2 τr x))) (red5 (car2 τr x)) (car2 τr x)
def mulRF (a b:Nat→UInt64):Nat→UInt64:=carR (gU (cellsU 18 (prR a b)))
def wholeF (x:Nat→UInt64):Nat→UInt64:=cond (decide (4≤wh5 (whG τr x) 16)) (wh3 (whG τr x)) (whG τr x)
def θr:Fq:=⟨fun c m n=>ofN c m n 17,carF,mulF,redF,carR,mulRF,wholeF⟩
theorem q1_ok {k f:Nat}{g:(Nat→UInt64)→Nat→UInt64}(h:∀ a,CallOk Tryz.prog f [.agg (cellsU k a)] (.pure (.agg (cellsU k (g a))))):CSOk Tryz.prog (csOne f (q1 k g)):=by
 refine csOne_ok fun args e he => ?_
 unfold q1 at he
 split at he
 ·split at he
  ·rename_i a h1
   cases he
   rw [aggU_ok h1]
   exact h a
  ·cases he
 ·cases he
theorem q2_ok {k f:Nat}{g:(Nat→UInt64)→(Nat→UInt64)→Nat→UInt64}(h:∀ a b,CallOk Tryz.prog f [.agg (cellsU k a),.agg (cellsU k b)] (.pure (.agg (cellsU k (g a b))))):CSOk Tryz.prog (csOne f (q2 k g)):=by
 refine csOne_ok fun args e he => ?_
 unfold q2 at he
 split at he
 ·split at he
  ·rename_i a b h1 h2
   cases he
   rw [aggU_ok h1,aggU_ok h2]
   exact h a b
  ·cases he
 ·cases he
theorem allU (k:Nat) (a:Nat→UInt64):allV [.agg (cellsU k a)]=true:=by
 have:ltV 0 (.agg (cellsU k a))=true:=ltL_U ..
 simp only [allV,this,cond_true]
theorem allU2 (k:Nat) (a b:Nat→UInt64):allV [.agg (cellsU k a),.agg (cellsU k b)]=true:=by
 have h1:ltV 0 (.agg (cellsU k a))=true:=ltL_U ..
 have h2:ltV 0 (.agg (cellsU k b))=true:=ltL_U ..
 simp only [allV,h1,h2,cond_true]
theorem nc_ok:CSOk Tryz.prog (nc τr):=by
 have h:nc τr=csAlt (csOne 165 (q1 5 carF)) (csOne 188 (q1 18 carR)):=rfl
 rw [h]
 exact csAlt_ok (q1_ok fun a=>callOk_val (noCS_ok _) hmix (run12 a) (allU ..) (ltL_U ..)) (q1_ok fun a=>callOk_val (noCS_ok _) hmix (run16 a) (allU ..) (ltL_U ..))
theorem ok14 (a:Nat→UInt64):CallOk Tryz.prog 167 [.agg (cellsU 5 a)] (.pure (.agg (cellsU 5 (redF a)))):=by
 unfold redF
 cases hc:decide (0 < redC (car2 τr a)) with
 | true=>exact callOk_val nc_ok hmix (ansO_run (noPS_ok _) (run14t τr a) (by simp only [allT,hc,cond_true])) (allU ..) (ltL_U ..)
 | false=>exact callOk_val nc_ok hmix (ansO_run (noPS_ok _) (run14f τr a) (by simp only [allT,hc,Bool.not_false,cond_true])) (allU ..) (ltL_U ..)
theorem ok17 (a:Nat→UInt64):CallOk Tryz.prog 189 [.agg (cellsU 18 a)] (.pure (.agg (cellsU 18 (wholeF a)))):=by
 unfold wholeF
 cases hc:decide (4≤wh5 (whG τr a) 16) with
 | true=>exact callOk_val nc_ok hmix (ansO_run (noPS_ok _) (run17t τr a) (by simp only [allT,hc,cond_true])) (allU ..) (ltL_U ..)
 | false=>exact callOk_val nc_ok hmix (ansO_run (noPS_ok _) (run17f τr a) (by simp only [allT,hc,Bool.not_false,cond_true])) (allU ..) (ltL_U ..)
theorem nq_ok:CSOk Tryz.prog (nq θr):=
 csAlt_ok callOk10 (csAlt_ok (q1_ok fun a=>callOk_val (noCS_ok _) hmix (run12 a) (allU ..) (ltL_U ..)) (csAlt_ok (q2_ok fun a b=>callOk_val nc_ok hmix (run13 τr a b) (allU2 ..) (ltL_U ..)) (csAlt_ok (q1_ok ok14) (csAlt_ok callOk11
  (csAlt_ok (q1_ok fun a=>callOk_val (noCS_ok _) hmix (run16 a) (allU ..) (ltL_U ..)) (csAlt_ok (q2_ok fun a b=>callOk_val nc_ok hmix (run15 τr a b) (allU2 ..) (ltL_U ..)) (q1_ok ok17)))))))
end Go.Proofs.YtanaackimepkdaaGreatDoor.Pol
namespace Go.Proofs.YtanaackimepkdaaGreatDoor.Pol
open Go Go.Eng
set_option maxRecDepth 1000000
def blkOf:Code→Code
 | .block _ b=>b
 | c=>c
def opsOf:Code→Array Oper
 | .region _ ops _=>ops
 | _ => #[]
noncomputable def p18:List Code:=pieces (bodyOf Tryz.f207)
noncomputable def LB:Code:=loopOf (p18.getD 1 .skip)
noncomputable def pL:List Code:=pieces LB
noncomputable def B1:Code:=blkOf (pL.getD 2 .skip)
noncomputable def pB:List Code:=pieces B1
noncomputable def ops4:Array Oper:=opsOf (pB.getD 1 .skip)
def Hc (s:List UInt8):HL:=[(189,.cells true (s.map .u8)),(197,.cells true [.slice 189 0 s.length 1]),(198,.cells true [.int .i64 16])]
def Tc:TL:=[(1,.ptr 197 0),(2,.ptr 198 0)]
def T0 (i:Nat):TL:=[(1,.ptr 197 0),(2,.ptr 198 0),(4,.int .i64 (i:Int))]
def Ty (i m:Nat):TL:=[(1,.ptr 197 0),(2,.ptr 198 0),(4,.int .i64 (i:Int)),(5,.int .i64 (m:Int))]
def T2 (i:Nat) (b:Bool):TL:=[(29,.bool b),(1,.ptr 197 0),(2,.ptr 198 0),(4,.int .i64 (i:Int)),(30,.bool (!b))]
noncomputable def midL:List Oper:=(ops4.toList.drop 1).take 9
noncomputable def sg (sy:List Nat) (os:List Bool) (vs:List AVal) (Ts T:TL) (H:HL) (l:List Code):Option (XA × TL × HL × List Bool):=endS Ts (evSO Tryz.prog noPS noCS sy Tryz.f207.ntmps (mask 207) 100 205 l ⟨T,H,205⟩ ⟨os,vs,[]⟩)
noncomputable def rC:Code:=.cond (.tmp 30) .ret .skip
end Go.Proofs.YtanaackimepkdaaGreatDoor.Pol
namespace Go.Proofs.YtanaackimepkdaaGreatDoor.Pol
open Go Go.Eng
set_option maxRecDepth 1000000
theorem p18_eq:p18=[p18.getD 0 .skip,.block 0 (.loop LB)]:=by kernel_rfl
theorem pL_eq:pL=pL.take 2++[.block 1 B1,pL.getD 3 .skip]:=by kernel_rfl
theorem pB_eq:pB=[pB.getD 0 .skip,.region 4 ops4 false,rC]:=by kernel_rfl
section
variable (s:List UInt8) (i j m e:Nat)
theorem s0:sg [] [] [] (T0 0) Tc (Hc s) [p18.getD 0 .skip]=some (.normal,T0 0,Hc s,[]):=by kernel_rfl
theorem h1:sg [9] [true] [] (T0 i) (T0 i) (Hc s) (pL.take 2)=some (.normal,T0 i,Hc s,[decide ((i:Int) < (s.length:Int))]):=by kernel_rfl
theorem h0:sg [9] [false] [] (T0 i) (T0 i) (Hc s) (pL.take 2)=some (.exit 0,T0 i,Hc s,[!(decide ((i:Int) < (s.length:Int)))]):=by kernel_rfl
theorem s3:sg [16,200018] [] [.int .i64 (m:Int)] (Ty i m) (T0 i) (Hc s) [pB.getD 0 .skip]=some (.normal,Ty i m,Hc s,[eqS (.int .i64 (if (((s.length:Int).toNat - (i:Int).toNat:Nat):Int) < 16 then (((s.length:Int).toNat - (i:Int).toNat:Nat):Int) else 16)) (.int .i64 (m:Int)),decide (0≤(i:Int)) && (decide ((i:Int)≤(s.length:Int)) && decide ((s.length:Int)≤(s.length:Int)))]):=by kernel_rfl
def Tmid (s:List UInt8) (i m e:Nat):TL:=[(1,.ptr 197 0),(2,.ptr 198 0),(4,.int .i64 (i:Int)),(5,.int .i64 (m:Int)),(20,.slice 189 0 s.length 1),(21,.int .i64 (i:Int)),(22,.int .i64 (i:Int)),(23,.int .i64 (m:Int)),(24,.int .i64 (e:Int)),(25,.int .i64 (i:Int)),(26,.int .i64 (m:Int)),(27,.int .i64 (e:Int)),(28,.slice 189 i m 1)]
def obMid (s:List UInt8) (i m e:Nat):List Bool:=[eqS (.slice 189 (0+(i:Int).toNat * 1) ((e:Int).toNat - (i:Int).toNat) 1) (.slice 189 i m 1),decide (0≤(i:Int)) && (decide ((i:Int)≤(e:Int)) && (decide ((e:Int)≤(e:Int)) && decide ((e:Int)≤(s.length:Int)))),eqS (.int .i64 (IntKind.wrap .i64 ((i:Int)+(m:Int)))) (.int .i64 (e:Int)),eqS (.int .i64 (IntKind.wrap .i64 ((i:Int)+(m:Int)))) (.int .i64 (e:Int))]
theorem mid4:runS Tryz.prog noPS noCS [28,200024,200027,200028] Tryz.f207.ntmps ops4 midL 213 (Ty i m) (Hc s) ⟨[],[.int .i64 (e:Int),.int .i64 (e:Int),.slice 189 i m 1],[]⟩=some (Tmid s i m e,Hc s,⟨[],[],obMid s i m e⟩):=by kernel_rfl
theorem cT1:sg [] [] [] (T0 i) (T2 i true) (Hc s) [rC]=some (.normal,T0 i,Hc s,[]):=by kernel_rfl
theorem cT2:sg [200012] [] [.int .i64 (j:Int)] (T0 j) (T0 i) (Hc s) [pL.getD 3 .skip]=some (.normal,T0 j,Hc s,[eqS (.int .i64 (IntKind.wrap .i64 ((i:Int)+16))) (.int .i64 (j:Int))]):=by kernel_rfl
theorem cF:sg [] [] [] (T2 i false) (T2 i false) [] [rC]=some (.ret,T2 i false,[],[]):=by kernel_rfl
theorem post4 (b:Bool) (Hx:HL):runA Tryz.prog noCS Tryz.f207.ntmps ops4 (ops4.toList.drop 11) 205 ((29,.bool b)::T0 i) Hx=some (T2 i b,Hx):=by kernel_rfl
end
theorem split4:∃ o0 oc:Oper,ops4.toList=o0::(midL++oc::ops4.toList.drop 11)∧o0.op=.move (.tmp 0)∧o0.guard=none∧o0.dst=some 19∧oc.op=.call ⟨.value (.tmp 19),#[.tmp 28],#[50]⟩∧oc.guard=none∧oc.dst=some 29∧pinO [0,1,2] o0=true∧pinO [0,1,2] oc=true∧pinL (19::[0,1,2]) midL=true:=
 ⟨ops4[0]!,ops4[10]!,by kernel_rfl,by kernel_rfl,by kernel_rfl,by kernel_rfl,by kernel_rfl,by kernel_rfl,by kernel_rfl,by kernel_rfl,by kernel_rfl,by kernel_rfl⟩
theorem nt18:Tryz.f207.ntmps=31:=by kernel_rfl
theorem lt19:19 < Tryz.f207.ntmps:=by rw [nt18]; decide
theorem lt29:29 < Tryz.f207.ntmps:=by rw [nt18]; decide
end Go.Proofs.YtanaackimepkdaaGreatDoor.Pol
namespace Go.Proofs.YtanaackimepkdaaGreatDoor.Pol
open Go Go.Eng
set_option maxRecDepth 1000000
theorem aget_cases {α:Type}{k s:Nat}{v u:α}{l:List (Nat × α)}(h:aget ((k,v)::l) s=some u):(s=k∧u=v) ∨ aget l s=some u:=by
 simp only [aget] at h
 rcases beq_cases k s with ⟨e,hb⟩ | ⟨_,hb⟩ <;> rw [hb] at h <;> simp only [cond_true,cond_false] at h
 ·cases h; exact .inl ⟨e.symm,rfl⟩
 ·exact .inr h
def capS:List AVal:=[.ptr 197 0,.ptr 198 0]
def pin3 (l:Nat) (u0 u1:Value):List (Tmp × Value):=[(0,.func (.yield l) #[] #[]),(1,u0),(2,u1)]
def mC (s:List UInt8) (k:Nat):Nat:=if s.length - 16 * k < 16 then s.length - 16 * k else 16
def X (s:List UInt8) (k:Nat):List AVal:=[.slice 189 (16 * k) (mC s k) 1]
def nC (s:List UInt8):Nat:=(s.length+15) / 16
abbrev ITs (s:List UInt8) (l:Nat) (u0 u1:Value) (T:TL) (a:Act) (w:World):Prop:=IT Tryz.prog Tryz.f207.ntmps 205 (Hc s) capS #[u0,u1] (pin3 l u0 u1) T a w
theorem roS (s:List UInt8):∀ m o,aget (Hc s) m=some o→o.ro=true:=fun m o h=>by
 unfold Hc at h
 rcases aget_cases h with ⟨_,rfl⟩ | h
 ·rfl
 rcases aget_cases h with ⟨_,rfl⟩ | h
 ·rfl
 rcases aget_cases h with ⟨_,rfl⟩ | h
 ·rfl
 simp [aget] at h
theorem gl200:Tryz.prog.globals.size≤205:=by rw [gl]; omega
theorem hlS (s:List UInt8):ltH 205 (Hc s)=true:=by
 unfold Hc
 simp only [ltH,ltLm]
 rfl
theorem seg {s:List UInt8}{l:Nat}{u0 u1:Value}{J:World→Prop}(hJ:∀ A B,J A→Grown A B→J B){sy:List Nat}{os:List Bool}{vs:List AVal}{Ts T Tq:TL}{cl:List Code}{x:XA}{ob:List Bool}
  (h:sg sy os vs Ts T (Hc s) cl=some (x,Tq,Hc s,ob)) (ha:allT ob=true) (hTl:ltT 205 Tq=true) (hp:pinS [0,1,2] cl=true) {a:Act} {w:World} {Q:Exit→Act→World→Prop} (hi:ITs s l u0 u1 T a w) (hj:J w)
  (hQ:∀ a' w',ITs s l u0 u1 Tq a' w'→J w'→Q x.out a' w'):wpS none 0 Tryz.prog cl Q a w:=
 itSegO (noPS_ok _) (noCS_ok _) hmix hJ (roS s) (hlS s) rfl gl200 h ha hTl (pin:=pin3 l u0 u1) hp hi hj hQ
theorem ptr_inv {σ:Sig}{n off:Nat}{v:Value}(h:VR σ (.ptr n off) v):∃ p,σ n=some p∧v=.pointer (some ⟨p.blk,p.sh+off,none⟩):=by
 cases h with
 | ptr h=>exact ⟨_,h,rfl⟩
theorem slice_inv {σ:Sig}{n off len esz:Nat}{v:Value}(h:VR σ (.slice n off len esz) v):∃ p o cap,σ n=some p∧v=.slice (some ⟨p.blk,o,none⟩) len cap∧(len=0 ∨ o=p.sh+off):=by
 cases h with
 | slice h ho _ _=>exact ⟨_,_,_,h,rfl,ho⟩
theorem same_slice {s:List UInt8}{i m:Nat}{lb:Array Value}(hs:0 < s.length):∀ σ σ1 w xs,HRel σ (aget (Hc s)) w→HRel σ1 (aget (Hc s)) w→LR σ capS lb→LR σ1 capS lb→LR σ [.slice 189 i m 1] xs→LR σ1 [.slice 189 i m 1] xs:=by
 intro σ σ1 w xs hh hh1 hl hl1 hx
 obtain ⟨a0,a1,rfl,v0,_⟩:=LR.inv2 hl
 obtain ⟨b0,b1,hb,w0,_⟩:=LR.inv2 hl1
 simp only [Array.mk.injEq,List.cons.injEq,and_true] at hb
 obtain ⟨rfl,rfl⟩:=hb
 have g192:aget (Hc s) 197=some (.cells true [.slice 189 0 s.length 1]):=rfl
 have g184:aget (Hc s) 189=some (.cells true (s.map .u8)):=rfl
 obtain ⟨p,hp,c,t,fz,c1,c2,c3,_⟩:=hh.obj 197 _ g192
 obtain ⟨q,hq,d,t',fz',d1,d2,d3,_⟩:=hh1.obj 197 _ g192
 obtain ⟨P,hP,e,t2,fz2,e1,e2,_,_⟩:=hh.obj 189 _ g184
 obtain ⟨R,hR,f,t3,fz3,f1,f2,_,_⟩:=hh1.obj 189 _ g184
 obtain ⟨p',hp',k1⟩:=ptr_inv v0
 obtain ⟨q',hq',k2⟩:=ptr_inv w0
 rw [hp] at hp'
 rw [hq] at hq'
 cases hp'
 cases hq'
 rw [k1] at k2
 simp only [Value.pointer.injEq,Option.some.injEq,Addr.mk.injEq,and_true,Nat.add_zero] at k2
 obtain ⟨v1,j1,j2⟩:=c3 0 _ rfl
 obtain ⟨v2,j3,j4⟩:=d3 0 _ rfl
 rw [← k2.1,c1] at d1
 simp only [Option.some.injEq,Obj.cells.injEq] at d1
 obtain ⟨rfl,rfl,rfl⟩:=d1
 rw [← k2.2,j1] at j3
 cases j3
 obtain ⟨P',o1,cap1,hP',g1,g2⟩:=slice_inv j2
 obtain ⟨R',o2,cap2,hR',g3,g4⟩:=slice_inv j4
 rw [hP] at hP'
 rw [hR] at hR'
 cases hP'
 cases hR'
 rw [g1] at g3
 simp only [Value.slice.injEq,Option.some.injEq,Addr.mk.injEq,and_true,true_and] at g3
 obtain ⟨⟨g5,g6⟩,_⟩:=g3
 have hPR:P.sh=R.sh∧P.sz=R.sz:=by
  rw [← g5,e1] at f1
  simp only [Option.some.injEq,Obj.cells.injEq] at f1
  obtain ⟨rfl,_,_⟩:=f1
  exact ⟨by omega,by omega⟩
 refine ⟨hx.1,fun k u u' h1 h2 => ?_⟩
 have hv:=hx.2 k u u' h1 h2
 cases k with
 | zero =>
  simp only [List.getElem?_cons_zero,Option.some.injEq] at h1
  subst h1
  cases hv with
  | slice k1 ho hc hs =>
   rw [hP] at k1
   cases k1
   rw [g5]
   rw [hPR.1] at ho
   rw [hPR.2] at hs
   exact .slice hR ho hc hs
 | succ k=>simp at h1
section
variable {s:List UInt8}{l:Nat}{u0 u1:Value}{J:Nat→World→Prop}{Jx:World→Prop}
def Prem (s:List UInt8) (l:Nat) (u0 u1:Value) (J:Nat→World→Prop) (Jx:World→Prop):Prop:=
 ∀ i W1,J i W1→i≤nC s∧∃ σ1,GRel Tryz.prog σ1∧HRel σ1 (aget (Hc s)) W1∧LR σ1 capS #[u0,u1]∧((i < nC s ∨ true=false)→∀ xs,LR σ1 (X s i) xs→∀ m,YieldAt Fence.wide m Tryz.prog l xs W1 fun e W'=>(e=.returned (.bool true)∧J (i+1) W') ∨ (e=.returned (.bool false)∧Jx W'))
theorem carry {i m e:Nat}:∀ σ1,LR σ1 capS #[u0,u1]→∀ t v,aget (T0 i) t=some v→t ≠ 19∧t ≠ 29∧((aget (Tmid s i m e) t=some v∧ltV 0 v=true) ∨ ∃ u,(t,u) ∈ pin3 l u0 u1∧VR σ1 v u):=fun σ1 h t v hs=>by
 obtain ⟨a0,a1,e,h0,h1⟩:=LR.inv2 h
 simp only [Array.mk.injEq,List.cons.injEq,and_true] at e
 obtain ⟨rfl,rfl⟩:=e
 unfold T0 at hs
 rcases aget_cases hs with ⟨rfl,rfl⟩ | hs
 ·exact ⟨by decide,by decide,.inr ⟨_,by simp [pin3],h0⟩⟩
 rcases aget_cases hs with ⟨rfl,rfl⟩ | hs
 ·exact ⟨by decide,by decide,.inr ⟨_,by simp [pin3],h1⟩⟩
 rcases aget_cases hs with ⟨rfl,rfl⟩ | hs
 ·exact ⟨by decide,by decide,.inl ⟨rfl,rfl⟩⟩
 simp [aget] at hs
theorem eqI {a b:Int}(h:a=b):eqS (.int .i64 a) (.int .i64 b)=true:=by subst h; simp [eqS]
theorem rounds (hJ:∀ i A B,J i A→Grown A B→J i B) (hJx:∀ A B,Jx A→Grown A B→Jx B) (hY:Prem s l u0 u1 J Jx) (hL:s.length < 1000000000000){Q:Exit→Act→World→Prop}
  (hret:∀ a w,a.defers=[]→Jx w→Q .ret a w) (hex:∀ a w,a.defers=[]→J (nC s) w→Q (.exit 0) a w) :
  ∀ (r k:Nat) (a:Act) (w:World),k+r=nC s→ITs s l u0 u1 (T0 (16 * k)) a w→J k w→Code.roundsIn (Fw none) 0 Tryz.prog LB Q (r+1) a w
 | 0,k,a,w,hk,hi,hw=>by
  rw [roundsIn_succ]
  refine wpS_pieces LB ?_
  show wpS none 0 Tryz.prog pL _ a w
  rw [pL_eq]
  have hge:s.length≤16 * k:=by unfold nC at hk; omega
  refine wpS_app' _ [_,_] (seg (J:=J k) (hJ _) (h0 s (16 * k)) (by simp only [allT,decide_eq_false (show ¬ (((16 * k:Nat):Int) < (s.length:Int)) by omega),Bool.not_false,cond_true]) rfl (by kernel_rfl) hi hw fun a' w' hi' hw' => ?_)
  have e:k=nC s:=by omega
  subst e
  obtain ⟨σ,hr,_⟩:=hi'
  exact hex a' w' hr.defers hw'
 | r+1,k,a,w,hk,hi,hw=>by
  have hkN:k < nC s:=by omega
  have hlt:16 * k < s.length:=by unfold nC at hkN; omega
  have hm1:16 * k+mC s k≤s.length:=by unfold mC; split <;> omega
  have hm0:0 < mC s k:=by unfold mC; split <;> omega
  have hm16:mC s k≤16:=by unfold mC; split <;> omega
  rw [roundsIn_succ]
  refine wpS_pieces LB ?_
  show wpS none 0 Tryz.prog pL _ a w
  rw [pL_eq]
  refine wpS_app' _ [_,_] (seg (J:=J k) (hJ _) (h1 s (16 * k)) (by simp only [allT,decide_eq_true (show ((16 * k:Nat):Int) < (s.length:Int) by omega),cond_true]) rfl (by kernel_rfl) hi hw fun a1 w1 hi1 hw1 => ?_)
  show (Code.block 1 B1).wpIn (Fw none) 0 Tryz.prog _ a1 w1
  refine wpIn_block (wpS_pieces B1 ?_)
  show wpS none 0 Tryz.prog pB _ a1 w1
  rw [pB_eq]
  have o1:eqS (.int .i64 (if (((s.length:Int).toNat - ((16 * k:Nat):Int).toNat:Nat):Int) < 16 then (((s.length:Int).toNat - ((16 * k:Nat):Int).toNat:Nat):Int) else 16)) (.int .i64 (mC s k:Int))=true:=eqI (by
   rw [Int.toNat_natCast,Int.toNat_natCast]
   unfold mC
   by_cases h:s.length - 16 * k < 16
   ·rw [if_pos h,if_pos (by omega)]
   ·rw [if_neg h,if_neg (by omega)]; rfl)
  have o2:(decide (0≤((16 * k:Nat):Int)) && (decide (((16 * k:Nat):Int)≤(s.length:Int)) && decide ((s.length:Int)≤(s.length:Int))))=true:=by
   simp only [Bool.and_eq_true,decide_eq_true_eq]; omega
  refine wpS_app' [_] [_,_] (seg (J:=J k) (hJ _) (s3 s (16 * k) (mC s k)) (by simp only [allT,o1,o2,cond_true]) rfl (by kernel_rfl) hi1 hw1 fun a2 w2 hi2 hw2 => ?_)
  show (Code.region 4 ops4 false).wpIn (Fw none) 0 Tryz.prog _ a2 w2
  have hob:allT (obMid s (16 * k) (mC s k) (16 * k+mC s k))=true:=by
   have g1:eqS (.slice 189 (0+((16 * k:Nat):Int).toNat * 1) (((16 * k+mC s k:Nat):Int).toNat - ((16 * k:Nat):Int).toNat) 1) (.slice 189 (16 * k) (mC s k) 1)=true:=by
    rw [Int.toNat_natCast,Int.toNat_natCast]
    have e1:0+16 * k * 1=16 * k:=by omega
    have e2:16 * k+mC s k - 16 * k=mC s k:=by omega
    rw [e1,e2]
    simp [eqS]
   have g2:(decide (0≤((16 * k:Nat):Int)) && (decide (((16 * k:Nat):Int)≤((16 * k+mC s k:Nat):Int)) && (decide (((16 * k+mC s k:Nat):Int)≤((16 * k+mC s k:Nat):Int)) && decide (((16 * k+mC s k:Nat):Int)≤(s.length:Int)))))=true:=by
    simp only [Bool.and_eq_true,decide_eq_true_eq]; omega
   have g3:eqS (.int .i64 (IntKind.wrap .i64 (((16 * k:Nat):Int)+(mC s k:Int)))) (.int .i64 ((16 * k+mC s k:Nat):Int))=true:=eqI (by rw [wrapI _ (by omega) (by omega)]; omega)
   unfold obMid
   simp only [allT,g1,g2,g3,cond_true]
  have hmid:=(runS_ok (noPS_ok _) (mid4 s (16 * k) (mC s k) (16 * k+mC s k)) hob).1
  obtain ⟨o0,oc,hops,e1,e2,e3,e4,e5,e6,e7,e8,e9⟩:=split4
  refine itYield (cs:=noCS) (cap:=capS) (lb:=#[u0,u1]) (pin:=pin3 l u0 u1) (l:=l) (J:=J k) (J':=J (k+1)) (Jx:=Jx) (noCS_ok _) (hJ _) (hJ _) hJx (roS s) (hlS s) rfl gl200 (List.mem_cons_self ..) hops e1 e2 e3 e4 e5 e6 rfl e7 e8 e9 (show pinL [0,1,2] (ops4.toList.drop 11)=true by kernel_rfl) lt19 lt29 (by rfl) hmid (by rfl)
   (T0 (16 * k)) rfl carry (T2 (16 * k)) (fun b Hx=>post4 (16 * k) b Hx) (fun b=>rfl) hi2 hw2 ?_ (.inr fun σ σ1 w xs g1 g2 g3 g4 g5=>same_slice (by omega) σ σ1 w xs g1 g2 g3 g4 g5) ?_ ?_ ?_
  ·intro W hW
   obtain ⟨_,σ1,g1,g2,g3,g4⟩:=hY _ W hW
   exact ⟨σ1,g1,g2,g3,fun xs hxs m=>g4 (.inl hkN) xs hxs m⟩
  ·intro W hW
   obtain ⟨_,σ1,g1,g2,g3,g4⟩:=hY _ W hW
   exact ⟨σ1,g1,g2,g3⟩
  ·intro a3 w3 hi3 hw3
   have o3:eqS (.int .i64 (IntKind.wrap .i64 (((16 * k:Nat):Int)+16))) (.int .i64 ((16 * (k+1):Nat):Int))=true:=eqI (by rw [wrapI _ (by omega) (by omega)]; omega)
   refine seg (J:=J (k+1)) (hJ _) (cT1 s (16 * k)) rfl rfl (by kernel_rfl) hi3 hw3 fun a4 w4 hi4 hw4 => ?_
   refine seg (J:=J (k+1)) (hJ _) (cT2 s (16 * k) (16 * (k+1))) (by simp only [allT,o3,cond_true]) rfl (by kernel_rfl) hi4 hw4 fun a5 w5 hi5 hw5 => ?_
   exact rounds hJ hJx hY hL hret hex r (k+1) a5 w5 (by omega) hi5 hw5
  ·intro a3 w3 hi3 hw3
   refine itSegO (noPS_ok _) (noCS_ok _) hmix (J:=Jx) hJx (fun m o h=>by simp [aget] at h) rfl rfl gl200 (cF (16 * k)) rfl rfl (pin:=pin3 l u0 u1) (show pinS [0,1,2] [rC]=true by kernel_rfl) hi3 hw3 fun a4 w4 hi4 hw4 => ?_
   obtain ⟨σ,hr,_⟩:=hi4
   exact hret a4 w4 hr.defers hw4
end
theorem at3 {y u0 u1:Value}{B:Array Value}{s:Nat}{v:Value}(h:(#[y,u0,u1]:Array Value)[s]? = some v):(#[y] ++ #[u0,u1]++B)[s]? = some v:=by
 have e:(#[y] ++ #[u0,u1]:Array Value) = #[y,u0,u1]:=rfl
 rw [e,Array.getElem?_append_left (Array.getElem?_eq_some_iff.1 h).1]
 exact h
theorem res18 (tmps:Array Value) (w:World):(results Tryz.f207 tmps).run Tryz.prog w=.ok (.tuple #[]) w:=by
 have hr:Tryz.f207.results = #[]:=by kernel_rfl
 unfold results
 rw [hr]
 simp
theorem chunk_it {s:List UInt8}(hL:s.length < 1000000000000):ItOk Tryz.prog 207 capS (Hc s) (X s) (nC s) true:=by
 intro lb l J Jx W hJ hJx hY h0
 obtain ⟨_,σ0,g1,g2,g3,_⟩:=hY 0 W h0
 obtain ⟨u0,u1,rfl,v0,v1⟩:=LR.inv2 g3
 refine (callsIn_wide (n:=0)).1 (callsIn_of_wp_marks (F:=Fence.wide) (fn:=Tryz.f207) (c:=bodyOf Tryz.f207) (by kernel_rfl) (by kernel_rfl) trivial ?_ rfl)
 refine wpS_pieces (ro:=none) (n:=0) _ ?_
 show wpS none 0 Tryz.prog p18 _ _ W
 rw [p18_eq]
 have hsz:Tryz.f207.ntmps=31:=nt18
 have start:ITs s l u0 u1 Tc { tmps:=#[.func (.yield l) #[] #[]] ++ #[u0,u1]++Array.replicate (Tryz.f207.ntmps - (#[.func (.yield l) #[] #[]] ++ #[u0,u1]:Array Value).size) undef,defers:=[] } W:=by
  refine ⟨Go.Eng.cut 205 σ0,⟨(RRel.cut (m:=205) (T:=Tc) ⟨fun s v hs => ?_,by simp [bare,hsz],rfl,g2,g1⟩ rfl (hlS s) gl200),rfl,fun s v hs => ?_⟩,cut_fresh _ _,ltM_ok rfl g3⟩
  ·unfold Tc at hs
   rcases aget_cases hs with ⟨rfl,rfl⟩ | hs
   ·exact ⟨u0,at3 rfl,v0⟩
   rcases aget_cases hs with ⟨rfl,rfl⟩ | hs
   ·exact ⟨u1,at3 rfl,v1⟩
   simp [aget] at hs
  ·simp only [pin3,List.mem_cons,Prod.mk.injEq,List.mem_nil_iff,or_false] at hs
   rcases hs with ⟨rfl,rfl⟩ | ⟨rfl,rfl⟩ | ⟨rfl,rfl⟩ <;> exact at3 rfl
 refine wpS_app' [_] [_] (seg (J:=J 0) (hJ 0) (s0 s) rfl rfl (by kernel_rfl) start h0 fun a w hi hw => ?_)
 show (Code.block 0 (.loop LB)).wpIn (Fw none) 0 Tryz.prog _ a w
 refine wpIn_block (wpIn_loop_rounds (nC s+1) (rounds hJ hJx hY hL (fun a w hd hx => ?_) (fun a w hd hx => ?_) (nC s) 0 a w (by omega) hi hw))
 ·show LeavesInM Fence.wide 0 Tryz.prog Tryz.f207 a.tmps _ a.defers .returning w
  rw [hd]
  exact ⟨_,res18 _ _,⟨_,rfl⟩,.inr hx⟩
 ·show LeavesInM Fence.wide 0 Tryz.prog Tryz.f207 a.tmps _ a.defers .returning w
  rw [hd]
  exact ⟨_,res18 _ _,⟨_,rfl⟩,.inl ⟨rfl,hx⟩⟩
end Go.Proofs.YtanaackimepkdaaGreatDoor.Pol
namespace Go.Proofs.YtanaackimepkdaaGreatDoor.Pol
open Go Go.Eng
set_option maxRecDepth 1000000
noncomputable def p7:List Code:=pieces (bodyOf Tryz.f116)
def rfAs:Code→Code
 | .block _ (.rangeFunc _ _ a _)=>a
 | c=>c
def rfBd:Code→Code
 | .block _ (.rangeFunc _ _ _ b)=>b
 | c=>c
noncomputable def as7:Code:=rfAs (p7.getD 10 .skip)
noncomputable def bd7:Code:=rfBd (p7.getD 10 .skip)
noncomputable def bi7:Code:=blkOf bd7
noncomputable def pi7:List Code:=pieces bi7
noncomputable def bj7:Code:=loopOf (pi7.getD 1 .skip)
def mk (kf:Nat→UInt8) (i:Nat):UInt8:=cond (Nat.beq i 3 || (Nat.beq i 7 || (Nat.beq i 11 || Nat.beq i 15))) (kf i &&& 15) (cond (Nat.beq i 4 || (Nat.beq i 8 || Nat.beq i 12)) (kf i &&& 252) (kf i))
def keyL (kf:Nat→UInt8):List UInt8:=(List.range 32).map kf
def T7 (kf:Nat→UInt8) (s:List UInt8):TL:=[(0,.str (keyL kf)),(1,.str s),(4,.str []),(5,.int .i64 0),(21,.bool false),(6,.slice 53 0 32 1),(7,.int .i64 19),(25,.bool false),(8,.int .i64 16),(35,.bool false),(9,.ptr 149 0),(10,.ptr 157 0),(50,.fn 207 capS)]
def H7 (kf:Nat→UInt8) (s:List UInt8) (r h:Nat→UInt64):HL:=[(53,.cells false (cellsB 32 (mk kf))),(149,.cells false (cellsU 5 r)),(157,.cells false (cellsU 5 h)),(189,.cells false (s.map .u8)),(197,.cells false [.slice 189 0 s.length 1]),(198,.cells false [.int .i64 16])]
def rK (θ:Fq) (kf:Nat→UInt8):Nat→UInt64:=θ.of (gB (cellsB 16 (mk kf))) 16 0
theorem s7a (θ:Fq) (kf:Nat→UInt8) (s:List UInt8):segO (evSO Tryz.prog noPS (nq θ) [] Tryz.f116.ntmps (mask 116) 100 5 (p7.take 10) ⟨startT [.str (keyL kf),.str s] 0,[],5⟩ ⟨[],[],[]⟩)=some (⟨T7 kf s,H7 kf s (rK θ kf) (fun _=>0),205⟩,[]):=by kernel_rfl
end Go.Proofs.YtanaackimepkdaaGreatDoor.Pol
namespace Go.Proofs.YtanaackimepkdaaGreatDoor.Pol
open Go Go.Eng
set_option maxRecDepth 1000000
def TA7 (kf:Nat→UInt8) (s:List UInt8) (o m:Nat):TL:=T7 kf s++[(51,.slice 189 o m 1),(11,.slice 189 o m 1)]
def SB7 (kf:Nat→UInt8) (s:List UInt8) (r h x:Nat→UInt64) (o m j:Nat):SA:=⟨TA7 kf s o m++[(55,.agg (cellsU 5 x)),(56,.int .i64 (j:Int))],H7 kf s r h,253⟩
def of7 (θ:Fq) (s:List UInt8) (o m:Nat):EffA:=winE 189 o m fun W=>cond (shAllB W && ok10 m (m:Int)) (some (.agg (cellsU 5 (θ.of (gB W) m (m:Int).toNat)))) none
def xw (h:Nat→UInt64) (i:Nat):UInt64:=cond (Nat.blt 18 (8 * i % 26)) (shr_u64 (h (8 * i / 26)) (8 * i % 26) ||| shl_u64 (h (8 * i / 26+1)) (26 - 8 * i % 26)) (shr_u64 (h (8 * i / 26)) (8 * i % 26))
def c1 (h:Nat→UInt64) (kf:Nat→UInt8) (c:UInt64) (i:Nat):UInt64:=c+((xw h i &&& 255)+(kf (16+i)).toUInt64)
def S87 (kf:Nat→UInt8) (s:List UInt8) (r h:Nat→UInt64) (c:UInt64) (t:Nat→UInt8) (i:Nat):SA:=⟨T7 kf s++[(14,.ptr 229 0),(15,.u64 c),(73,.int .i64 (i:Int))],H7 kf s r h++[(229,.cells false (cellsB 16 t))],253⟩
theorem p7_15:p7[15]? = some (.block 8 (.loop (loopOf (p7.getD 15 .skip)))):=by kernel_rfl
theorem pi7_1:pi7[1]? = some (.block 6 (.loop bj7)):=by kernel_rfl
theorem bd7_eq:bd7=.block 5 bi7:=by kernel_rfl
section
variable (θ:Fq) (kf:Nat→UInt8) (s:List UInt8) (i j o m:Nat) (r h h0 x:Nat→UInt64) (c c0:UInt64) (t t0:Nat→UInt8)
theorem as7_ok (H:HL):evC Tryz.prog (nq θ) Tryz.f116.ntmps (mask 116) 100 205 as7 ⟨putPs (T7 kf s) [51] [.slice 189 o m 1],H,205⟩=some (.normal,⟨TA7 kf s o m,H,213⟩):=by kernel_rfl
theorem b7a:segO (evSO Tryz.prog noPS (nq θ) [300055] Tryz.f116.ntmps (mask 116) 100 205 ((pi7.drop 0).take 1) ⟨TA7 kf s o m,H7 kf s r h,213⟩ ⟨[],[.agg (cellsU 5 x),.tup [.ptr 189 0,.agg (s.map .u8)]],[]⟩)=some (SB7 kf s r h x o m 0,[decP ((of7 θ s o m).app 237 (H7 kf s r h)=some (.agg (cellsU 5 x),H7 kf s r h))]):=by kernel_rfl
theorem b7r:roundO2 Tryz.prog noPS (nq θ) [57,59,200013,61,62,65,100065,200066] [true] [.u64 (x j),.u64 (h j),.int .i64 (i:Int)] Tryz.f116.ntmps (mask 116) 100 205 bj7 (SB7 kf s r h0 x o m 0) (SB7 kf s r h x o m j)=some (⟨TA7 kf s o m++[(55,.agg (cellsU 5 x)),(56,.int .i64 (i:Int))],[(53,.cells false (cellsB 32 (mk kf))),(149,.cells false (cellsU 5 r)),(157,.cells false (putA (cellsU 5 h) (0+(j:Int).toNat * 1) (cellsA (.u64 (h j+x j))))),(189,.cells false (s.map .u8)),(197,.cells false [.slice 189 0 s.length 1]),(198,.cells false [.int .i64 16])],253⟩,
  [eqS (.int .i64 (IntKind.wrap .i64 ((j:Int)+1))) (.int .i64 (i:Int)),Nat.ble (0+(j:Int).toNat * 1+(cellsA (.u64 (h j+x j))).length) (cellsU 5 h).length,decide (0≤(j:Int)) && decide ((j:Int) < 5),isAt (cellsU 5 h) (0+(j:Int).toNat * 1) (.u64 (h j)),decide (0≤(j:Int)) && decide ((j:Int) < 5),
   eqS (likeA ((cellsU 5 x).getD 0 (.bool false)) ((cellsU 5 x).getD ((j:Int).toNat * 1) (.bool false))) (.u64 (x j)),decide (0≤(j:Int)) && (decide ((j:Int) < 5) && (Nat.blt ((j:Int).toNat * 1) (cellsU 5 x).length && eqS (likeA ((cellsU 5 x).getD 0 (.bool false)) ((cellsU 5 x).getD ((j:Int).toNat * 1) (.bool false))) ((cellsU 5 x).getD ((j:Int).toNat * 1) (.bool false)))),decide ((j:Int) < 5)]):=by kernel_rfl
theorem b7x:evSO Tryz.prog noPS (nq θ) [57] Tryz.f116.ntmps (mask 116) 100 205 [bj7] (SB7 kf s r h x o m j) ⟨[false],[],[]⟩=some (.exit 6,⟨TA7 kf s o m++[(55,.agg (cellsU 5 x)),(56,.int .i64 (j:Int)),(57,.bool false)],H7 kf s r h,261⟩,⟨[],[],[!(decide ((j:Int) < 5))]⟩):=by kernel_rfl
theorem b7z:endS [] (evSO Tryz.prog noPS (nq θ) [] Tryz.f116.ntmps (mask 116) 100 205 (pi7.drop 2) ⟨TA7 kf s o m++[(55,.agg (cellsU 5 x)),(56,.int .i64 (j:Int)),(57,.bool false)],H7 kf s r h,261⟩ ⟨[],[],[]⟩)=some (.normal,[],H7 kf s r (θ.mul (gU (cellsU 5 (θ.car (gU (cellsU 5 h))))) (gU (cellsU 5 r))),[]):=by kernel_rfl
theorem t7a:segO (evSO Tryz.prog noPS (nq θ) [] Tryz.f116.ntmps (mask 116) 100 5 ((p7.drop 11).take 4) ⟨T7 kf s,H7 kf s r h,205⟩ ⟨[],[],[]⟩)=some (S87 kf s r (θ.red (gU (cellsU 5 h))) 0 (fun _=>0) 0,[]):=by kernel_rfl
theorem t7r0:roundO2 Tryz.prog noPS (nq θ) [] [] [] Tryz.f116.ntmps (mask 116) 100 5 (loopOf (p7.getD 15 .skip)) (S87 kf s r h c0 t0 0) (S87 kf s r h c t 0)=some (S87 kf s r h (shr_u64 (c1 h kf c 0) 8) (updF t 0 (c1 h kf c 0).toUInt8) 1,[]):=by kernel_rfl
theorem t7r1:roundO2 Tryz.prog noPS (nq θ) [] [] [] Tryz.f116.ntmps (mask 116) 100 5 (loopOf (p7.getD 15 .skip)) (S87 kf s r h c0 t0 0) (S87 kf s r h c t 1)=some (S87 kf s r h (shr_u64 (c1 h kf c 1) 8) (updF t 1 (c1 h kf c 1).toUInt8) 2,[]):=by kernel_rfl
theorem t7r2:roundO2 Tryz.prog noPS (nq θ) [] [] [] Tryz.f116.ntmps (mask 116) 100 5 (loopOf (p7.getD 15 .skip)) (S87 kf s r h c0 t0 0) (S87 kf s r h c t 2)=some (S87 kf s r h (shr_u64 (c1 h kf c 2) 8) (updF t 2 (c1 h kf c 2).toUInt8) 3,[]):=by kernel_rfl
theorem t7r3:roundO2 Tryz.prog noPS (nq θ) [] [] [] Tryz.f116.ntmps (mask 116) 100 5 (loopOf (p7.getD 15 .skip)) (S87 kf s r h c0 t0 0) (S87 kf s r h c t 3)=some (S87 kf s r h (shr_u64 (c1 h kf c 3) 8) (updF t 3 (c1 h kf c 3).toUInt8) 4,[]):=by kernel_rfl
theorem t7r4:roundO2 Tryz.prog noPS (nq θ) [] [] [] Tryz.f116.ntmps (mask 116) 100 5 (loopOf (p7.getD 15 .skip)) (S87 kf s r h c0 t0 0) (S87 kf s r h c t 4)=some (S87 kf s r h (shr_u64 (c1 h kf c 4) 8) (updF t 4 (c1 h kf c 4).toUInt8) 5,[]):=by kernel_rfl
theorem t7r5:roundO2 Tryz.prog noPS (nq θ) [] [] [] Tryz.f116.ntmps (mask 116) 100 5 (loopOf (p7.getD 15 .skip)) (S87 kf s r h c0 t0 0) (S87 kf s r h c t 5)=some (S87 kf s r h (shr_u64 (c1 h kf c 5) 8) (updF t 5 (c1 h kf c 5).toUInt8) 6,[]):=by kernel_rfl
theorem t7r6:roundO2 Tryz.prog noPS (nq θ) [] [] [] Tryz.f116.ntmps (mask 116) 100 5 (loopOf (p7.getD 15 .skip)) (S87 kf s r h c0 t0 0) (S87 kf s r h c t 6)=some (S87 kf s r h (shr_u64 (c1 h kf c 6) 8) (updF t 6 (c1 h kf c 6).toUInt8) 7,[]):=by kernel_rfl
theorem t7r7:roundO2 Tryz.prog noPS (nq θ) [] [] [] Tryz.f116.ntmps (mask 116) 100 5 (loopOf (p7.getD 15 .skip)) (S87 kf s r h c0 t0 0) (S87 kf s r h c t 7)=some (S87 kf s r h (shr_u64 (c1 h kf c 7) 8) (updF t 7 (c1 h kf c 7).toUInt8) 8,[]):=by kernel_rfl
theorem t7r8:roundO2 Tryz.prog noPS (nq θ) [] [] [] Tryz.f116.ntmps (mask 116) 100 5 (loopOf (p7.getD 15 .skip)) (S87 kf s r h c0 t0 0) (S87 kf s r h c t 8)=some (S87 kf s r h (shr_u64 (c1 h kf c 8) 8) (updF t 8 (c1 h kf c 8).toUInt8) 9,[]):=by kernel_rfl
theorem t7r9:roundO2 Tryz.prog noPS (nq θ) [] [] [] Tryz.f116.ntmps (mask 116) 100 5 (loopOf (p7.getD 15 .skip)) (S87 kf s r h c0 t0 0) (S87 kf s r h c t 9)=some (S87 kf s r h (shr_u64 (c1 h kf c 9) 8) (updF t 9 (c1 h kf c 9).toUInt8) 10,[]):=by kernel_rfl
theorem t7r10:roundO2 Tryz.prog noPS (nq θ) [] [] [] Tryz.f116.ntmps (mask 116) 100 5 (loopOf (p7.getD 15 .skip)) (S87 kf s r h c0 t0 0) (S87 kf s r h c t 10)=some (S87 kf s r h (shr_u64 (c1 h kf c 10) 8) (updF t 10 (c1 h kf c 10).toUInt8) 11,[]):=by kernel_rfl
theorem t7r11:roundO2 Tryz.prog noPS (nq θ) [] [] [] Tryz.f116.ntmps (mask 116) 100 5 (loopOf (p7.getD 15 .skip)) (S87 kf s r h c0 t0 0) (S87 kf s r h c t 11)=some (S87 kf s r h (shr_u64 (c1 h kf c 11) 8) (updF t 11 (c1 h kf c 11).toUInt8) 12,[]):=by kernel_rfl
theorem t7r12:roundO2 Tryz.prog noPS (nq θ) [] [] [] Tryz.f116.ntmps (mask 116) 100 5 (loopOf (p7.getD 15 .skip)) (S87 kf s r h c0 t0 0) (S87 kf s r h c t 12)=some (S87 kf s r h (shr_u64 (c1 h kf c 12) 8) (updF t 12 (c1 h kf c 12).toUInt8) 13,[]):=by kernel_rfl
theorem t7r13:roundO2 Tryz.prog noPS (nq θ) [] [] [] Tryz.f116.ntmps (mask 116) 100 5 (loopOf (p7.getD 15 .skip)) (S87 kf s r h c0 t0 0) (S87 kf s r h c t 13)=some (S87 kf s r h (shr_u64 (c1 h kf c 13) 8) (updF t 13 (c1 h kf c 13).toUInt8) 14,[]):=by kernel_rfl
theorem t7r14:roundO2 Tryz.prog noPS (nq θ) [] [] [] Tryz.f116.ntmps (mask 116) 100 5 (loopOf (p7.getD 15 .skip)) (S87 kf s r h c0 t0 0) (S87 kf s r h c t 14)=some (S87 kf s r h (shr_u64 (c1 h kf c 14) 8) (updF t 14 (c1 h kf c 14).toUInt8) 15,[]):=by kernel_rfl
theorem t7r15:roundO2 Tryz.prog noPS (nq θ) [] [] [] Tryz.f116.ntmps (mask 116) 100 5 (loopOf (p7.getD 15 .skip)) (S87 kf s r h c0 t0 0) (S87 kf s r h c t 15)=some (S87 kf s r h (shr_u64 (c1 h kf c 15) 8) (updF t 15 (c1 h kf c 15).toUInt8) 16,[]):=by kernel_rfl
theorem t7x:evSO Tryz.prog noPS (nq θ) [] Tryz.f116.ntmps (mask 116) 100 5 [loopOf (p7.getD 15 .skip)] (S87 kf s r h c t 16) ⟨[],[],[]⟩=some (.exit 8,⟨T7 kf s++[(14,.ptr 229 0),(15,.u64 c),(73,.int .i64 16),(74,.bool false)],H7 kf s r h++[(229,.cells false (cellsB 16 t))],261⟩,⟨[],[],[]⟩):=by kernel_rfl
theorem t7z:ansF Tryz.prog Tryz.f116 (evSO Tryz.prog noPS (nq θ) [] Tryz.f116.ntmps (mask 116) 100 5 (p7.drop 16) ⟨T7 kf s++[(14,.ptr 229 0),(15,.u64 c),(73,.int .i64 16),(74,.bool false)],H7 kf s r h++[(229,.cells false (cellsB 16 t))],261⟩ ⟨[],[],[]⟩)=some (.tup [.str ((List.range 16).map t),.int .i64 0],[]):=by kernel_rfl
end
theorem t7r (θ:Fq) (kf:Nat→UInt8) (s:List UInt8) (r h:Nat→UInt64) (c c0:UInt64) (t t0:Nat→UInt8):∀ i,i < 16→roundO2 Tryz.prog noPS (nq θ) [] [] [] Tryz.f116.ntmps (mask 116) 100 5 (loopOf (p7.getD 15 .skip)) (S87 kf s r h c0 t0 0) (S87 kf s r h c t i)=some (S87 kf s r h (shr_u64 (c1 h kf c i) 8) (updF t i (c1 h kf c i).toUInt8) (i+1),[])
 | 0,_=>t7r0 θ kf s r h c c0 t t0
 | 1,_=>t7r1 θ kf s r h c c0 t t0
 | 2,_=>t7r2 θ kf s r h c c0 t t0
 | 3,_=>t7r3 θ kf s r h c c0 t t0
 | 4,_=>t7r4 θ kf s r h c c0 t t0
 | 5,_=>t7r5 θ kf s r h c c0 t t0
 | 6,_=>t7r6 θ kf s r h c c0 t t0
 | 7,_=>t7r7 θ kf s r h c c0 t t0
 | 8,_=>t7r8 θ kf s r h c c0 t t0
 | 9,_=>t7r9 θ kf s r h c c0 t t0
 | 10,_=>t7r10 θ kf s r h c c0 t t0
 | 11,_=>t7r11 θ kf s r h c c0 t t0
 | 12,_=>t7r12 θ kf s r h c c0 t t0
 | 13,_=>t7r13 θ kf s r h c c0 t t0
 | 14,_=>t7r14 θ kf s r h c c0 t t0
 | 15,_=>t7r15 θ kf s r h c c0 t t0
 | n+16,h=>absurd h (by omega)
theorem okSB (kf:Nat→UInt8) (s:List UInt8) (r h x:Nat→UInt64) (o m j:Nat):okS Tryz.prog (SB7 kf s r h x o m j)=true:=by
 have g:okS Tryz.prog ⟨TA7 kf [] o m++[(55,.agg (cellsU 5 x)),(56,.int .i64 (j:Int))],[(53,.cells false (cellsB 32 (mk kf))),(149,.cells false (cellsU 5 r)),(157,.cells false (cellsU 5 h)),(189,.cells false []),(197,.cells false [.slice 189 0 s.length 1]),(198,.cells false [.int .i64 16])],253⟩=true:=by kernel_rfl
 unfold okS SB7 H7 TA7 T7 at *
 simp only [List.cons_append,List.nil_append,ltH,ltLm,ltL,ltT,ltV,ltS] at g ⊢
 exact g
theorem okS8 (kf:Nat→UInt8) (s:List UInt8) (r h:Nat→UInt64) (c:UInt64) (t:Nat→UInt8) (i:Nat):okS Tryz.prog (S87 kf s r h c t i)=true:=by
 have g:okS Tryz.prog ⟨T7 kf []++[(14,.ptr 229 0),(15,.u64 c),(73,.int .i64 (i:Int))],[(53,.cells false (cellsB 32 (mk kf))),(149,.cells false (cellsU 5 r)),(157,.cells false (cellsU 5 h)),(189,.cells false []),(197,.cells false [.slice 189 0 s.length 1]),(198,.cells false [.int .i64 16]),(229,.cells false (cellsB 16 t))],253⟩=true:=by kernel_rfl
 unfold okS S87 H7 T7 at *
 simp only [List.cons_append,List.nil_append,ltH,ltLm,ltL,ltT,ltV,ltS] at g ⊢
 exact g
end Go.Proofs.YtanaackimepkdaaGreatDoor.Pol
namespace Go.Proofs.YtanaackimepkdaaGreatDoor.Pol
open Go Go.Eng
set_option maxRecDepth 1000000
def A5 (h x:Nat→UInt64):Nat→Nat→UInt64
 | 0=>h
 | i+1=>updF (A5 h x i) i (A5 h x i i+x i)
def xK (θ:Fq) (s:List UInt8) (k:Nat):Nat→UInt64:=θ.of (gB (((s.map AVal.u8).drop (16 * k)).take (mC s k))) (mC s k) (mC s k)
def stepK (θ:Fq) (kf:Nat→UInt8) (h x:Nat→UInt64):Nat→UInt64:=θ.mul (gU (cellsU 5 (θ.car (gU (cellsU 5 (A5 h x 5)))))) (gU (cellsU 5 (rK θ kf)))
def hK (θ:Fq) (kf:Nat→UInt8) (s:List UInt8):Nat→Nat→UInt64
 | 0=>fun _=>0
 | k+1=>stepK θ kf (hK θ kf s k) (xK θ s k)
def cN (h:Nat→UInt64) (kf:Nat→UInt8):Nat→UInt64
 | 0=>0
 | i+1=>shr_u64 (c1 h kf (cN h kf i) i) 8
def tN (h:Nat→UInt64) (kf:Nat→UInt8):Nat→Nat→UInt8
 | 0=>fun _=>0
 | i+1=>updF (tN h kf i) i (c1 h kf (cN h kf i) i).toUInt8
def endK (θ:Fq) (kf:Nat→UInt8) (s:List UInt8):Nat→UInt64:=θ.red (gU (cellsU 5 (hK θ kf s (nC s))))
def tagF (θ:Fq) (kf:Nat→UInt8) (s:List UInt8):List UInt8:=(List.range 16).map (tN (endK θ kf s) kf 16)
theorem p7_eq:pieces (bodyOf Tryz.f116)=p7.take 10 ++ .block 4 (.rangeFunc (.tmp 50) #[51] as7 bd7)::p7.drop 11:=by kernel_rfl
theorem finV_inv {P:Program}{fn:Func}{r:Option (XA × SA)}{v:AVal}(h:finV P fn r=some v):∃ x s2 H' fr',r=some (x,s2)∧(x=.normal ∨ x=.ret)∧finR P fn s2=some (v,H',fr'):=by
 unfold finV at h
 split at h
 ·cases h
 ·cases h
 ·rename_i x s2 hx
  refine ⟨x,s2,s2.H,s2.fr,rfl,?_,?_⟩
  ·cases x with
   | normal=>exact .inl rfl
   | ret=>exact .inr rfl
   | exit id=>exact absurd rfl (hx id)
  ·unfold finR
   generalize resA P s2.T s2.H fn.results.toList=z at h ⊢
   match z,h with
   | none,h=>cases h
   | some [],h=>cases h; rfl
   | some [u],h=>cases h; rfl
   | some (u::w::l),h=>cases h; rfl
theorem endS7 {θ:Fq}{sy:List Nat}{nt nn F bs:Nat}{l:List Code}{s:SA}{os:List Bool}{vs:List AVal}{Ts Tq:TL}{x:XA}{H:HL}{ob:List Bool}(h:endS Ts (evSO Tryz.prog noPS (nq θ) sy nt nn F bs l s ⟨os,vs,[]⟩)=some (x,Tq,H,ob)) (ha:allT ob=true) :
  ∃ s',evS Tryz.prog (nq θ) nt nn F bs l s=some (x,s')∧s'.H=H:=by
 unfold endS at h
 split at h
 ·rename_i y s' q hs
  simp only [Option.some.injEq,Prod.mk.injEq] at h
  obtain ⟨rfl,_,rfl,rfl⟩:=h
  exact ⟨s',(evSO_ok (noPS_ok _) l _ _ _ _ _ hs ha).1,rfl⟩
 ·cases h
theorem end7 {θ:Fq}{sy:List Nat}{nt nn F bs:Nat}{b:Code}{s s':SA}{id:Nat}{ob:List Bool}{os:List Bool}(h:evSO Tryz.prog noPS (nq θ) sy nt nn F bs [b] s ⟨os,[],[]⟩=some (.exit id,s',⟨[],[],ob⟩)) (hc:allT ob=true):evC Tryz.prog (nq θ) nt nn F bs b s=some (.exit id,s'):=by
 have:=(evSO_ok (noPS_ok _) _ _ _ _ _ _ h hc).1
 rwa [evS_one] at this
theorem body7 (θ:Fq) (kf:Nat→UInt8) (s:List UInt8) (r h:Nat→UInt64) (k:Nat) (hk:k < nC s):∃ s',evC Tryz.prog (nq θ) Tryz.f116.ntmps (mask 116) 100 205 bd7 ⟨TA7 kf s (16 * k) (mC s k),H7 kf s r h,213⟩=some (.normal,s') ∧
  s'.H=H7 kf s r (θ.mul (gU (cellsU 5 (θ.car (gU (cellsU 5 (A5 h (xK θ s k) 5)))))) (gU (cellsU 5 r))):=by
 have hlt:16 * k < s.length:=by unfold nC at hk; omega
 have hm1:16 * k+mC s k≤s.length:=by unfold mC; split <;> omega
 have hm0:0 < mC s k:=by unfold mC; split <;> omega
 have hm16:mC s k≤16:=by unfold mC; split <;> omega
 obtain ⟨x,hx⟩:∃ x,x=xK θ s k:=⟨_,rfl⟩
 rw [← hx]
 have a1:=segO_ok (noPS_ok _) (b7a θ kf s (16 * k) (mC s k) r h x) (by
  have:decP ((of7 θ s (16 * k) (mC s k)).app 237 (H7 kf s r h)=some (.agg (cellsU 5 x),H7 kf s r h))=true:=by
   apply decP_of
   have g1:aget (H7 kf s r h) 189=some (.cells false (s.map .u8)):=rfl
   have e1:((s.map AVal.u8).drop (16 * k)).take (mC s k)=(((s.drop (16 * k)).take (mC s k)).map AVal.u8):=by rw [List.map_take,List.map_drop]
   have g2:(Nat.ble (16 * k+mC s k) (s.map AVal.u8).length && ltL 0 (((s.map AVal.u8).drop (16 * k)).take (mC s k)))=true:=by
    rw [e1,ltLm,List.length_map,Nat.ble_eq_true_of_le hm1]; rfl
   have g3:(shAllB (((s.map AVal.u8).drop (16 * k)).take (mC s k)) && ok10 (mC s k) (mC s k:Int))=true:=by
    rw [e1,shAllB_map]
    unfold ok10
    simp only [Bool.true_and,Bool.or_eq_true,Bool.and_eq_true,decide_eq_true_eq]
    exact .inl ⟨⟨hm0,hm16⟩,trivial⟩
   unfold of7 winE oneE EffA.app
   simp only [g1,g2,g3,cond_true,Int.toNat_natCast]
   rw [hx]
   rfl
  simp only [allT,this,cond_true])
 rw [List.drop_zero] at a1
 have lp:=evS_loop (P:=Tryz.prog) (cs:=nq θ) (nt:=Tryz.f116.ntmps) (nn:=mask 116) (F:=100) (bs:=205) pi7_1 (fun j=>SB7 kf s r (A5 h x j) x (16 * k) (mC s k) j) 5 (fun j hj=>by
  have e:=putA_cellsU (A5 h x j) (A5 h x j j+x j) hj
  have q:=b7r θ kf s (j+1) j (16 * k) (mC s k) r (A5 h x j) (A5 h x 0) x
  rw [e] at q
  refine roundO2_ok (noPS_ok _) q ?_ (okSB kf s r (A5 h x (j+1)) x (16 * k) (mC s k) (j+1))
  have o1:Nat.ble (0+(j:Int).toNat * 1+(cellsA (.u64 (A5 h x j j+x j))).length) 5=true:=ble_i hj
  have o2:decide ((j:Int) < 5)=true:=decide_eq_true (by omega)
  have e0:((j:Int).toNat * 1)=j:=by simp
  have o3:eqS (likeA ((cellsU 5 x).getD 0 (.bool false)) ((cellsU 5 x).getD ((j:Int).toNat * 1) (.bool false))) (.u64 (x j))=true:=by rw [like_u hj]; exact eqS_u64 _
  have o4:eqS (likeA ((cellsU 5 x).getD 0 (.bool false)) ((cellsU 5 x).getD ((j:Int).toNat * 1) (.bool false))) ((cellsU 5 x).getD ((j:Int).toNat * 1) (.bool false))=true:=by
   rw [like_u hj,e0,getD_cellsU x hj]; exact eqS_u64 _
  have o5:Nat.blt ((j:Int).toNat * 1) 5=true:=blt_i hj
  simp only [allT,plus1 (show j < 1000 by omega),cellsU_len,o1,o2,o3,o4,o5,nat0,isAt_cellsU (A5 h x j) hj,Bool.and_self,cond_true])
  (end7 (b7x θ kf s 5 (16 * k) (mC s k) r (A5 h x 5) x) (by decide)) (by omega)
 obtain ⟨s',z1,z2⟩:=endS7 (b7z θ kf s 5 (16 * k) (mC s k) r (A5 h x 5) x) rfl
 refine ⟨s',?_,z2⟩
 rw [bd7_eq]
 exact evC_block ((evC_pieces _ _).trans (a1.trans (lp.trans z1)))
theorem ltH7 (kf:Nat→UInt8) (s:List UInt8) (r h:Nat→UInt64):ltH 205 (H7 kf s r h)=true:=by
 have h1:ltL 205 (cellsB 32 (mk kf))=true:=ltL_B ..
 have h2:ltL 205 (cellsU 5 r)=true:=ltL_U ..
 have h3:ltL 205 (cellsU 5 h)=true:=ltL_U ..
 unfold H7
 simp only [ltH,h1,h2,h3,ltLm]
 rfl
theorem lessHc (kf:Nat→UInt8) (s:List UInt8) (r h:Nat→UInt64):LessRo (Hc s) (H7 kf s r h):=fun j o g=>by
 unfold Hc at g
 rcases aget_cases g with ⟨rfl,rfl⟩ | g
 ·exact ⟨false,_,rfl,rfl⟩
 rcases aget_cases g with ⟨rfl,rfl⟩ | g
 ·exact ⟨false,_,rfl,rfl⟩
 rcases aget_cases g with ⟨rfl,rfl⟩ | g
 ·exact ⟨false,_,rfl,rfl⟩
 simp [aget] at g
theorem ents {P:Program}{f:FuncId}(hb:bodied P f=true):∀ args w,(callFunc f args).run P w=.ok (.enter f args) w:=by
 obtain ⟨fn,hfn,hbody,hname⟩:=bodied_ok hb
 intro args w
 simp only [callFunc,Sem.run_bind,run_program,Result.andThen_ok,hfn,hname,hbody,Bool.false_eq_true,if_false,Sem.run_pure]
theorem ents18:∀ args w,(callFunc 207 args).run Tryz.prog w=.ok (.enter 207 args) w:=ents (by kernel_rfl)
theorem ntm7:51 < Tryz.f116.ntmps:=by
 have:Nat.ble 52 Tryz.f116.ntmps=true:=by kernel_rfl
 exact Nat.le_of_ble_eq_true this
theorem tail7 (θ:Fq) (kf:Nat→UInt8) (s:List UInt8) (r h:Nat→UInt64):finV Tryz.prog Tryz.f116 (evS Tryz.prog (nq θ) Tryz.f116.ntmps (mask 116) 100 5 (p7.drop 11) ⟨T7 kf s,H7 kf s r h,205⟩)=some (.tup [.str ((List.range 16).map (tN (θ.red (gU (cellsU 5 h))) kf 16)),.int .i64 0]):=by
 obtain ⟨g,hg⟩:∃ g,g=θ.red (gU (cellsU 5 h)):=⟨_,rfl⟩
 have a1:=segO_ok (noPS_ok _) (t7a θ kf s r h) rfl
 rw [← hg] at a1 ⊢
 have lp:=evS_loop (P:=Tryz.prog) (cs:=nq θ) (nt:=Tryz.f116.ntmps) (nn:=mask 116) (F:=100) (bs:=5) p7_15 (fun i=>S87 kf s r g (cN g kf i) (tN g kf i) i) 16 (fun i hi=>roundO2_ok (noPS_ok _) (t7r θ kf s r g (cN g kf i) (cN g kf 0) (tN g kf i) (tN g kf 0) i hi) rfl (okS8 ..))
  (end7 (t7x θ kf s r g (cN g kf 16) (tN g kf 16)) rfl) (by omega)
 have z:=(ansF_ok2 (noPS_ok (nq θ)) (t7z θ kf s r g (cN g kf 16) (tN g kf 16)) rfl).1
 rw [a1]
 refine Eq.trans (congrArg (finV Tryz.prog Tryz.f116) lp) z
theorem callOk7 {θ:Fq}(hq:CSOk Tryz.prog (nq θ)) (kf:Nat→UInt8) (s:List UInt8) (hs:s.length < 1000000000000):CallOk Tryz.prog 116 [.str (keyL kf),.str s] (.pure (.tup [.str (tagF θ kf s),.int .i64 0])):=by
 have h1:=segO_pre (noPS_ok _) (s7a θ kf s) rfl
 obtain ⟨x,s2,H',fr',e1,e2,e3⟩:=finV_inv (tail7 θ kf s (rK θ kf) (hK θ kf s (nC s)))
 refine callOk_of (H':=H') (fr':=fr') (fun σ args' w hl hH hg hf => ?_) rfl rfl
 rw [gl] at hf
 refine runR_ok hq hmix (nn:=mask 116) (F:=100) (fn:=Tryz.f116) (c:=bodyOf Tryz.f116) (fr:=5) (by kernel_rfl) (by kernel_rfl) (by kernel_rfl) (l1:=p7.take 10) (l2:=p7.drop 11) p7_eq h1 (N:=nC s) (fin:=true) (cap:=capS) (Hc:=Hc s) (X:=X s) (by rfl) ents18 (chunk_it hs) gl200
  (fun k=>H7 kf s (rK θ kf) (hK θ kf s k)) (fun _ _ h=>h) (fun k _=>ltH7 ..) (fun k _=>lessHc _ _ _ _) (fun k=>rfl) ?_ ?_ (Hf:=H7 kf s (rK θ kf) (hK θ kf s (nC s))) (fun _=>rfl) (ltH7 ..) (fun h=>by cases h) e1 e2 e3 hl hH hg hf
 ·intro p hp
  simp only [List.mem_cons,List.mem_nil_iff,or_false] at hp
  subst hp
  exact ntm7
 ·intro k hk
  obtain ⟨s',f1,f2⟩:=body7 θ kf s (rK θ kf) (hK θ kf s k) k hk
  refine ⟨_,s',as7_ok θ kf s (16 * k) (mC s k) _,f1,fun n o hn => ?_⟩
  rw [f2]
  exact hn
end Go.Proofs.YtanaackimepkdaaGreatDoor.Pol
namespace Go.Proofs.YtanaackimepkdaaGreatDoor.Pol
open Go Go.Eng
set_option maxRecDepth 1000000
noncomputable def p8:List Code:=pieces (bodyOf Tryz.f141)
noncomputable def b8:Code:=loopOf (p8.getD 12 .skip)
noncomputable def po8:List Code:=pieces b8
noncomputable def bi8:Code:=blkOf (po8.getD 2 .skip)
noncomputable def pi8:List Code:=pieces bi8
noncomputable def bj8:Code:=loopOf (pi8.getD 2 .skip)
end Go.Proofs.YtanaackimepkdaaGreatDoor.Pol
namespace Go.Proofs.YtanaackimepkdaaGreatDoor.Pol
open Go Go.Eng
set_option maxRecDepth 1000000
def mk8 (kf:Nat→UInt8) (i:Nat):UInt64:=cond (Nat.ble 16 i) 0 (cond (Nat.beq i 3 || (Nat.beq i 7 || (Nat.beq i 11 || Nat.beq i 15))) ((kf i).toUInt64 &&& 15) (cond (Nat.beq i 4 || (Nat.beq i 8 || Nat.beq i 12)) ((kf i).toUInt64 &&& 252) (kf i).toUInt64))
def T8 (kf:Nat→UInt8) (s:List UInt8) (a:Nat):TL:=[(0,.str (keyL kf)),(1,.str s),(4,.str []),(5,.int .i64 0),(20,.bool false),(6,.ptr 45 0),(7,.int .i64 16),(22,.bool false),(8,.int .i64 19),(32,.bool false),(9,.int .i64 16),(42,.bool false),(10,.ptr 125 0),(11,.int .i64 (a:Int))]
def H8 (r h:Nat→UInt64):HL:=[(45,.cells false (cellsU 18 r)),(125,.cells false (cellsU 18 h))]
def S8 (kf:Nat→UInt8) (s:List UInt8) (r h:Nat→UInt64) (a:Nat):SA:=⟨T8 kf s a,H8 r h,141⟩
def TI8 (kf:Nat→UInt8) (s:List UInt8) (a:Nat) (p:List UInt8):TL:=T8 kf s a++[(54,.bool true),(12,.str p)]
def SI8 (kf:Nat→UInt8) (s:List UInt8) (r h:Nat→UInt64) (a:Nat) (p:List UInt8) (j:Nat):SA:=⟨TI8 kf s a p++[(13,.int .i64 (j:Int))],H8 r h,253⟩
theorem p8_12:(pieces (bodyOf Tryz.f141))[12]? = some (.block 6 (.loop b8)):=by kernel_rfl
theorem po8_eq:pieces b8=po8.take 2++(.block 7 bi8::po8.drop 3):=by kernel_rfl
theorem pi8_2:pi8[2]? = some (.block 8 (.loop bj8)):=by kernel_rfl
def d1 (h:Nat→UInt64) (kf:Nat→UInt8) (c:UInt64) (i:Nat):UInt64:=(h i+(kf (16+i)).toUInt64)+c
def dN (h:Nat→UInt64) (kf:Nat→UInt8):Nat→UInt64
 | 0=>0
 | i+1=>shr_u64 (d1 h kf (dN h kf i) i) 8
def uN (h:Nat→UInt64) (kf:Nat→UInt8):Nat→Nat→UInt8
 | 0=>fun _=>0
 | i+1=>updF (uN h kf i) i (d1 h kf (dN h kf i) i).toUInt8
section
variable (θ:Fq) (kf:Nat→UInt8) (s p:List UInt8) (i j a m e F:Nat) (r h h0:Nat→UInt64)
theorem d8a:segO (evSO Tryz.prog noPS (nq θ) [] Tryz.f141.ntmps (mask 141) (F+100) 5 ((pieces (bodyOf Tryz.f141)).take 12) ⟨startT [.str (keyL kf),.str s] 0,[],5⟩ ⟨[],[],[]⟩)=some (S8 kf s (mk8 kf) (fun _=>0) 0,[]):=by kernel_rfl
theorem d8o:segO (evSO Tryz.prog noPS (nq θ) [54] Tryz.f141.ntmps (mask 141) F 5 (po8.take 2) (S8 kf s r h a) ⟨[true],[],[]⟩)=some (⟨T8 kf s a++[(54,.bool true)],H8 r h,173⟩,[decide ((a:Int) < (s.length:Int))]):=by kernel_rfl
theorem d8i:segO (evSO Tryz.prog noPS (nq θ) [200060,200063,64,200064] Tryz.f141.ntmps (mask 141) F 5 ((pi8.drop 0).take 2) ⟨T8 kf s a++[(54,.bool true)],H8 r h,173⟩ ⟨[],[.int .i64 (e:Int),.int .i64 (m:Int),.str p],[]⟩)=some (SI8 kf s r h a p 0,
 [eqS (.str ((s.take (m:Int).toNat).drop (a:Int).toNat)) (.str p),decide (0≤(a:Int)) && (decide ((a:Int)≤(m:Int)) && decide ((m:Int)≤(s.length:Int))),eqS (.int .i64 (if (s.length:Int) < (e:Int) then (s.length:Int) else (e:Int))) (.int .i64 (m:Int)),eqS (.int .i64 (IntKind.wrap .i64 ((a:Int)+16))) (.int .i64 (e:Int))]):=by kernel_rfl
theorem d8r:roundO2 Tryz.prog noPS (nq θ) [68,73,74,77,80,100080,200070] [true] [.u64 (h j),.int .i64 (i:Int)] Tryz.f141.ntmps (mask 141) F 5 bj8 (SI8 kf s r h0 a p 0) (SI8 kf s r h a p j)=some (⟨TI8 kf s a p++[(13,.int .i64 (i:Int))],[(45,.cells false (cellsU 18 r)),(125,.cells false (putA (cellsU 18 h) (0+(j:Int).toNat * 1) (cellsA (.u64 (h j+(p.getD (j:Int).toNat 0).toUInt64)))))],253⟩,
 [eqS (.int .i64 (IntKind.wrap .i64 ((j:Int)+1))) (.int .i64 (i:Int)),Nat.ble (0+(j:Int).toNat * 1+(cellsA (.u64 (h j+(p.getD (j:Int).toNat 0).toUInt64))).length) (cellsU 18 h).length,decide (0≤(j:Int)) && decide ((j:Int) < 18),decide (0≤(j:Int)) && decide ((j:Int) < (p.length:Int)),isAt (cellsU 18 h) (0+(j:Int).toNat * 1) (.u64 (h j)),decide (0≤(j:Int)) && decide ((j:Int) < 18),decide ((j:Int) < (p.length:Int))]):=by kernel_rfl
theorem d8x:evSO Tryz.prog noPS (nq θ) [68] Tryz.f141.ntmps (mask 141) F 5 [bj8] (SI8 kf s r h a p j) ⟨[false],[],[]⟩=some (.exit 8,⟨TI8 kf s a p++[(13,.int .i64 (j:Int)),(68,.bool false)],H8 r h,285⟩,⟨[],[],[!(decide ((j:Int) < (p.length:Int)))]⟩):=by kernel_rfl
theorem d8q:segO (evSO Tryz.prog noPS (nq θ) [83,84,86,100086] Tryz.f141.ntmps (mask 141) F 5 ((pi8.drop 3).take 1) ⟨TI8 kf s a p++[(13,.int .i64 (j:Int)),(68,.bool false)],H8 r h,285⟩ ⟨[],[.u64 (h p.length)],[]⟩)=some (⟨TI8 kf s a p++[(13,.int .i64 (j:Int)),(68,.bool false)],[(45,.cells false (cellsU 18 r)),(125,.cells false (putA (cellsU 18 h) (0+(p.length:Int).toNat * 1) (cellsA (.u64 (h p.length+1)))))],341⟩,
 [Nat.ble (0+(p.length:Int).toNat * 1+(cellsA (.u64 (h p.length+1))).length) (cellsU 18 h).length,decide (0≤(p.length:Int)) && decide ((p.length:Int) < 18),isAt (cellsU 18 h) (0+(p.length:Int).toNat * 1) (.u64 (h p.length)),decide (0≤(p.length:Int)) && decide ((p.length:Int) < 18)]):=by kernel_rfl
theorem d8m:segO (evSO Tryz.prog noPS (nq θ) [] Tryz.f141.ntmps (mask 141) F 5 ((pi8.drop 4).take 1) ⟨TI8 kf s a p++[(13,.int .i64 (j:Int)),(68,.bool false)],H8 r h,341⟩ ⟨[],[],[]⟩)=some (⟨TI8 kf s a p++[(13,.int .i64 (j:Int)),(68,.bool false)],H8 r (θ.mulR (gU (cellsU 18 (θ.carR (gU (cellsU 18 h))))) (gU (cellsU 18 r))),381⟩,[]):=by kernel_rfl
theorem d8p:pi8.drop 5=[]:=by kernel_rfl
theorem d8z:segO (evSO Tryz.prog noPS (nq θ) [200056] Tryz.f141.ntmps (mask 141) F 5 (po8.drop 3) ⟨TI8 kf s a p++[(13,.int .i64 (j:Int)),(68,.bool false)],H8 r h,381⟩ ⟨[],[.int .i64 (i:Int)],[]⟩)=some (⟨TI8 kf s i p++[(13,.int .i64 (j:Int)),(68,.bool false)],H8 r h,405⟩,[eqS (.int .i64 (IntKind.wrap .i64 ((a:Int)+16))) (.int .i64 (i:Int))]):=by kernel_rfl
theorem d8h:headX [] Tryz.prog 5 (S8 kf s r h0 0) ⟨TI8 kf s i p++[(13,.int .i64 (j:Int)),(68,.bool false)],H8 r h,405⟩=some (S8 kf s r h i,[]):=by kernel_rfl
theorem d8e:evSO Tryz.prog noPS (nq θ) [54] Tryz.f141.ntmps (mask 141) F 5 [b8] (S8 kf s r h a) ⟨[false],[],[]⟩=some (.exit 6,⟨T8 kf s a++[(54,.bool false)],H8 r h,173⟩,⟨[],[],[!(decide ((a:Int) < (s.length:Int)))]⟩):=by kernel_rfl
theorem d8t:ansF Tryz.prog Tryz.f141 (evSO Tryz.prog noPS (nq θ) [] Tryz.f141.ntmps (mask 141) (F+100) 5 ((pieces (bodyOf Tryz.f141)).drop 13) ⟨T8 kf s a++[(54,.bool false)],H8 r h,173⟩ ⟨[],[],[]⟩)=some (.tup [.str ((List.range 16).map (uN (θ.whole (gU (cellsU 18 h))) kf 16)),.int .i64 0],[]):=by kernel_rfl
theorem ok8:okS Tryz.prog (S8 kf s r h a)=true:=by kernel_rfl
theorem okI8:okS Tryz.prog (SI8 kf s r h a p j)=true:=by kernel_rfl
end
end Go.Proofs.YtanaackimepkdaaGreatDoor.Pol
namespace Go.Proofs.YtanaackimepkdaaGreatDoor.Pol
open Go Go.Eng
set_option maxRecDepth 1000000
def pK (s:List UInt8) (k:Nat):List UInt8:=(s.take (16 * k+mC s k)).drop (16 * k)
def B8 (h:Nat→UInt64) (p:List UInt8):Nat→Nat→UInt64
 | 0=>h
 | i+1=>updF (B8 h p i) i (B8 h p i i+(p.getD i 0).toUInt64)
def oneD (h:Nat→UInt64) (p:List UInt8):Nat→UInt64:=updF (B8 h p p.length) p.length (B8 h p p.length p.length+1)
def stepD (θ:Fq) (kf:Nat→UInt8) (h:Nat→UInt64) (p:List UInt8):Nat→UInt64:=θ.mulR (gU (cellsU 18 (θ.carR (gU (cellsU 18 (oneD h p)))))) (gU (cellsU 18 (mk8 kf)))
def hD (θ:Fq) (kf:Nat→UInt8) (s:List UInt8):Nat→Nat→UInt64
 | 0=>fun _=>0
 | k+1=>stepD θ kf (hD θ kf s k) (pK s k)
def docF (θ:Fq) (kf:Nat→UInt8) (s:List UInt8):List UInt8:=(List.range 16).map (uN (θ.whole (gU (cellsU 18 (hD θ kf s (nC s))))) kf 16)
theorem mC_bnd {s:List UInt8}{k:Nat}(hk:k < nC s):16 * k < s.length∧16 * k+mC s k≤s.length∧0 < mC s k∧mC s k≤16:=by
 have hlt:16 * k < s.length:=by unfold nC at hk; omega
 have hm1:16 * k+mC s k≤s.length:=by unfold mC; split <;> omega
 have hm0:0 < mC s k:=by unfold mC; split <;> omega
 have hm16:mC s k≤16:=by unfold mC; split <;> omega
 exact ⟨hlt,hm1,hm0,hm16⟩
theorem pK_len {s:List UInt8}{k:Nat}(hk:k < nC s):(pK s k).length=mC s k:=by
 obtain ⟨h1,h2,h3,h4⟩:=mC_bnd hk
 unfold pK
 rw [List.length_drop,List.length_take]
 omega
theorem round8 (θ:Fq) (kf:Nat→UInt8) (s:List UInt8) (h:Nat→UInt64) (F k:Nat) (hk:k < nC s) (hF:20 < F) (hs:s.length < 1000000000000) :
  roundA (evC Tryz.prog (nq θ) Tryz.f141.ntmps (mask 141) F 5 b8) (headA Tryz.prog 5 (S8 kf s (mk8 kf) (fun _=>0) (16 * 0))) (S8 kf s (mk8 kf) h (16 * k))=some (S8 kf s (mk8 kf) (stepD θ kf h (pK s k)) (16 * (k+1))):=by
 obtain ⟨h1,h2,h3,h4⟩:=mC_bnd hk
 have hpl:=pK_len hk
 obtain ⟨r,hr⟩:∃ r,r=mk8 kf:=⟨_,rfl⟩
 have hst:stepD θ kf h (pK s k)=θ.mulR (gU (cellsU 18 (θ.carR (gU (cellsU 18 (oneD h (pK s k))))))) (gU (cellsU 18 r)):=by rw [hr]; rfl
 rw [hst,← hr]
 obtain ⟨p,hp⟩:∃ p,p=pK s k:=⟨_,rfl⟩
 rw [← hp] at hpl ⊢
 have a1:=segO_pre (noPS_ok _) (d8o θ kf s (16 * k) F r h) (by simp only [allT,decide_eq_true (show ((16 * k:Nat):Int) < (s.length:Int) by omega),cond_true])
 have a2:=segO_ok (noPS_ok _) (d8i θ kf s p (16 * k) (16 * k+mC s k) (16 * k+16) F r h) (by
  have o1:eqS (.str ((s.take ((16 * k+mC s k:Nat):Int).toNat).drop ((16 * k:Nat):Int).toNat)) (.str p)=true:=by
   rw [Int.toNat_natCast,Int.toNat_natCast,hp]
   simp [eqS,pK]
  have o2:(decide (0≤((16 * k:Nat):Int)) && (decide (((16 * k:Nat):Int)≤((16 * k+mC s k:Nat):Int)) && decide (((16 * k+mC s k:Nat):Int)≤(s.length:Int))))=true:=by
   simp only [Bool.and_eq_true,decide_eq_true_eq]; omega
  have o3:eqS (.int .i64 (if (s.length:Int) < ((16 * k+16:Nat):Int) then (s.length:Int) else ((16 * k+16:Nat):Int))) (.int .i64 ((16 * k+mC s k:Nat):Int))=true:=eqI (by
   unfold mC
   by_cases h:s.length - 16 * k < 16
   ·rw [if_pos h,if_pos (by omega)]; omega
   ·rw [if_neg h,if_neg (by omega)])
  have o4:eqS (.int .i64 (IntKind.wrap .i64 (((16 * k:Nat):Int)+16))) (.int .i64 ((16 * k+16:Nat):Int))=true:=eqI (by rw [wrapI _ (by omega) (by omega)]; omega)
  simp only [allT,o1,o2,o3,o4,cond_true])
 rw [List.drop_zero] at a2
 have lp:=evS_loop (P:=Tryz.prog) (cs:=nq θ) (nt:=Tryz.f141.ntmps) (nn:=mask 141) (F:=F) (bs:=5) pi8_2 (fun j=>SI8 kf s r (B8 h p j) (16 * k) p j) p.length (fun j hj=>by
  have hj18:j < 18:=by omega
  have e:=putA_cellsU (B8 h p j) (B8 h p j j+(p.getD j 0).toUInt64) hj18
  have q:=d8r θ kf s p (j+1) j (16 * k) F r (B8 h p j) (B8 h p 0)
  rw [Int.toNat_natCast] at q
  rw [Int.toNat_natCast] at e
  rw [e] at q
  refine roundO2_ok (noPS_ok _) q ?_ (okI8 kf s p (j+1) (16 * k) r (B8 h p (j+1)))
  have o1:Nat.ble (0+j * 1+(cellsA (.u64 (B8 h p j j+(p.getD j 0).toUInt64))).length) 18=true:=Nat.ble_eq_true_of_le (by show 0+j * 1+1≤18; omega)
  have o2:decide ((j:Int) < 18)=true:=decide_eq_true (by omega)
  have o3:decide ((j:Int) < (p.length:Int))=true:=decide_eq_true (by omega)
  have o4:=isAt_cellsU (B8 h p j) hj18
  rw [Int.toNat_natCast] at o4
  simp only [allT,plus1 (show j < 1000 by omega),cellsU_len,o1,o2,o3,o4,nat0,Bool.and_self,cond_true])
  (end7 (d8x θ kf s p p.length (16 * k) F r (B8 h p p.length)) (by simp only [allT,decide_eq_false (show ¬ ((p.length:Int) < (p.length:Int)) by omega),Bool.not_false,cond_true])) (by omega)
 have hq18:p.length < 18:=by omega
 have e5:=putA_cellsU (B8 h p p.length) (B8 h p p.length p.length+1) hq18
 have a3:=d8q θ kf s p p.length (16 * k) F r (B8 h p p.length)
 rw [e5] at a3
 have a3:=segO_ok (noPS_ok _) a3 (by
  have o1:Nat.ble (0+(p.length:Int).toNat * 1+(cellsA (.u64 (B8 h p p.length p.length+1))).length) 18=true:=ble_i hq18
  have o2:decide ((p.length:Int) < 18)=true:=decide_eq_true (by omega)
  simp only [allT,cellsU_len,o1,o2,isAt_cellsU (B8 h p p.length) hq18,nat0,Bool.and_self,cond_true])
 have a4:=segO_ok (noPS_ok _) (d8m θ kf s p p.length (16 * k) F r (oneD h p)) rfl
 have e2:=evC_block (id:=7) (b:=bi8) ((evC_pieces _ _).trans (a2.trans (lp.trans (a3.trans (a4.trans (by rw [d8p]; rfl))))))
 have a5:=segO_pre (noPS_ok _) (d8z θ kf s p (16 * (k+1)) p.length (16 * k) F r (θ.mulR (gU (cellsU 18 (θ.carR (gU (cellsU 18 (oneD h p)))))) (gU (cellsU 18 r)))) (by
  have o4:eqS (.int .i64 (IntKind.wrap .i64 (((16 * k:Nat):Int)+16))) (.int .i64 ((16 * (k+1):Nat):Int))=true:=eqI (by rw [wrapI _ (by omega) (by omega)]; omega)
  simp only [allT,o4,cond_true])
 refine round_of44 ?_ (d8h kf s p (16 * (k+1)) p.length r _ (fun _=>0)) rfl (ok8 ..)
 rw [po8_eq,evS_append a1]
 simp only [evS,e2]
 exact a5
theorem f8_at:Tryz.prog.funcs[141]? = some Tryz.f141:=by kernel_rfl
theorem f8_body:Tryz.f141.body=some (bodyOf Tryz.f141):=by kernel_rfl
theorem run8 (θ:Fq) (kf:Nat→UInt8) (s:List UInt8) (hs:s.length < 1000000000000):(run1 Tryz.prog (nq θ) (mask 141) (s.length+100+100) 141 [.str (keyL kf),.str s] [] 5).map (·.1)=some (.tup [.str (docF θ kf s),.int .i64 0]):=by
 have a1:=segO_pre (noPS_ok _) (d8a θ kf s (s.length+100)) rfl
 have hn:nC s < s.length+100+100:=by unfold nC; omega
 have lp:=evS_loop (P:=Tryz.prog) (cs:=nq θ) (nt:=Tryz.f141.ntmps) (nn:=mask 141) (F:=s.length+100+100) (bs:=5) p8_12 (fun k=>S8 kf s (mk8 kf) (hD θ kf s k) (16 * k)) (nC s) (fun k hk=>round8 θ kf s (hD θ kf s k) _ k hk (by omega) hs)
  (end7 (d8e θ kf s (16 * nC s) (s.length+100+100) (mk8 kf) (hD θ kf s (nC s))) (by simp only [allT,decide_eq_false (show ¬ (((16 * nC s:Nat):Int) < (s.length:Int)) by unfold nC; omega),Bool.not_false,cond_true])) hn
 have z:=(ansF_ok2 (noPS_ok (nq θ)) (d8t θ kf s (16 * nC s) (s.length+100) (mk8 kf) (hD θ kf s (nC s))) rfl).1
 have hnm:Nat.ble ([AVal.str (keyL kf),.str s]:List AVal).length Tryz.f141.ntmps=true:=by kernel_rfl
 have e:pieces (bodyOf Tryz.f141)=(pieces (bodyOf Tryz.f141)).take 12++(pieces (bodyOf Tryz.f141)).drop 12:=(List.take_append_drop 12 _).symm
 have e2:=(congrArg (fun l=>evS Tryz.prog (nq θ) Tryz.f141.ntmps (mask 141) (s.length+100+100) 5 l ⟨startT [.str (keyL kf),.str s] 0,[],5⟩) e).trans ((evS_append a1).trans lp)
 exact (run1_val f8_at f8_body hnm).trans ((congrArg (finV Tryz.prog Tryz.f141) e2).trans z)
theorem callOk8 {θ:Fq}(hq:CSOk Tryz.prog (nq θ)) (kf:Nat→UInt8) (s:List UInt8) (hs:s.length < 1000000000000):CallOk Tryz.prog 141 [.str (keyL kf),.str s] (.pure (.tup [.str (docF θ kf s),.int .i64 0])):=
 callOk_val hq hmix (by rw [gl]; exact run8 θ kf s hs) rfl rfl
theorem run7n (θ:Fq) (k s:List UInt8):ansO (run1O Tryz.prog noPS (nq θ) [21] [true] [] (mask 116) 100 116 [.str k,.str s] [] Tryz.prog.globals.size)=some (.tup [.str [],.int .i64 2],[(k.length:Int) != 32]):=by kernel_rfl
theorem run8n (θ:Fq) (k s:List UInt8):ansO (run1O Tryz.prog noPS (nq θ) [20] [true] [] (mask 141) 100 141 [.str k,.str s] [] Tryz.prog.globals.size)=some (.tup [.str [],.int .i64 2],[(k.length:Int) != 32]):=by kernel_rfl
end Go.Proofs.YtanaackimepkdaaGreatDoor.Pol
namespace Go.Proofs.YtanaackimepkdaaGreatDoor.Pol
open Go Go.Eng Go.Poly
def nt (x:Nat→UInt64) (i:Nat):Nat:=(x i).toNat
def V5 (x:Nat→UInt64):Nat:=vN B26 (nt x) 5
def V18 (x:Nat→UInt64):Nat:=vN 256 (nt x) 18
theorem shr_n (x:UInt64) (s:Nat) (h:s < 64):(shr_u64 x s).toNat=x.toNat / 2 ^ s:=shr_nat x s h
theorem add_n {x y:UInt64}(h:x.toNat+y.toNat < 18446744073709551616):(x+y).toNat=x.toNat+y.toNat:=by
 rw [UInt64.toNat_add]; exact Nat.mod_eq_of_lt h
theorem mul_n {x y:UInt64}(h:x.toNat * y.toNat < 18446744073709551616):(x * y).toNat=x.toNat * y.toNat:=by
 rw [UInt64.toNat_mul]; exact Nat.mod_eq_of_lt h
theorem and26 (x:UInt64):(x &&& 67108863).toNat=x.toNat % 67108864:=by
 rw [UInt64.toNat_and]
 exact Nat.and_two_pow_sub_one_eq_mod x.toNat 26
theorem and8 (x:UInt64):(x &&& 255).toNat=x.toNat % 256:=by
 rw [UInt64.toNat_and]
 exact Nat.and_two_pow_sub_one_eq_mod x.toNat 8
theorem and2 (x:UInt64):(x &&& 3).toNat=x.toNat % 4:=by
 rw [UInt64.toNat_and]
 exact Nat.and_two_pow_sub_one_eq_mod x.toNat 2
abbrev M62:Nat:=4611686018427387904
theorem ch_lt {b:Nat}(hb:2≤b){X:Nat→Nat}{j:Nat}(h:∀ i,i≤j→X i < M62):chN b X j < 2 * M62:=by
 have:=ch_bound hb (x:=X) (M:=M62 - 1) (j:=j) fun i hi=>by have:=h i hi; omega
 unfold M62 at *
 omega
theorem chS_n {s:Nat}(h1:1≤s) (h2:s < 64){x:Nat→UInt64}:∀ {j:Nat},(∀ i,i≤j→nt x i < M62)→(chS s x j).toNat=chN (2 ^ s) (nt x) j
 | 0,h=>by
  show (x 0+0).toNat=_
  rw [UInt64.add_zero]; rfl
 | j+1,h=>by
  have hb:2≤2 ^ s:=by
   have:=Nat.pow_le_pow_right (n:=2) (by omega) h1
   simpa using this
  have ih:=chS_n h1 h2 (x:=x) (j:=j) fun i hi=>h i (by omega)
  have hl:=ch_lt hb (X:=nt x) (j:=j+1) h
  have e:chN (2 ^ s) (nt x) (j+1)=nt x (j+1)+chN (2 ^ s) (nt x) j / 2 ^ s:=rfl
  show (x (j+1)+shr_u64 (chS s x j) s).toNat=_
  have es:(shr_u64 (chS s x j) s).toNat=chN (2 ^ s) (nt x) j / 2 ^ s:=by rw [shr_n _ _ h2,ih]
  rw [add_n (by rw [es]; unfold nt at *; unfold M62 at *; omega),es,e]; rfl
theorem chN_congr {b:Nat}{X Y:Nat→Nat}:∀ {j:Nat},(∀ i,i≤j→X i=Y i)→chN b X j=chN b Y j
 | 0,h=>h 0 (by omega)
 | j+1,h=>by
  show X (j+1)+chN b X j / b=Y (j+1)+chN b Y j / b
  rw [h (j+1) (by omega),chN_congr (j:=j) fun i hi=>h i (by omega)]
theorem pass5_congr {X Y:Nat→Nat}(h:∀ i,i < 5→X i=Y i){j:Nat}(hj:j < 5):pass5 X j=pass5 Y j:=by
 unfold pass5
 rw [chN_congr (X:=X) (Y:=Y) (j:=0) fun i hi=>h i (by omega),chN_congr (X:=X) (Y:=Y) (j:=4) fun i hi=>h i (by omega),chN_congr (X:=X) (Y:=Y) (j:=j) fun i hi=>h i (by omega)]
theorem cpass_n {x:Nat→UInt64}(h:∀ i,i < 5→nt x i < M62){j:Nat}(hj:j < 5):nt (cpass x) j=pass5 (nt x) j:=by
 have hc:∀ k,k < 5→(chS 26 x k).toNat=chN B26 (nt x) k:=fun k hk=>chS_n (by omega) (by omega) fun i hi=>h i (by omega)
 have h4:=ch_lt (b:=B26) (by unfold B26; omega) (X:=nt x) (j:=4) fun i hi=>h i (by omega)
 have e4:(shr_u64 (chS 26 x 4) 26).toNat=chN B26 (nt x) 4 / B26:=by rw [shr_n _ _ (by omega),hc 4 (by omega)]
 show (cpass x j).toNat=_
 unfold cpass pass5
 by_cases e:j=0
 ·subst e
  rw [if_pos rfl,show Nat.beq 0 0=true by rfl,cond_true]
  have e5:(5 * shr_u64 (chS 26 x 4) 26).toNat=5 * (chN B26 (nt x) 4 / B26):=by
   have:(5:UInt64).toNat=5:=rfl
   rw [mul_n (by rw [e4,this]; unfold M62 B26 at *; omega),e4,this]
  have e6:(chS 26 x 0 &&& 67108863).toNat=chN B26 (nt x) 0 % B26:=by rw [and26,hc 0 (by omega)]
  rw [add_n (by rw [e5,e6]; unfold M62 B26 at *; omega),e5,e6]
 ·rw [if_neg e,show Nat.beq j 0=false by cases j with | zero=>exact absurd rfl e | succ j=>rfl,cond_false,and26,hc j hj]
theorem cpass_lt {x:Nat→UInt64}(h:∀ i,i < 5→nt x i < M62):∀ i,i < 5→nt (cpass x) i < M62:=fun i hi=>by
 rw [cpass_n h hi]
 obtain ⟨a,b⟩:=pass5_1 (X:=nt x) h
 by_cases e:i=0
 ·subst e; unfold M62; omega
 ·have:=b i (by omega) hi
  unfold B26 at this
  unfold M62
  omega
theorem carF_n {x:Nat→UInt64}(h:∀ i,i < 5→nt x i < M62):∀ j,j < 5→nt (carF x) j=carN5 (nt x) j:=fun j hj=>by
 unfold carF carN5
 rw [cpass_n (cpass_lt h) hj]
 exact pass5_congr (fun i hi=>cpass_n h hi) hj
theorem N5_congr {X Y:Nat→Nat}(h:∀ i,i < 5→X i=Y i) (hN:N5 Y):N5 X:=⟨by rw [h 0 (by omega)]; exact hN.1,fun i h0 hi=>by rw [h i hi]; exact hN.2 i h0 hi⟩
theorem T5_congr {X Y:Nat→Nat}(h:∀ i,i < 5→X i=Y i) (hN:T5 Y):T5 X:=fun i hi=>by rw [h i hi]; exact hN i hi
theorem carF_ok {x:Nat→UInt64}(h:∀ i,i < 5→nt x i < M62):N5 (nt (carF x))∧V5 (carF x) % Pp=V5 x % Pp∧(N5 (nt x)→T5 (nt (carF x))):=by
 have e:=carF_n h
 refine ⟨N5_congr e (carN5_ok h),?_,fun hn=>T5_congr e (carN5_tight hn)⟩
 unfold V5
 rw [vN_congr e,carN5_mod]
theorem N5_62 {X:Nat→Nat}(h:N5 X):∀ i,i < 5→X i < M62:=fun i hi=>by
 have:=N5_lt h i hi
 unfold M62
 omega
theorem nt_nU (x:Nat→UInt64) (k:Nat):∀ i,i < k→nt (nU k x) i=nt x i:=fun i hi=>by unfold nt nU; rw [if_pos hi]
theorem V5_nU (x:Nat→UInt64):V5 (nU 5 x)=V5 x:=vN_congr (nt_nU x 5)
theorem V18_nU (x:Nat→UInt64):V18 (nU 18 x)=V18 x:=vN_congr (nt_nU x 18)
theorem zS_n {x y:Nat→UInt64}(hx:∀ i,i < 5→nt x i < 134217728) (hy:∀ i,i < 5→nt y i < 134217728){j:Nat}(hj:j < 5):∀ k,k≤5→(zS x y j k).toNat=zN (nt x) (nt y) j k∧zN (nt x) (nt y) j k≤k * 90071992547409920
 | 0,_=>⟨rfl,Nat.le_refl _⟩
 | k+1,hk=>by
  obtain ⟨h1,h2⟩:=zS_n hx hy hj k (by omega)
  have xk:=hx k (by omega)
  have hf:∀ m,m < 5→(y m * 5).toNat=nt y m * 5:=fun m hm=>by
   have:=hy m hm
   have e5:(5:UInt64).toNat=5:=rfl
   rw [mul_n (by rw [e5]; unfold nt at this; omega),e5]; rfl
  have key:∃ u:Nat,(cond (Nat.ble k j) (y (j - k)) (y (j+5 - k) * 5)).toNat=u∧(if k≤j then nt y (j - k) else nt y (j+5 - k) * 5)=u∧u≤671088640:=by
   by_cases h:k≤j
   ·rw [Nat.ble_eq_true_of_le h,if_pos h,cond_true]
    have:=hy (j - k) (by omega)
    exact ⟨_,rfl,rfl,by unfold nt at *; omega⟩
   ·have hb:Nat.ble k j=false:=by
     cases hb:Nat.ble k j with
     | false=>rfl
     | true=>exact absurd (Nat.le_of_ble_eq_true hb) h
    rw [hb,if_neg h,cond_false]
    have:=hy (j+5 - k) (by omega)
    exact ⟨_,hf _ (by omega),rfl,by omega⟩
  obtain ⟨u,k1,k2,k3⟩:=key
  have hm:nt x k * u≤134217728 * 671088640:=Nat.mul_le_mul (by omega) k3
  have e1:zN (nt x) (nt y) j (k+1)=zN (nt x) (nt y) j k+nt x k * u:=by rw [← k2]; rfl
  have hxm:(x k * cond (Nat.ble k j) (y (j - k)) (y (j+5 - k) * 5)).toNat=nt x k * u:=by
   have:(x k).toNat=nt x k:=rfl
   rw [mul_n (by rw [k1,this]; omega),k1]; rfl
  rw [e1]
  refine ⟨?_,by rw [Nat.add_mul]; omega⟩
  show (zS x y j k+x k * cond (Nat.ble k j) (y (j - k)) (y (j+5 - k) * 5)).toNat=_
  rw [add_n (by rw [h1,hxm]; omega),h1,hxm]
theorem mulF_ok {x y:Nat→UInt64}(hx:∀ i,i < 5→nt x i < 134217728) (hy:∀ i,i < 5→nt y i < 134217728):N5 (nt (mulF x y))∧V5 (mulF x y) % Pp=V5 x * V5 y % Pp:=by
 have e:∀ j,j < 5→nt (nU 5 fun j=>zS x y j 5) j=zN (nt x) (nt y) j 5:=fun j hj=>by
  rw [nt_nU _ _ j hj]
  exact (zS_n hx hy hj 5 (by omega)).1
 have hl:∀ i,i < 5→nt (nU 5 fun j=>zS x y j 5) i < M62:=fun i hi=>by
  have:=(zS_n hx hy hi 5 (by omega)).2
  rw [e i hi]
  unfold M62
  omega
 unfold mulF
 rw [gU_cellsU]
 obtain ⟨h1,h2,_⟩:=carF_ok hl
 refine ⟨h1,?_⟩
 rw [h2]
 unfold V5
 rw [vN_congr e,zN_mod]
theorem plus5_n {x:Nat→UInt64}(h:nt x 0 < M62):∀ i,nt (plus5 x) i=if i=0 then nt x 0+5 else nt x i:=fun i=>by
 unfold plus5
 cases i with
 | zero =>
  show (x 0+5).toNat=_
  have e5:(5:UInt64).toNat=5:=rfl
  rw [if_pos rfl,add_n (by rw [e5]; unfold nt M62 at h; omega),e5]; rfl
 | succ i=>rfl
theorem redF_ok {x:Nat→UInt64}(h:∀ i,i < 5→nt x i < M62):T5 (nt (redF x))∧V5 (redF x)=V5 x % Pp:=by
 obtain ⟨w,hw⟩:∃ w,w=car2 τr x:=⟨_,rfl⟩
 have hT:T5 (nt w)∧V5 w % Pp=V5 x % Pp:=by
  have e:w=nU 5 (carF (nU 5 (carF (nU 5 x)))):=by
   rw [hw]; unfold car2
   rw [gU_cellsU,gU_cellsU,gU_cellsU]; rfl
  have a0:∀ i,i < 5→nt (nU 5 x) i < M62:=fun i hi=>by rw [nt_nU _ _ i hi]; exact h i hi
  obtain ⟨b1,b2,_⟩:=carF_ok a0
  have c0:N5 (nt (nU 5 (carF (nU 5 x)))):=N5_congr (nt_nU _ 5) b1
  obtain ⟨d1,d2,d3⟩:=carF_ok (N5_62 c0)
  rw [e]
  refine ⟨T5_congr (nt_nU _ 5) (d3 c0),?_⟩
  rw [V5_nU,d2,V5_nU,b2,V5_nU]
 obtain ⟨hT,hV⟩:=hT
 have hlt:V5 w < B26 ^ 5:=vN_lt (by unfold B26; omega) hT
 have hw62:∀ i,i < 5→nt w i < 67108864:=hT
 have hp5:=plus5_n (x:=w) (by have:=hw62 0 (by omega); unfold M62; omega)
 have hpl:∀ i,i < 5→nt (plus5 w) i < M62:=fun i hi=>by
  have:=hw62 i hi
  have:=hw62 0 (by omega)
  rw [hp5 i]
  unfold M62
  split <;> omega
 have hch:∀ j,j < 5→(chS 26 (plus5 w) j).toNat=chN B26 (nt (plus5 w)) j:=fun j hj=>chS_n (by omega) (by omega) fun i hi=>hpl i (by omega)
 have hv5:vN B26 (nt (plus5 w)) 5=V5 w+5:=by
  have:=vN_upd B26 (nt w) 0 5 5 (by omega)
  rw [Nat.pow_zero,Nat.mul_one] at this
  unfold V5
  rw [← this]
  exact vN_congr fun i _=>hp5 i
 have hc:=carry_val B26 (nt (plus5 w)) 4
 have hcv:vN B26 (nt (plus5 w)) (4+1)=V5 w+5:=hv5
 rw [hcv] at hc
 have hr5:∀ i,i < 5→nt (red5 w) i=chN B26 (nt (plus5 w)) i % B26:=fun i hi=>by
  show (chS 26 (plus5 w) i &&& 67108863).toNat=_
  rw [and26,hch i hi]
 have hrT:T5 (nt (red5 w)):=fun i hi=>by rw [hr5 i hi]; exact Nat.mod_lt _ (by unfold B26; omega)
 have hrV:vN B26 (fun i=>chN B26 (nt (plus5 w)) i % B26) (4+1)=V5 (red5 w):=(vN_congr hr5).symm
 rw [hrV] at hc
 have hrl:V5 (red5 w) < B26 ^ 5:=vN_lt (by unfold B26; omega) hrT
 have hC:(redC w).toNat=chN B26 (nt (plus5 w)) 4 / B26:=by
  show (shr_u64 (chS 26 (plus5 w) 4) 26).toNat=_
  rw [shr_n _ _ (by omega),hch 4 (by omega)]
 rw [← hC] at hc
 have hcond:decide (0 < redC w)=decide (0 < (redC w).toNat):=decide_eq_decide.2 UInt64.lt_iff_toNat_lt
 have hP:=Pp_eq
 have hB:B26 ^ 5=2 ^ 130:=rfl
 have hB':B26 ^ (4+1)=2 ^ 130:=rfl
 rw [hB] at hlt hrl
 rw [hB'] at hc
 unfold redF
 rw [← hw,hcond,← hV]
 generalize (redC w).toNat=k at *
 by_cases hk:0 < k
 ·rw [decide_eq_true hk,cond_true]
  refine ⟨hrT,?_⟩
  generalize V5 (red5 w)=r at *
  generalize V5 w=v at *
  have hk1:k=1:=by omega
  subst hk1
  have:v=r+Pp:=by omega
  have hrP:r < Pp:=by omega
  rw [this,Nat.add_mod_right,Nat.mod_eq_of_lt hrP]
 ·rw [decide_eq_false hk,cond_false]
  refine ⟨hT,?_⟩
  generalize V5 (red5 w)=r at *
  generalize V5 w=v at *
  rw [Nat.mod_eq_of_lt (by omega)]
end Go.Proofs.YtanaackimepkdaaGreatDoor.Pol
namespace Go.Proofs.YtanaackimepkdaaGreatDoor.Pol
open Go Go.Eng Go.Poly
abbrev M40:Nat:=1099511627776
theorem or_n {a b k:Nat}(h:b < 2 ^ k):(b ||| 2 ^ k * a)=b+2 ^ k * a:=by
 rw [Nat.or_comm,← Nat.two_pow_add_eq_or_of_lt h,Nat.add_comm]
theorem shl_n (x:UInt64) (k:Nat) (hk:k < 64) (h:x.toNat * 2 ^ k < 18446744073709551616):(shl_u64 x k).toNat=x.toNat * 2 ^ k:=shl_nat x k hk h
theorem chS8 {x:Nat→UInt64}{n:Nat}(h:∀ i,i < n→nt x i < M40){j:Nat}(hj:j < n):(chS 8 x j).toNat=chN 256 (nt x) j:=
 chS_n (s:=8) (by omega) (by omega) fun i hi=>by have:=h i (by omega); unfold M40 M62 at *; omega
theorem ch40 {X:Nat→Nat}{j:Nat}(h:∀ i,i≤j→X i < M40):chN 256 X j < 2 * M40:=by
 have:=ch_bound (b:=256) (by omega) (x:=X) (M:=M40 - 1) (j:=j) fun i hi=>by have:=h i hi; omega
 unfold M40 at *
 omega
theorem top_n {x:Nat→UInt64}(h:∀ i,i < 18→nt x i < M40):((shr_u64 (chS 8 x 16 &&& 255) 2 ||| shl_u64 (chS 8 x 17 &&& 255) 6) ||| shl_u64 (shr_u64 (chS 8 x 17) 8) 14).toNat=topN (nt x)∧topN (nt x) < M40 * M40 / 1048576:=by
 have h16:=chS8 h (show 16 < 18 by omega)
 have h17:=chS8 h (show 17 < 18 by omega)
 have b17:=ch40 (X:=nt x) (j:=17) fun i hi=>h i (by omega)
 have a1:(shr_u64 (chS 8 x 16 &&& 255) 2).toNat=chN 256 (nt x) 16 % 256 / 4:=by rw [shr_n _ _ (by omega),and8,h16]
 have a2:(shl_u64 (chS 8 x 17 &&& 255) 6).toNat=2 ^ 6 * (chN 256 (nt x) 17 % 256):=by
  rw [shl_n _ _ (by omega) (by rw [and8]; omega),and8,h17,Nat.mul_comm]
 have a3':(shr_u64 (chS 8 x 17) 8).toNat=chN 256 (nt x) 17 / 256:=by rw [shr_n _ _ (by omega),h17]
 have a3:(shl_u64 (shr_u64 (chS 8 x 17) 8) 14).toNat=2 ^ 14 * (chN 256 (nt x) 17 / 256):=by
  rw [shl_n _ _ (by omega) (by rw [a3']; unfold M40 at *; omega),a3',Nat.mul_comm]
 rw [UInt64.toNat_or,UInt64.toNat_or,a1,a2,a3]
 unfold topN
 unfold M40 at *
 generalize chN 256 (nt x) 16=u at *
 generalize chN 256 (nt x) 17=w at *
 have o1:(u % 256 / 4 ||| 2 ^ 6 * (w % 256))=u % 256 / 4+2 ^ 6 * (w % 256):=or_n (by omega)
 rw [o1,or_n (by omega)]
 omega
theorem rpass_n {x:Nat→UInt64}(h:∀ i,i < 18→nt x i < M40){j:Nat}(hj:j < 18):nt (rpass x) j=rpassN (nt x) j:=by
 obtain ⟨t1,t2⟩:=top_n h
 have hc:∀ i,i < 18→(chS 8 x i &&& 255).toNat=chN 256 (nt x) i % 256:=fun i hi=>by rw [and8,chS8 h hi]
 by_cases h0:j=0
 ·subst h0
  show ((chS 8 x 0 &&& 255)+5 * ((shr_u64 (chS 8 x 16 &&& 255) 2 ||| shl_u64 (chS 8 x 17 &&& 255) 6) ||| shl_u64 (shr_u64 (chS 8 x 17) 8) 14)).toNat=chN 256 (nt x) 0 % 256+5 * topN (nt x)
  have e5:(5:UInt64).toNat=5:=rfl
  have e6:(5 * ((shr_u64 (chS 8 x 16 &&& 255) 2 ||| shl_u64 (chS 8 x 17 &&& 255) 6) ||| shl_u64 (shr_u64 (chS 8 x 17) 8) 14)).toNat=5 * topN (nt x):=by
   rw [mul_n (by rw [e5,t1]; unfold M40 at *; omega),t1,e5]
  rw [add_n (by rw [e6,hc 0 (by omega)]; unfold M40 at *; omega),e6,hc 0 (by omega)]
 by_cases h1:j=16
 ·subst h1
  show ((chS 8 x 16 &&& 255) &&& 3).toNat=chN 256 (nt x) 16 % 256 % 4
  rw [and2,hc 16 (by omega)]
 by_cases h2:j=17
 ·subst h2; rfl
 have e1:rpass x j=(chS 8 x j &&& 255):=by
  unfold rpass
  split
  ·exact absurd rfl h0
  ·exact absurd rfl h1
  ·exact absurd rfl h2
  ·rfl
 show (rpass x j).toNat=_
 rw [e1,hc j hj]
 unfold rpassN lowN
 rw [if_neg h0,if_neg h1,if_neg h2]
theorem rpassN_congr {X Y:Nat→Nat}(h:∀ i,i < 18→X i=Y i){j:Nat}(hj:j < 18):rpassN X j=rpassN Y j:=by
 have hc:∀ k,k < 18→chN 256 X k=chN 256 Y k:=fun k hk=>chN_congr fun i hi=>h i (by omega)
 unfold rpassN lowN topN
 rw [hc 0 (by omega),hc 16 (by omega),hc 17 (by omega),hc j hj]
theorem carR_n {x:Nat→UInt64}(h:∀ i,i < 18→nt x i≤4096):∀ j,j < 18→nt (carR x) j=carN18 (nt x) j:=fun j hj=>by
 have h0:∀ i,i < 18→nt x i < M40:=fun i hi=>by have:=h i hi; unfold M40; omega
 have v0:=val_4096 (X:=nt x) h
 obtain ⟨v1,v2,v3⟩:=car18_vals v0
 have e1:∀ i,i < 18→nt (rpass x) i=rpassN (nt x) i:=fun i hi=>rpass_n h0 hi
 have h1:∀ i,i < 18→nt (rpass x) i < M40:=fun i hi=>by
  have:=rpass_le v0 i hi
  rw [e1 i hi]; unfold M40; omega
 have e2:∀ i,i < 18→nt (rpass (rpass x)) i=rpassN (rpassN (nt x)) i:=fun i hi=>by rw [rpass_n h1 hi,rpassN_congr e1 hi]
 have h2:∀ i,i < 18→nt (rpass (rpass x)) i < M40:=fun i hi=>by
  have:=rpass_le v1 i hi
  rw [e2 i hi]; unfold M40; omega
 have e3:∀ i,i < 18→nt (rpass (rpass (rpass x))) i=rpassN (rpassN (rpassN (nt x))) i:=fun i hi=>by rw [rpass_n h2 hi,rpassN_congr e2 hi]
 have h3:∀ i,i < 18→nt (rpass (rpass (rpass x))) i < M40:=fun i hi=>by
  have:=rpass_le (X:=rpassN (rpassN (nt x))) (c:=0) (by omega) i hi
  rw [e3 i hi]; unfold M40; omega
 show (chS 8 (rpass (rpass (rpass x))) j &&& 255).toNat=chN 256 (rpassN (rpassN (rpassN (nt x)))) j % 256
 rw [and8,chS8 h3 hj,chN_congr fun i hi=>e3 i (by omega)]
theorem C18_congr {X Y:Nat→Nat}(h:∀ i,i < 18→X i=Y i) (hC:C18 Y):C18 X:=⟨fun i hi=>by rw [h i hi]; exact hC.1 i hi,by rw [vN_congr h]; exact hC.2⟩
theorem carR_ok {x:Nat→UInt64}(h:∀ i,i < 18→nt x i≤4096):C18 (nt (carR x))∧V18 (carR x) % Pp=V18 x % Pp:=by
 have e:=carR_n h
 obtain ⟨a,b⟩:=car18_ok (X:=nt x) h
 refine ⟨C18_congr e a,?_⟩
 unfold V18
 rw [vN_congr e,b]
theorem tR_n {a b:Nat→UInt64}(ha:∀ i,i < 18→nt a i < 256) (hb:∀ i,i < 18→nt b i < 256) (m:Nat):∀ k,k≤18→(tR a b m k).toNat=prN (nt a) (nt b) 18 m k∧prN (nt a) (nt b) 18 m k≤k * 65025
 | 0,_=>⟨rfl,Nat.le_refl _⟩
 | k+1,hk=>by
  obtain ⟨h1,h2⟩:=tR_n ha hb m k (by omega)
  have e:prN (nt a) (nt b) 18 m (k+1)=prN (nt a) (nt b) 18 m k+rowN (nt b) (nt a k) k 18 m:=rfl
  have ak:=ha k (by omega)
  rw [e]
  show (cond (Nat.ble k m && Nat.ble m (k+17)) (tR a b m k+a k * b (m - k)) (tR a b m k)).toNat=_∧_
  by_cases hc:k≤m∧m < k+18
  ·have hbm:=hb (m - k) (by omega)
   have hm:nt a k * nt b (m - k)≤255 * 255:=Nat.mul_le_mul (by omega) (by omega)
   have er:rowN (nt b) (nt a k) k 18 m=nt a k * nt b (m - k):=by unfold rowN; rw [if_pos hc]
   have em:(a k * b (m - k)).toNat=nt a k * nt b (m - k):=mul_n (by unfold nt at hm; omega)
   rw [Nat.ble_eq_true_of_le hc.1,Nat.ble_eq_true_of_le (show m≤k+17 by omega),er]
   simp only [Bool.and_self,cond_true]
   exact ⟨by rw [add_n (by rw [h1,em]; omega),h1,em],by rw [Nat.add_mul]; omega⟩
  ·have er:rowN (nt b) (nt a k) k 18 m=0:=by unfold rowN; rw [if_neg hc]
   have hb:(Nat.ble k m && Nat.ble m (k+17))=false:=by
    cases hb:(Nat.ble k m && Nat.ble m (k+17)) with
    | false=>rfl
    | true =>
     rw [Bool.and_eq_true] at hb
     have:=Nat.le_of_ble_eq_true hb.1
     have:=Nat.le_of_ble_eq_true hb.2
     exact absurd ⟨by omega,by omega⟩ hc
   rw [hb,cond_false,er,Nat.add_zero,Nat.add_mul]
   exact ⟨h1,Nat.le_trans h2 (Nat.le_add_right _ _)⟩
theorem tC_n {a b:Nat→UInt64}(ha:∀ i,i < 18→nt a i < 256) (hb:∀ i,i < 18→nt b i < 256) (j:Nat):nt (tC a b) j=tcN (nt a) (nt b) j:=by
 have e:∀ i,nt (fun m=>tR a b m 18) i=tN18 (nt a) (nt b) i:=fun i=>(tR_n ha hb i 18 (by omega)).1
 have hl:∀ i,i < j+1→nt (fun m=>tR a b m 18) i < M40:=fun i _=>by
  have:=(tR_n ha hb i 18 (by omega)).2
  rw [e i]
  unfold tN18 M40
  omega
 show (chS 8 (fun m=>tR a b m 18) j &&& 255).toNat=_
 rw [and8,chS8 hl (by omega),chN_congr fun i _=>e i]
 unfold tcN
 rfl
theorem hi_n {x y:UInt64}(hx:x.toNat < 256) (hy:y.toNat < 256):(shr_u64 x 2 ||| (shl_u64 y 6 &&& 255)).toNat=x.toNat / 4+y.toNat % 4 * 64:=by
 have a1:(shr_u64 x 2).toNat=x.toNat / 4:=by rw [shr_n _ _ (by omega)]
 have a2:(shl_u64 y 6 &&& 255).toNat=2 ^ 6 * (y.toNat % 4):=by rw [and8,shl_n _ _ (by omega) (by omega)]; omega
 rw [UInt64.toNat_or,a1,a2,or_n (by omega)]
 omega
theorem prR_n {a b:Nat→UInt64}(ha:∀ i,i < 18→nt a i < 256) (hb:∀ i,i < 18→nt b i < 256):∀ j,j < 18→nt (prR a b) j=prR18 (nt a) (nt b) j:=fun j hj=>by
 have ht:=tC_n ha hb
 have htl:∀ i,nt (tC a b) i < 256:=fun i=>by rw [ht i]; exact Nat.mod_lt _ (by omega)
 have h1:nt (loR a b) j=loN (nt a) (nt b) j:=by
  show (loR a b j).toNat=_
  unfold loR loN
  by_cases c:17≤j
  ·rw [Nat.ble_eq_true_of_le c,if_pos c]; rfl
  ·have hb:Nat.ble 17 j=false:=by
    cases hb:Nat.ble 17 j with
    | false=>rfl
    | true=>exact absurd (Nat.le_of_ble_eq_true hb) c
   rw [hb,if_neg c,cond_false]
   by_cases d:j=16
   ·subst d
    rw [if_pos rfl,show Nat.beq 16 16=true by rfl,cond_true,and2,← ht 16]; rfl
   ·have hq:Nat.beq j 16=false:=by
     cases hq:Nat.beq j 16 with
     | false=>rfl
     | true=>exact absurd (Nat.eq_of_beq_eq_true hq) d
    rw [if_neg d,hq,cond_false,← ht j]; rfl
 have h2:nt (hiR a b) j=hiN (nt a) (nt b) j:=by
  show (hiR a b j).toNat=_
  unfold hiR hiN
  by_cases c:17≤j
  ·rw [Nat.ble_eq_true_of_le c,if_pos c]; rfl
  ·have hb:Nat.ble 17 j=false:=by
    cases hb:Nat.ble 17 j with
    | false=>rfl
    | true=>exact absurd (Nat.le_of_ble_eq_true hb) c
   rw [hb,if_neg c,cond_false,hi_n (htl (16+j)) (htl (17+j)),← ht (16+j),← ht (17+j)]; rfl
 have hle:=prR18_le (a:=nt a) (b:=nt b) j hj
 have e5:(5:UInt64).toNat=5:=rfl
 have hle2:loN (nt a) (nt b) j+5 * hiN (nt a) (nt b) j≤4096:=hle
 have h1':(loR a b j).toNat=loN (nt a) (nt b) j:=h1
 have h2':(hiR a b j).toNat=hiN (nt a) (nt b) j:=h2
 have e6:(5 * hiR a b j).toNat=5 * hiN (nt a) (nt b) j:=by rw [mul_n (by rw [e5,h2']; omega),e5,h2']
 show (loR a b j+5 * hiR a b j).toNat=loN (nt a) (nt b) j+5 * hiN (nt a) (nt b) j
 rw [add_n (by rw [e6,h1']; omega),e6,h1']
theorem mulRF_ok {a b:Nat→UInt64}(ha:C18 (nt a)) (hb:C18 (nt b)):C18 (nt (mulRF a b))∧V18 (mulRF a b) % Pp=V18 a * V18 b % Pp:=by
 have e:=prR_n ha.1 hb.1
 have h1:∀ i,i < 18→nt (nU 18 (prR a b)) i≤4096:=fun i hi=>by rw [nt_nU _ _ i hi,e i hi]; exact prR18_le i hi
 unfold mulRF
 rw [gU_cellsU]
 obtain ⟨c,d⟩:=carR_ok h1
 refine ⟨c,?_⟩
 rw [d,V18_nU]
 unfold V18
 rw [vN_congr e,times18 ha.2 hb.2]
theorem wholeF_ok {x:Nat→UInt64}(h:∀ i,i < 18→nt x i≤4096):C18 (nt (wholeF x))∧V18 (wholeF x)=V18 x % Pp:=by
 obtain ⟨w,hw⟩:∃ w,w=whG τr x:=⟨_,rfl⟩
 have hT:C18 (nt w)∧V18 w % Pp=V18 x % Pp:=by
  have e:w=nU 18 (carR (nU 18 x)):=by rw [hw]; unfold whG; rw [gU_cellsU,gU_cellsU]; rfl
  have a0:∀ i,i < 18→nt (nU 18 x) i≤4096:=fun i hi=>by rw [nt_nU _ _ i hi]; exact h i hi
  obtain ⟨b1,b2⟩:=carR_ok a0
  rw [e]
  exact ⟨C18_congr (nt_nU _ 18) b1,by rw [V18_nU,b2,V18_nU]⟩
 obtain ⟨⟨hD,hL⟩,hV⟩:=hT
 have hp5:=plus5_n (x:=w) (by have:=hD 0 (by omega); unfold M62; omega)
 have hpl:∀ i,i < 18→nt (plus5 w) i < M40:=fun i hi=>by
  have:=hD i hi
  have:=hD 0 (by omega)
  rw [hp5 i]
  unfold M40
  split <;> omega
 have hw5:∀ i,i < 18→nt (wh5 w) i=chN 256 (nt (plus5 w)) i % 256:=fun i hi=>by
  show (chS 8 (plus5 w) i &&& 255).toNat=_
  rw [and8,chS8 hpl hi]
 have hv5:vN 256 (nt (plus5 w)) 18=V18 w+5:=by
  have:=vN_upd 256 (nt w) 0 5 18 (by omega)
  rw [Nat.pow_zero,Nat.mul_one] at this
  unfold V18
  rw [← this]
  exact vN_congr fun i _=>hp5 i
 have hc:=carry_val 256 (nt (plus5 w)) 17
 have hcv:vN 256 (nt (plus5 w)) (17+1)=V18 w+5:=hv5
 have hrV:vN 256 (fun i=>chN 256 (nt (plus5 w)) i % 256) (17+1)=V18 (wh5 w):=(vN_congr hw5).symm
 rw [hcv,hrV] at hc
 have hlt:V18 w < 2 ^ 130:=hL
 have hd5:∀ i,i < 18→nt (wh5 w) i < 256:=fun i hi=>by rw [hw5 i hi]; exact Nat.mod_lt _ (by omega)
 have hval:V18 (wh5 w)=V18 w+5:=by
  generalize V18 (wh5 w)=r at *
  generalize V18 w=v at *
  generalize chN 256 (nt (plus5 w)) 17 / 256=k at *
  clear hw5 hD hp5 hpl hd5 hrV
  have hc':v+5=r+k * 256 ^ 18:=hc
  omega
 have h17:nt (wh5 w) 17=0:=vN_high (b:=256) (by omega) (x:=nt (wh5 w)) (n:=18) (k:=17) (by
  have:vN 256 (nt (wh5 w)) 18=V18 w+5:=hval
  rw [this]
  generalize V18 w=v at *
  clear hw5 hD hp5 hpl hd5 hrV hc
  omega) (by omega) (by omega)
 have hsp:=vN_18 (nt (wh5 w))
 have h16:=vN_lt (b:=256) (by omega) (x:=nt (wh5 w)) (n:=16) fun i hi=>hd5 i (by omega)
 have hd16:=hd5 16 (by omega)
 rw [h17,Nat.zero_mul,Nat.add_zero,show vN 256 (nt (wh5 w)) 18=V18 w+5 from hval] at hsp
 have hcond:decide (4≤wh5 w 16)=decide (4≤nt (wh5 w) 16):=decide_eq_decide.2 UInt64.le_iff_toNat_le
 have hP:=Pp_eq
 have hw3:∀ i,i < 18→nt (wh3 w) i=if i=16 then nt (wh5 w) 16 % 4 else nt (wh5 w) i:=fun i hi=>by
  show (wh3 w i).toNat=_
  unfold wh3
  by_cases d:i=16
  ·subst d
   rw [if_pos rfl,show Nat.beq 16 16=true by rfl,cond_true,and2]; rfl
  ·have hq:Nat.beq i 16=false:=by
    cases hq:Nat.beq i 16 with
    | false=>rfl
    | true=>exact absurd (Nat.eq_of_beq_eq_true hq) d
   rw [if_neg d,hq,cond_false]; rfl
 have hv3:V18 (wh3 w)=vN 256 (nt (wh5 w)) 16+nt (wh5 w) 16 % 4 * 256 ^ 16:=by
  show vN 256 (nt (wh3 w)) 18=_
  rw [vN_18,hw3 16 (by omega),hw3 17 (by omega),if_pos rfl,if_neg (by omega),h17,Nat.zero_mul,Nat.add_zero,vN_congr (x:=nt (wh3 w)) (y:=nt (wh5 w)) fun i hi=>by rw [hw3 i (by omega),if_neg (by omega)]]
 have hd3:∀ i,i < 18→nt (wh3 w) i < 256:=fun i hi=>by
  rw [hw3 i hi]
  split
  ·omega
  ·exact hd5 i hi
 unfold wholeF
 rw [← hw,hcond,← hV]
 by_cases hk:4≤nt (wh5 w) 16
 ·rw [decide_eq_true hk,cond_true]
  have:V18 (wh3 w)=V18 w % Pp:=by
   rw [hv3]
   generalize V18 w=v at *
   generalize vN 256 (nt (wh5 w)) 16=u at *
   generalize nt (wh5 w) 16=d at *
   clear hw5 hD hp5 hpl hd5 hrV hc hw3 hd3 hv3 hv5 hcv
   have hd4:d=4:=by omega
   subst hd4
   have e:v=u+Pp:=by omega
   have hu:u < Pp:=by omega
   rw [e,Nat.add_mod_right,Nat.mod_eq_of_lt hu]
   omega
  refine ⟨⟨hd3,?_⟩,this⟩
  show V18 (wh3 w) < 2 ^ 130
  rw [this]
  have:=Nat.mod_lt (V18 w) Pp_pos
  generalize V18 w % Pp=z at *
  clear hw5 hD hp5 hpl hd5 hrV hc hw3 hd3 hv3 hv5 hcv
  omega
 ·rw [decide_eq_false hk,cond_false]
  refine ⟨⟨hD,hL⟩,?_⟩
  generalize V18 w=v at *
  generalize vN 256 (nt (wh5 w)) 16=u at *
  generalize nt (wh5 w) 16=d at *
  clear hw5 hD hp5 hpl hd5 hrV hc hw3 hd3 hv3 hv5 hcv
  rw [Nat.mod_eq_of_lt (by omega)]
end Go.Proofs.YtanaackimepkdaaGreatDoor.Pol
