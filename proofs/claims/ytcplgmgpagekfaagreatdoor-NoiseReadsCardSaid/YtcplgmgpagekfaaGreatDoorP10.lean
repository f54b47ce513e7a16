/- Texts WAPl4, Eng47, WAPl5, WAPl6, WAPl7, WAPl8, WAPl9, WAPm0, WAPm1, WAPm2, WAPn0, WAPn1, WAPn2, WAPv3, WAPv4: what they show that this claim uses. -/
import Derived.Test.YtcplgmgpagekfaaGreatDoorP7
import Derived.Test.YtcplgmgpagekfaaGreatDoorP9
import Derived.Test.YtcplgmgpagekfaaGreatDoorP8
import Derived.Test.YtcplgmgpagekfaaGreatDoorP6
set_option maxRecDepth 100000
set_option maxHeartbeats 1000000
set_option linter.unusedVariables false
set_option linter.unusedSimpArgs false
namespace Go.Proofs.YtcplgmgpagekfaaGreatDoor.Pol
open Go Go.Eng
set_option maxRecDepth 1000000
def bt (c:Nat→UInt8) (m n i:Nat):UInt64:=cond (Nat.blt 0 n && Nat.beq i n) 1 (cond (Nat.blt i m) (c i).toUInt64 0)
def of1 (b:UInt64) (x:Nat→UInt64) (i:Nat):Nat→UInt64:=B0 x (8 * i / 26) (x (8 * i / 26) ||| (AI b (8 * i % 26) &&& 67108863))
def ofS (b:UInt64) (x:Nat→UInt64) (i:Nat):Nat→UInt64:=cond (Nat.blt 18 (8 * i % 26) && Nat.blt (8 * i / 26) 4) (B0 (of1 b x i) (8 * i / 26+1) (of1 b x i (8 * i / 26+1) ||| Ad b (26 - 8 * i % 26))) (of1 b x i)
def ofN (c:Nat→UInt8) (m n:Nat):Nat→Nat→UInt64
 | 0=>fun _=>0
 | i+1=>ofS (bt c m n i) (ofN c m n i) i
theorem UT (c:Nat→UInt8):(Au Tryz.prog Bn (mask 112) 100 112 [.slice 1 0 1 1,.int .i64 1] [(1,.cells true (Aq 1 c))] 2).map (·.1)=some (.agg (Ah 5 (ofN c 1 1 17))):=by kernel_rfl
theorem U6 (c:Nat→UInt8):(Au Tryz.prog Bn (mask 112) 100 112 [.slice 1 0 2 1,.int .i64 2] [(1,.cells true (Aq 2 c))] 2).map (·.1)=some (.agg (Ah 5 (ofN c 2 2 17))):=by kernel_rfl
theorem Um (c:Nat→UInt8):(Au Tryz.prog Bn (mask 112) 100 112 [.slice 1 0 3 1,.int .i64 3] [(1,.cells true (Aq 3 c))] 2).map (·.1)=some (.agg (Ah 5 (ofN c 3 3 17))):=by kernel_rfl
theorem Uj (c:Nat→UInt8):(Au Tryz.prog Bn (mask 112) 100 112 [.slice 1 0 4 1,.int .i64 4] [(1,.cells true (Aq 4 c))] 2).map (·.1)=some (.agg (Ah 5 (ofN c 4 4 17))):=by kernel_rfl
theorem Vn (c:Nat→UInt8):(Au Tryz.prog Bn (mask 112) 100 112 [.slice 1 0 5 1,.int .i64 5] [(1,.cells true (Aq 5 c))] 2).map (·.1)=some (.agg (Ah 5 (ofN c 5 5 17))):=by kernel_rfl
theorem VH (c:Nat→UInt8):(Au Tryz.prog Bn (mask 112) 100 112 [.slice 1 0 6 1,.int .i64 6] [(1,.cells true (Aq 6 c))] 2).map (·.1)=some (.agg (Ah 5 (ofN c 6 6 17))):=by kernel_rfl
theorem UH (c:Nat→UInt8):(Au Tryz.prog Bn (mask 112) 100 112 [.slice 1 0 7 1,.int .i64 7] [(1,.cells true (Aq 7 c))] 2).map (·.1)=some (.agg (Ah 5 (ofN c 7 7 17))):=by kernel_rfl
theorem Vc (c:Nat→UInt8):(Au Tryz.prog Bn (mask 112) 100 112 [.slice 1 0 8 1,.int .i64 8] [(1,.cells true (Aq 8 c))] 2).map (·.1)=some (.agg (Ah 5 (ofN c 8 8 17))):=by kernel_rfl
theorem Vz (c:Nat→UInt8):(Au Tryz.prog Bn (mask 112) 100 112 [.slice 1 0 9 1,.int .i64 9] [(1,.cells true (Aq 9 c))] 2).map (·.1)=some (.agg (Ah 5 (ofN c 9 9 17))):=by kernel_rfl
theorem PB (c:Nat→UInt8):(Au Tryz.prog Bn (mask 112) 100 112 [.slice 1 0 10 1,.int .i64 10] [(1,.cells true (Aq 10 c))] 2).map (·.1)=some (.agg (Ah 5 (ofN c 10 10 17))):=by kernel_rfl
theorem OF (c:Nat→UInt8):(Au Tryz.prog Bn (mask 112) 100 112 [.slice 1 0 11 1,.int .i64 11] [(1,.cells true (Aq 11 c))] 2).map (·.1)=some (.agg (Ah 5 (ofN c 11 11 17))):=by kernel_rfl
theorem Pu (c:Nat→UInt8):(Au Tryz.prog Bn (mask 112) 100 112 [.slice 1 0 12 1,.int .i64 12] [(1,.cells true (Aq 12 c))] 2).map (·.1)=some (.agg (Ah 5 (ofN c 12 12 17))):=by kernel_rfl
theorem O4 (c:Nat→UInt8):(Au Tryz.prog Bn (mask 112) 100 112 [.slice 1 0 13 1,.int .i64 13] [(1,.cells true (Aq 13 c))] 2).map (·.1)=some (.agg (Ah 5 (ofN c 13 13 17))):=by kernel_rfl
theorem Qg (c:Nat→UInt8):(Au Tryz.prog Bn (mask 112) 100 112 [.slice 1 0 14 1,.int .i64 14] [(1,.cells true (Aq 14 c))] 2).map (·.1)=some (.agg (Ah 5 (ofN c 14 14 17))):=by kernel_rfl
theorem PJ (c:Nat→UInt8):(Au Tryz.prog Bn (mask 112) 100 112 [.slice 1 0 15 1,.int .i64 15] [(1,.cells true (Aq 15 c))] 2).map (·.1)=some (.agg (Ah 5 (ofN c 15 15 17))):=by kernel_rfl
theorem PN (c:Nat→UInt8):(Au Tryz.prog Bn (mask 112) 100 112 [.slice 1 0 16 1,.int .i64 16] [(1,.cells true (Aq 16 c))] 2).map (·.1)=some (.agg (Ah 5 (ofN c 16 16 17))):=by kernel_rfl
theorem Rn (c:Nat→UInt8):(Au Tryz.prog Bn (mask 112) 100 112 [.slice 1 0 16 1,.int .i64 0] [(1,.cells true (Aq 16 c))] 2).map (·.1)=some (.agg (Ah 5 (ofN c 16 0 17))):=by kernel_rfl
def UN (m:Nat) (n:Int):Bool:=(decide (1≤m) && decide (m≤16) && decide (n=(m:Int))) || (Nat.beq m 16 && decide (n=0))
def k10 (f:(Nat→UInt8)→Nat→Nat→Nat→UInt64):List AVal→Option EffA
 | [.slice b o m 1,.int .i64 n]=>some (Yi b o m fun W=>cond (FL W && UN m n) (some (.agg (Ah 5 (f (gB W) m n.toNat)))) none)
 | _=>none
theorem X3:Ai Tryz.prog (Ag 112 (k10 fun c m n=>ofN c m n 17)):=by
 refine Ak fun args e h => ?_
 unfold k10 at h
 split at h
 ·rename_i b o m n
  cases h
  refine Rc (A7 _) AB rfl fun W v hWl hk hl => ?_
  cases hc:(FL W && UN m n) <;> rw [hc] at hk <;> simp only [cond_true,cond_false] at hk
  ·cases hk
  ·cases hk
   rw [Bool.and_eq_true] at hc
   have ec:=Vf hc.1
   have h3:=hc.2
   unfold UN at h3
   simp only [Bool.and_eq_true,Bool.or_eq_true,decide_eq_true_eq] at h3
   obtain ⟨g,hg⟩:∃ g,g=gB W:=⟨_,rfl⟩
   rw [hWl,← hg] at ec
   rw [← hg]
   have hv:ltV 0 (.agg (Ah 5 (ofN g m n.toNat 17)))=true:=Dw ..
   refine ⟨hv,100,mask 112,?_⟩
   rw [gl,ec]
   rcases h3 with ⟨⟨m1,m2⟩,rfl⟩ | ⟨m1,rfl⟩
   ·have:m=1 ∨ m=2 ∨ m=3 ∨ m=4 ∨ m=5 ∨ m=6 ∨ m=7 ∨ m=8 ∨ m=9 ∨ m=10 ∨ m=11 ∨ m=12 ∨ m=13 ∨ m=14 ∨ m=15 ∨ m=16:=by omega
    rcases this with rfl | rfl | rfl | rfl | rfl | rfl | rfl | rfl | rfl | rfl | rfl | rfl | rfl | rfl | rfl | rfl
    ·exact BD (UT g)
    ·exact BD (U6 g)
    ·exact BD (Um g)
    ·exact BD (Uj g)
    ·exact BD (Vn g)
    ·exact BD (VH g)
    ·exact BD (UH g)
    ·exact BD (Vc g)
    ·exact BD (Vz g)
    ·exact BD (PB g)
    ·exact BD (OF g)
    ·exact BD (Pu g)
    ·exact BD (O4 g)
    ·exact BD (Qg g)
    ·exact BD (PJ g)
    ·exact BD (PN g)
   ·have:=Nat.eq_of_beq_eq_true m1
    subst this
    exact BD (Rn g)
 ·cases h
end Go.Proofs.YtcplgmgpagekfaaGreatDoor.Pol
namespace Go.Eng
open Go
def mvS (G b:Nat):AVal→AVal
 | .slice n o m e=>cond (Nat.beq n G) (.slice b o m e) (.slice n o m e)
 | v=>v
def okM (G:Nat):AVal→Bool
 | .slice n _ _ _=>Nat.beq n G
 | v=>ltS 0 v
theorem aiC {σ σ':Sig}{G b:Nat}{p:Place}(h1:σ G=some p) (h2:σ' b=some p){u:AVal}{v:Value}(ho:okM G u=true) (hv:VR σ u v):VR σ' (mvS G b u) v:=by
 cases u with
 | slice n o m e =>
  have:=Nat.eq_of_beq_eq_true ho
  subst this
  simp only [mvS,Nat.beq_refl,cond_true]
  cases hv with
  | slice hp hh hc hs =>
   rw [h1] at hp
   cases hp
   exact .slice h2 hh hc hs
 | _ =>
  simp only [okM] at ho
  simp only [mvS]
  exact hv.cut0 (Kc ho) σ'
theorem aaA {σ σ':Sig}{G b:Nat}{p:Place}(h1:σ G=some p) (h2:σ' b=some p){w:World}{q:Place}{c:List AVal}{ro:Bool}(ho:c.all (okM G)=true) (h:Cu σ w q (.cells ro c)):Cu σ' w q (.cells ro (c.map (mvS G b))):=by
 obtain ⟨c',t,fz,e1,e2,e3,e4⟩:=h
 refine ⟨c',t,fz,e1,e2,fun i v hi => ?_,e4⟩
 rw [List.getElem?_map] at hi
 cases hu:c[i]? with
 | none=>rw [hu] at hi; cases hi
 | some u =>
  rw [hu] at hi
  simp only [Option.map_some,Option.some.injEq] at hi
  subst hi
  obtain ⟨v',g1,g2⟩:=e3 i u hu
  exact ⟨v',g1,aiC h1 h2 (List.all_eq_true.1 ho u (List.mem_of_getElem? hu)) g2⟩
theorem Oq {P:Program}{cs:CS}(hcs:Ai P cs) (hm:P.follows .mixedOrders=true){nn F:Nat}{f:FuncId}{nb o m:Nat}{rest:List AVal}{g:FuncId}{ns:List Nat}{cs0 css:List (List AVal)}{H1:HL}{fr1:Nat}
  (h:Au P cs nn F f (.slice P.globals.size o m 1::rest) [] (P.globals.size+1)=some (.fn g (ns.map fun n=>.ptr n 0),H1,fr1)) (ha:C0 rest=true) (hnd:Bu ns=true) (hl:css.length=ns.length) (hk:Nat.ble ns.length 8=true)
  (hc:∀ j n,ns[j]? = some n→Aa H1 n=some (.cells false (cs0.getD j []))∧css.getD j []=(cs0.getD j []).map (mvS P.globals.size nb)∧(cs0.getD j []).all (okM P.globals.size)=true):AG P f (.slice nb o m 1::rest) (KJ g css):=by
 intro σ args' H w base v0 H0 hla hg hH happ hfree
 have hnd:=Ce hnd
 have hk:=Nat.le_of_ble_eq_true hk
 simp only [KJ,EffA.app,Option.some.injEq,Prod.mk.injEq] at happ
 obtain ⟨rfl,rfl⟩:=happ
 obtain ⟨v0,hv0,hvr⟩:=hla.get (i:=0) rfl
 obtain ⟨p0,hp0⟩:∃ p0,σ nb=some p0:=by
  cases hvr with
  | slice hp _ _ _=>exact ⟨_,hp⟩
 obtain ⟨σ0,hσ0⟩:∃ σ0:Sig,σ0=(cut P.globals.size σ).set P.globals.size p0:=⟨_,rfl⟩
 have sat0:σ0 P.globals.size=some p0:=by rw [hσ0]; exact Sig.set_same _ _ _
 have hg0:CN P σ0:=fun g hgl=>by
  obtain ⟨sz,hs⟩:=hg g hgl
  refine ⟨sz,?_⟩
  rw [hσ0,Sig.set_other _ _ (by omega)]
  exact Cp hs hgl
 have hfr0:AO σ0 (P.globals.size+1):=fun n hn=>by
  rw [hσ0,Sig.set_other _ _ (by omega)]
  exact Br _ _ n (by omega)
 have hl0:LR σ0 (.slice P.globals.size o m 1::rest) args':=by
  refine ⟨hla.1,fun i u u' h1 h2 => ?_⟩
  cases i with
  | zero =>
   simp only [List.getElem?_cons_zero,Option.some.injEq] at h1
   subst h1
   have:=hla.2 0 (.slice nb o m 1) u' rfl h2
   cases this with
   | slice hpb ho hcp hs =>
    rw [hp0] at hpb
    cases hpb
    exact .slice sat0 ho hcp hs
  | succ i =>
   rw [List.getElem?_cons_succ] at h1
   exact (hla.2 (i+1) u u' (by rw [List.getElem?_cons_succ]; exact h1) h2).cut0 (CT ha u (List.mem_of_getElem? h1)) σ0
 obtain ⟨fn,c,hf,hb,hrun⟩:=BJ h
 refine (CO hcs hm hf hb hrun hl0 ⟨fun n o hn=>by simp [Aa] at hn,fun n m o o' p q hn=>by simp [Aa] at hn⟩ hg0 hfr0).mono fun r w' hrw => ?_
 obtain ⟨σ1,v',rfl,g1,g2,g3,g4⟩:=hrw
 have hold:∀ b,b < w.heap.size→w'.heap[b]? = w.heap[b]? ∧ ¬ Own σ1 (Aa H1) b:=fun b hb=>g3.old b hb fun ⟨n,o,p,a1,_⟩=>by simp [Aa] at a1
 have sat1:σ1 P.globals.size=some p0:=g3.ext _ _ sat0
 -- the places of the new names
 obtain ⟨σ2,hσ2⟩:∃ σ2:Sig,σ2=fun n=>if base≤n∧n < base+ns.length then σ1 (ns.getD (n - base) 0) else σ n:=⟨_,rfl⟩
 have at2:∀ j n,ns[j]? = some n→σ2 (base+j)=σ1 n:=fun j n hj=>by
  have hjl:j < ns.length:=(List.getElem?_eq_some_iff.1 hj).1
  rw [hσ2]
  simp only
  rw [if_pos ⟨by omega,by omega⟩,Nat.add_sub_cancel_left,List.getD_eq_getElem?_getD,hj]; rfl
 have off2:∀ n,¬ (base≤n∧n < base+ns.length)→σ2 n=σ n:=fun n hn=>by
  rw [hσ2]
  exact if_neg hn
 have le2:Sig.le σ σ2:=fun n p hp=>by
  rw [off2 n fun hn => ?_]
  ·exact hp
  ·have:=hfree (n - base) (by omega)
   rw [show base+(n - base)=n by omega,hp] at this
   cases this
 have obj1:∀ j n,ns[j]? = some n→∃ p,σ1 n=some p∧Cu σ1 w' p (.cells false (cs0.getD j []))∧w.heap.size≤p.blk:=fun j n hj=>by
  obtain ⟨p,hp,ho⟩:=g2.obj n _ (hc j n hj).1
  exact ⟨p,hp,ho,Nat.le_of_not_lt fun hlt=>(hold p.blk hlt).2 ⟨n,_,p,(hc j n hj).1,rfl,hp,rfl⟩⟩
 have us:∀ m x,(m,x) ∈ ((List.range css.length).map fun j=>(base+j,some (AObj.cells false (css.getD j []))))→∃ j,j < css.length∧m=base+j∧x=some (.cells false (css.getD j [])):=fun m x hx=>by
  obtain ⟨j,hj,e⟩:=List.mem_map.1 hx
  cases e
  exact ⟨j,List.mem_range.1 hj,rfl,rfl⟩
 have getH:∀ m o,Aa (Bo H ((List.range css.length).map fun j=>(base+j,some (AObj.cells false (css.getD j []))))) m=some o →
   (∃ j n,ns[j]? = some n∧m=base+j∧o=.cells false (css.getD j [])) ∨ (¬ (base≤m∧m < base+ns.length)∧Aa H m=some o):=fun m o hm=>by
  rcases appU_get (us:=(List.range css.length).map fun j=>(base+j,some (AObj.cells false (css.getD j [])))) (H:=H) (fun m x hx=>by obtain ⟨j,_,_,rfl⟩:=us m x hx; rfl) m with ⟨o',a1,a2⟩ | ⟨a1,a2⟩
  ·rw [a2] at hm
   cases hm
   obtain ⟨j,hj,rfl,e⟩:=us m _ a1
   cases e
   exact .inl ⟨j,ns[j]'(by omega),List.getElem?_eq_getElem (by omega),rfl,rfl⟩
  ·rw [a2] at hm
   refine .inr ⟨fun hb => ?_,hm⟩
   exact a1 (some (.cells false (css.getD (m - base) []))) (List.mem_map.2 ⟨m - base,List.mem_range.2 (by omega),by rw [show base+(m - base)=m by omega]⟩)
 refine ⟨σ2,v',rfl,?_,⟨fun m o hm => ?_,fun m m' o o' p q hm hm' hp hq hpq => ?_⟩,⟨le2,g3.size,g3.os,g3.output,g3.tape,fun b hb hn=>⟨(hold b hb).1,?_⟩⟩,fun n hn=>off2 n (by omega)⟩
 ·cases g1 with
  | fn hs hcap =>
   refine .fn (by rw [← hs]; simp [hl]) fun i u u' hu hu' => ?_
   have hi:i < css.length:=by
    have:=(List.getElem?_eq_some_iff.1 hu).1
    simpa using this
   have e1:u=.ptr (base+i) 0:=by
    rw [List.getElem?_map,List.getElem?_range hi] at hu
    simpa using hu.symm
   subst e1
   have hn:ns[i]? = some (ns[i]'(by omega)):=List.getElem?_eq_getElem (by omega)
   have hv:=hcap i (.ptr (ns[i]'(by omega)) 0) u' (by rw [List.getElem?_map,hn]; rfl) hu'
   cases hv with
   | ptr hp=>exact .ptr (by rw [at2 i _ hn]; exact hp)
 ·rcases getH m o hm with ⟨j,n,hj,rfl,rfl⟩ | ⟨hb,ho⟩
  ·obtain ⟨p,hp,ho,_⟩:=obj1 j n hj
   refine ⟨p,by rw [at2 j n hj]; exact hp,?_⟩
   obtain ⟨q1,q2⟩:=(hc j n hj).2
   rw [q1]
   exact aaA sat1 (le2 nb p0 hp0) q2 ho
  ·obtain ⟨p,hp,hor⟩:=hH.obj m o ho
   exact ⟨p,le2 m p hp,hor.mono le2 (hold _ hor.lt).1⟩
 ·rcases getH m o hm with ⟨j,n,hj,rfl,rfl⟩ | ⟨hb,ho⟩ <;> rcases getH m' o' hm' with ⟨j',n',hj',rfl,rfl⟩ | ⟨hb',ho'⟩
  ·rw [at2 j n hj] at hp
   rw [at2 j' n' hj'] at hq
   rcases g2.inj n n' _ _ p q (hc j n hj).1 (hc j' n' hj').1 hp hq hpq with e | ⟨e,_⟩
   ·subst e
    have:j=j':=(List.getElem?_inj (List.getElem?_eq_some_iff.1 hj).1 hnd).1 (hj.trans hj'.symm)
    exact .inl (by rw [this])
   ·cases e
  ·exfalso
   obtain ⟨p1,hp1,_,hge⟩:=obj1 j n hj
   rw [at2 j n hj,hp1] at hp
   cases hp
   obtain ⟨q1,hq1,hor⟩:=hH.obj m' o' ho'
   rw [off2 m' hb',hq1] at hq
   cases hq
   have:=hor.lt
   omega
  ·exfalso
   obtain ⟨p1,hp1,_,hge⟩:=obj1 j' n' hj'
   rw [at2 j' n' hj',hp1] at hq
   cases hq
   obtain ⟨q1,hq1,hor⟩:=hH.obj m o ho
   rw [off2 m hb,hq1] at hp
   cases hp
   have:=hor.lt
   omega
  ·rw [off2 m hb] at hp
   rw [off2 m' hb'] at hq
   exact hH.inj m m' o o' p q ho ho' hp hq hpq
 ·rintro ⟨m,o,p,h1,h2,h3,h4⟩
  rcases getH m o h1 with ⟨j,n,hj,rfl,rfl⟩ | ⟨hb2,ho⟩
  ·obtain ⟨p1,hp1,_,hge⟩:=obj1 j n hj
   rw [at2 j n hj,hp1] at h3
   cases h3
   omega
  ·rw [off2 m hb2] at h3
   exact hn ⟨m,o,p,ho,h2,h3,h4⟩
end Go.Eng
namespace Go.Proofs.YtcplgmgpagekfaaGreatDoor.Pol
open Go Go.Eng
set_option maxRecDepth 1000000
def aki (a b:Nat) (x:Option (AVal × HL × Nat)):Option (AVal × Option AObj × Option AObj):=
 match x with
 | some (v,H',_)=>some (v,Aa H' a,Aa H' b)
 | none=>none
theorem Fd (o m:Nat):aki 2 10 (Au Tryz.prog Bn (mask 113) 50 113 [.slice 1 o m 1,.int .i64 16] [] 2)=some (.fn 130 [.ptr 2 0,.ptr 10 0],some (.cells false [.slice 1 o m 1]),some (.cells false [.int .i64 16])):=by kernel_rfl
def k11:List AVal→Option EffA
 | [.slice b o m 1,.int .i64 16]=>some (KJ 130 [[.slice b o m 1],[.int .i64 16]])
 | _=>none
theorem WB:Ai Tryz.prog (Ag 113 k11):=by
 refine Ak fun args e h => ?_
 unfold k11 at h
 split at h
 ·rename_i b o m
  cases h
  have r:=Fd o m
  unfold aki at r
  split at r
  ·rename_i v H1 fr1 hr
   simp only [Option.some.injEq,Prod.mk.injEq] at r
   obtain ⟨rfl,h1,h2⟩:=r
   refine Oq (ns:=[2,10]) (cs0:=[[.slice 1 o m 1],[.int .i64 16]]) (A7 _) AB (by rw [gl]; exact hr) rfl rfl rfl rfl fun j n hj => ?_
   rw [gl]
   match j,hj with
   | 0,hj=>cases hj; exact ⟨h1,rfl,rfl⟩
   | 1,hj=>cases hj; exact ⟨h2,rfl,rfl⟩
  ·cases r
 ·cases h
end Go.Proofs.YtcplgmgpagekfaaGreatDoor.Pol
namespace Go.Proofs.YtcplgmgpagekfaaGreatDoor.Pol
open Go Go.Eng
set_option maxRecDepth 1000000
structure Fq where
 of:(Nat→UInt8)→Nat→Nat→Nat→UInt64
 car:(Nat→UInt64)→Nat→UInt64
 mul:(Nat→UInt64)→(Nat→UInt64)→Nat→UInt64
 red:(Nat→UInt64)→Nat→UInt64
 carR:(Nat→UInt64)→Nat→UInt64
 mulR:(Nat→UInt64)→(Nat→UInt64)→Nat→UInt64
 whole:(Nat→UInt64)→Nat→UInt64
def q1 (k:Nat) (f:(Nat→UInt64)→Nat→UInt64):List AVal→Option EffA
 | [u]=>match Rx k u with
  | some a=>some (.pure (.agg (Ah k (f a))))
  | _=>none
 | _=>none
def q2 (k:Nat) (f:(Nat→UInt64)→(Nat→UInt64)→Nat→UInt64):List AVal→Option EffA
 | [u,v]=>match Rx k u,Rx k v with
  | some a,some b=>some (.pure (.agg (Ah k (f a b))))
  | _,_=>none
 | _=>none
def nq (θ:Fq):CS:=At (Ag 112 (k10 θ.of)) (At (Ag 114 (q1 5 θ.car)) (At (Ag 115 (q2 5 θ.mul)) (At (Ag 116 (q1 5 θ.red)) (At (Ag 113 k11) (At (Ag 125 (q1 18 θ.carR)) (At (Ag 124 (q2 18 θ.mulR)) (Ag 126 (q1 18 θ.whole))))))))
def τr:Fp:=⟨GN,carR⟩
def Zd (x y:Nat→UInt64):Nat→UInt64:=GN (gU (Ah 5 fun j=>zS x y j 5))
def Ru (x:Nat→UInt64):Nat→UInt64:=cond (decide (0 < PA (L1 τr x))) (Ql (L1 τr x)) (L1 τr x)
def PX (a b:Nat→UInt64):Nat→UInt64:=carR (gU (Ah 18 (prR a b)))
def F3 (x:Nat→UInt64):Nat→UInt64:=cond (decide (4≤wh5 (whG τr x) 16)) (wh3 (whG τr x)) (whG τr x)
def θr:Fq:=⟨fun c m n=>ofN c m n 17,GN,Zd,Ru,carR,PX,F3⟩
theorem MC {k f:Nat}{g:(Nat→UInt64)→Nat→UInt64}(h:∀ a,AG Tryz.prog f [.agg (Ah k a)] (.pure (.agg (Ah k (g a))))):Ai Tryz.prog (Ag f (q1 k g)):=by
 refine Ak fun args e he => ?_
 unfold q1 at he
 split at he
 ·split at he
  ·rename_i a h1
   cases he
   rw [NJ h1]
   exact h a
  ·cases he
 ·cases he
theorem acH {k f:Nat}{g:(Nat→UInt64)→(Nat→UInt64)→Nat→UInt64}(h:∀ a b,AG Tryz.prog f [.agg (Ah k a),.agg (Ah k b)] (.pure (.agg (Ah k (g a b))))):Ai Tryz.prog (Ag f (q2 k g)):=by
 refine Ak fun args e he => ?_
 unfold q2 at he
 split at he
 ·split at he
  ·rename_i a b h1 h2
   cases he
   rw [NJ h1,NJ h2]
   exact h a b
  ·cases he
 ·cases he
theorem Qj (k:Nat) (a:Nat→UInt64):C0 [.agg (Ah k a)]=true:=by
 have:ltV 0 (.agg (Ah k a))=true:=Dw ..
 simp only [C0,this,cond_true]
theorem acM (k:Nat) (a b:Nat→UInt64):C0 [.agg (Ah k a),.agg (Ah k b)]=true:=by
 have h1:ltV 0 (.agg (Ah k a))=true:=Dw ..
 have h2:ltV 0 (.agg (Ah k b))=true:=Dw ..
 simp only [C0,h1,h2,cond_true]
theorem Ml:Ai Tryz.prog (nc τr):=by
 have h:nc τr=At (Ag 114 (q1 5 GN)) (Ag 125 (q1 18 carR)):=rfl
 rw [h]
 exact Af (MC fun a=>Ac (A7 _) AB (D6 a) (Qj ..) (Dw ..)) (MC fun a=>Ac (A7 _) AB (FS a) (Qj ..) (Dw ..))
theorem ab7 (a:Nat→UInt64):AG Tryz.prog 116 [.agg (Ah 5 a)] (.pure (.agg (Ah 5 (Ru a)))):=by
 unfold Ru
 cases hc:decide (0 < PA (L1 τr a)) with
 | true=>exact Ac Ml AB (Aj (Ao _) (ad6 τr a) (by simp only [Am,hc,cond_true])) (Qj ..) (Dw ..)
 | false=>exact Ac Ml AB (Aj (Ao _) (aeO τr a) (by simp only [Am,hc,Bool.not_false,cond_true])) (Qj ..) (Dw ..)
theorem am1 (a:Nat→UInt64):AG Tryz.prog 126 [.agg (Ah 18 a)] (.pure (.agg (Ah 18 (F3 a)))):=by
 unfold F3
 cases hc:decide (4≤wh5 (whG τr a) 16) with
 | true=>exact Ac Ml AB (Aj (Ao _) (ac9 τr a) (by simp only [Am,hc,cond_true])) (Qj ..) (Dw ..)
 | false=>exact Ac Ml AB (Aj (Ao _) (adx τr a) (by simp only [Am,hc,Bool.not_false,cond_true])) (Qj ..) (Dw ..)
theorem S3:Ai Tryz.prog (nq θr):=
 Af X3 (Af (MC fun a=>Ac (A7 _) AB (D6 a) (Qj ..) (Dw ..)) (Af (acH fun a b=>Ac Ml AB (JD τr a b) (acM ..) (Dw ..)) (Af (MC ab7) (Af WB
  (Af (MC fun a=>Ac (A7 _) AB (FS a) (Qj ..) (Dw ..)) (Af (acH fun a b=>Ac Ml AB (JA τr a b) (acM ..) (Dw ..)) (MC am1)))))))
end Go.Proofs.YtcplgmgpagekfaaGreatDoor.Pol
namespace Go.Proofs.YtcplgmgpagekfaaGreatDoor.Pol
open Go Go.Eng
set_option maxRecDepth 1000000
def Lh:Code→Code
 | .block _ b=>b
 | c=>c
def Qe:Code→Array Oper
 | .region _ ops _=>ops
 | _ => #[]
noncomputable def p18:List Code:=Aw (AH Tryz.f130)
noncomputable def LB:Code:=A6 (p18.getD 1 .skip)
noncomputable def pL:List Code:=Aw LB
noncomputable def B1:Code:=Lh (pL.getD 2 .skip)
noncomputable def pB:List Code:=Aw B1
noncomputable def KM:Array Oper:=Qe (pB.getD 1 .skip)
def Hc (s:List UInt8):HL:=[(185,.cells true (s.map .u8)),(193,.cells true [.slice 185 0 s.length 1]),(194,.cells true [.int .i64 16])]
def Tc:TL:=[(1,.ptr 193 0),(2,.ptr 194 0)]
def T0 (i:Nat):TL:=[(1,.ptr 193 0),(2,.ptr 194 0),(4,.int .i64 (i:Int))]
def Ty (i m:Nat):TL:=[(1,.ptr 193 0),(2,.ptr 194 0),(4,.int .i64 (i:Int)),(5,.int .i64 (m:Int))]
def T2 (i:Nat) (b:Bool):TL:=[(29,.bool b),(1,.ptr 193 0),(2,.ptr 194 0),(4,.int .i64 (i:Int)),(30,.bool (!b))]
noncomputable def R9:List Oper:=(KM.toList.drop 1).take 9
noncomputable def sg (sy:List Nat) (os:List Bool) (vs:List AVal) (Ts T:TL) (H:HL) (l:List Code):Option (XA × TL × HL × List Bool):=KB Ts (Bl Tryz.prog AP Bn sy Tryz.f130.ntmps (mask 130) 100 201 l ⟨T,H,201⟩ ⟨os,vs,[]⟩)
noncomputable def rC:Code:=.cond (.tmp 30) .ret .skip
end Go.Proofs.YtcplgmgpagekfaaGreatDoor.Pol
namespace Go.Proofs.YtcplgmgpagekfaaGreatDoor.Pol
open Go Go.Eng
set_option maxRecDepth 1000000
theorem Rz:p18=[p18.getD 0 .skip,.block 0 (.loop LB)]:=by kernel_rfl
theorem Tl:pL=pL.take 2++[.block 1 B1,pL.getD 3 .skip]:=by kernel_rfl
theorem WO:pB=[pB.getD 0 .skip,.region 4 KM false,rC]:=by kernel_rfl
section
variable (s:List UInt8) (i j m e:Nat)
theorem s0:sg [] [] [] (T0 0) Tc (Hc s) [p18.getD 0 .skip]=some (.normal,T0 0,Hc s,[]):=by kernel_rfl
theorem h1:sg [9] [true] [] (T0 i) (T0 i) (Hc s) (pL.take 2)=some (.normal,T0 i,Hc s,[decide ((i:Int) < (s.length:Int))]):=by kernel_rfl
theorem h0:sg [9] [false] [] (T0 i) (T0 i) (Hc s) (pL.take 2)=some (.exit 0,T0 i,Hc s,[!(decide ((i:Int) < (s.length:Int)))]):=by kernel_rfl
theorem s3:sg [16,200018] [] [.int .i64 (m:Int)] (Ty i m) (T0 i) (Hc s) [pB.getD 0 .skip]=some (.normal,Ty i m,Hc s,[eqS (.int .i64 (if (((s.length:Int).toNat - (i:Int).toNat:Nat):Int) < 16 then (((s.length:Int).toNat - (i:Int).toNat:Nat):Int) else 16)) (.int .i64 (m:Int)),decide (0≤(i:Int)) && (decide ((i:Int)≤(s.length:Int)) && decide ((s.length:Int)≤(s.length:Int)))]):=by kernel_rfl
def ajf (s:List UInt8) (i m e:Nat):TL:=[(1,.ptr 193 0),(2,.ptr 194 0),(4,.int .i64 (i:Int)),(5,.int .i64 (m:Int)),(20,.slice 185 0 s.length 1),(21,.int .i64 (i:Int)),(22,.int .i64 (i:Int)),(23,.int .i64 (m:Int)),(24,.int .i64 (e:Int)),(25,.int .i64 (i:Int)),(26,.int .i64 (m:Int)),(27,.int .i64 (e:Int)),(28,.slice 185 i m 1)]
def Y6 (s:List UInt8) (i m e:Nat):List Bool:=[eqS (.slice 185 (0+(i:Int).toNat * 1) ((e:Int).toNat - (i:Int).toNat) 1) (.slice 185 i m 1),decide (0≤(i:Int)) && (decide ((i:Int)≤(e:Int)) && (decide ((e:Int)≤(e:Int)) && decide ((e:Int)≤(s.length:Int)))),eqS (.int .i64 (IntKind.wrap .i64 ((i:Int)+(m:Int)))) (.int .i64 (e:Int)),eqS (.int .i64 (IntKind.wrap .i64 ((i:Int)+(m:Int)))) (.int .i64 (e:Int))]
theorem anf:QL Tryz.prog AP Bn [28,200024,200027,200028] Tryz.f130.ntmps KM R9 209 (Ty i m) (Hc s) ⟨[],[.int .i64 (e:Int),.int .i64 (e:Int),.slice 185 i m 1],[]⟩=some (ajf s i m e,Hc s,⟨[],[],Y6 s i m e⟩):=by kernel_rfl
theorem cT1:sg [] [] [] (T0 i) (T2 i true) (Hc s) [rC]=some (.normal,T0 i,Hc s,[]):=by kernel_rfl
theorem cT2:sg [200012] [] [.int .i64 (j:Int)] (T0 j) (T0 i) (Hc s) [pL.getD 3 .skip]=some (.normal,T0 j,Hc s,[eqS (.int .i64 (IntKind.wrap .i64 ((i:Int)+16))) (.int .i64 (j:Int))]):=by kernel_rfl
theorem cF:sg [] [] [] (T2 i false) (T2 i false) [] [rC]=some (.ret,T2 i false,[],[]):=by kernel_rfl
theorem ahW (b:Bool) (Hx:HL):DS Tryz.prog Bn Tryz.f130.ntmps KM (KM.toList.drop 11) 201 ((29,.bool b)::T0 i) Hx=some (T2 i b,Hx):=by kernel_rfl
end
theorem ag7:∃ o0 oc:Oper,KM.toList=o0::(R9++oc::KM.toList.drop 11)∧o0.op=.move (.tmp 0)∧o0.guard=none∧o0.dst=some 19∧oc.op=.call ⟨.value (.tmp 19),#[.tmp 28],#[59]⟩∧oc.guard=none∧oc.dst=some 29∧HO [0,1,2] o0=true∧HO [0,1,2] oc=true∧Fy (19::[0,1,2]) R9=true:=
 ⟨KM[0]!,KM[10]!,by kernel_rfl,by kernel_rfl,by kernel_rfl,by kernel_rfl,by kernel_rfl,by kernel_rfl,by kernel_rfl,by kernel_rfl,by kernel_rfl,by kernel_rfl⟩
theorem RV:Tryz.f130.ntmps=31:=by kernel_rfl
theorem anC:19 < Tryz.f130.ntmps:=by rw [RV]; decide
theorem alA:29 < Tryz.f130.ntmps:=by rw [RV]; decide
end Go.Proofs.YtcplgmgpagekfaaGreatDoor.Pol
namespace Go.Proofs.YtcplgmgpagekfaaGreatDoor.Pol
open Go Go.Eng
set_option maxRecDepth 1000000
theorem aget_cases {α:Type}{k s:Nat}{v u:α}{l:List (Nat × α)}(h:Aa ((k,v)::l) s=some u):(s=k∧u=v) ∨ Aa l s=some u:=by
 simp only [Aa] at h
 rcases beq_cases k s with ⟨e,hb⟩ | ⟨_,hb⟩ <;> rw [hb] at h <;> simp only [cond_true,cond_false] at h
 ·cases h; exact .inl ⟨e.symm,rfl⟩
 ·exact .inr h
def Gw:List AVal:=[.ptr 193 0,.ptr 194 0]
def OQ (l:Nat) (u0 u1:Value):List (Tmp × Value):=[(0,.func (.yield l) #[] #[]),(1,u0),(2,u1)]
def mC (s:List UInt8) (k:Nat):Nat:=if s.length - 16 * k < 16 then s.length - 16 * k else 16
def X (s:List UInt8) (k:Nat):List AVal:=[.slice 185 (16 * k) (mC s k) 1]
def nC (s:List UInt8):Nat:=(s.length+15) / 16
abbrev ITs (s:List UInt8) (l:Nat) (u0 u1:Value) (T:TL) (a:Act) (w:World):Prop:=IT Tryz.prog Tryz.f130.ntmps 201 (Hc s) Gw #[u0,u1] (OQ l u0 u1) T a w
theorem roS (s:List UInt8):∀ m o,Aa (Hc s) m=some o→o.ro=true:=fun m o h=>by
 unfold Hc at h
 rcases aget_cases h with ⟨_,rfl⟩ | h
 ·rfl
 rcases aget_cases h with ⟨_,rfl⟩ | h
 ·rfl
 rcases aget_cases h with ⟨_,rfl⟩ | h
 ·rfl
 simp [Aa] at h
theorem OB:Tryz.prog.globals.size≤201:=by rw [gl]; omega
theorem hlS (s:List UInt8):ltH 201 (Hc s)=true:=by
 unfold Hc
 simp only [ltH,Zr]
 rfl
theorem seg {s:List UInt8}{l:Nat}{u0 u1:Value}{J:World→Prop}(hJ:∀ A B,J A→Grown A B→J B){sy:List Nat}{os:List Bool}{vs:List AVal}{Ts T Tq:TL}{cl:List Code}{x:XA}{ob:List Bool}
  (h:sg sy os vs Ts T (Hc s) cl=some (x,Tq,Hc s,ob)) (ha:Am ob=true) (hTl:ltT 201 Tq=true) (hp:Lc [0,1,2] cl=true) {a:Act} {w:World} {Q:Exit→Act→World→Prop} (hi:ITs s l u0 u1 T a w) (hj:J w)
  (hQ:∀ a' w',ITs s l u0 u1 Tq a' w'→J w'→Q x.out a' w'):wpS none 0 Tryz.prog cl Q a w:=
 NQ (Ao _) (A7 _) AB hJ (roS s) (hlS s) rfl OB h ha hTl (pin:=OQ l u0 u1) hp hi hj hQ
theorem SJ {σ:Sig}{n off:Nat}{v:Value}(h:VR σ (.ptr n off) v):∃ p,σ n=some p∧v=.pointer (some ⟨p.blk,p.sh+off,none⟩):=by
 cases h with
 | ptr h=>exact ⟨_,h,rfl⟩
theorem MG {σ:Sig}{n off len esz:Nat}{v:Value}(h:VR σ (.slice n off len esz) v):∃ p o cap,σ n=some p∧v=.slice (some ⟨p.blk,o,none⟩) len cap∧(len=0 ∨ o=p.sh+off):=by
 cases h with
 | slice h ho _ _=>exact ⟨_,_,_,h,rfl,ho⟩
theorem Ss {s:List UInt8}{i m:Nat}{lb:Array Value}(hs:0 < s.length):∀ σ σ1 w xs,HRel σ (Aa (Hc s)) w→HRel σ1 (Aa (Hc s)) w→LR σ Gw lb→LR σ1 Gw lb→LR σ [.slice 185 i m 1] xs→LR σ1 [.slice 185 i m 1] xs:=by
 intro σ σ1 w xs hh hh1 hl hl1 hx
 obtain ⟨a0,a1,rfl,v0,_⟩:=LR.inv2 hl
 obtain ⟨b0,b1,hb,w0,_⟩:=LR.inv2 hl1
 simp only [Array.mk.injEq,List.cons.injEq,and_true] at hb
 obtain ⟨rfl,rfl⟩:=hb
 have g192:Aa (Hc s) 193=some (.cells true [.slice 185 0 s.length 1]):=rfl
 have g184:Aa (Hc s) 185=some (.cells true (s.map .u8)):=rfl
 obtain ⟨p,hp,c,t,fz,c1,c2,c3,_⟩:=hh.obj 193 _ g192
 obtain ⟨q,hq,d,t',fz',d1,d2,d3,_⟩:=hh1.obj 193 _ g192
 obtain ⟨P,hP,e,t2,fz2,e1,e2,_,_⟩:=hh.obj 185 _ g184
 obtain ⟨R,hR,f,t3,fz3,f1,f2,_,_⟩:=hh1.obj 185 _ g184
 obtain ⟨p',hp',k1⟩:=SJ v0
 obtain ⟨q',hq',k2⟩:=SJ w0
 rw [hp] at hp'
 rw [hq] at hq'
 cases hp'
 cases hq'
 rw [k1] at k2
 simp only [Value.pointer.injEq,Option.some.injEq,Addr.mk.injEq,and_true,Nat.add_zero] at k2
 obtain ⟨v1,j1,j2⟩:=c3 0 _ rfl
 obtain ⟨v2,j3,j4⟩:=d3 0 _ rfl
 rw [← k2.1,c1] at d1
 simp only [Option.some.injEq,Obj.cells.injEq] at d1
 obtain ⟨rfl,rfl,rfl⟩:=d1
 rw [← k2.2,j1] at j3
 cases j3
 obtain ⟨P',o1,cap1,hP',g1,g2⟩:=MG j2
 obtain ⟨R',o2,cap2,hR',g3,g4⟩:=MG j4
 rw [hP] at hP'
 rw [hR] at hR'
 cases hP'
 cases hR'
 rw [g1] at g3
 simp only [Value.slice.injEq,Option.some.injEq,Addr.mk.injEq,and_true,true_and] at g3
 obtain ⟨⟨g5,g6⟩,_⟩:=g3
 have hPR:P.sh=R.sh∧P.sz=R.sz:=by
  rw [← g5,e1] at f1
  simp only [Option.some.injEq,Obj.cells.injEq] at f1
  obtain ⟨rfl,_,_⟩:=f1
  exact ⟨by omega,by omega⟩
 refine ⟨hx.1,fun k u u' h1 h2 => ?_⟩
 have hv:=hx.2 k u u' h1 h2
 cases k with
 | zero =>
  simp only [List.getElem?_cons_zero,Option.some.injEq] at h1
  subst h1
  cases hv with
  | slice k1 ho hc hs =>
   rw [hP] at k1
   cases k1
   rw [g5]
   rw [hPR.1] at ho
   rw [hPR.2] at hs
   exact .slice hR ho hc hs
 | succ k=>simp at h1
section
variable {s:List UInt8}{l:Nat}{u0 u1:Value}{J:Nat→World→Prop}{Jx:World→Prop}
def aaC (s:List UInt8) (l:Nat) (u0 u1:Value) (J:Nat→World→Prop) (Jx:World→Prop):Prop:=
 ∀ i W1,J i W1→i≤nC s∧∃ σ1,CN Tryz.prog σ1∧HRel σ1 (Aa (Hc s)) W1∧LR σ1 Gw #[u0,u1]∧((i < nC s ∨ true=false)→∀ xs,LR σ1 (X s i) xs→∀ m,YieldAt Fence.wide m Tryz.prog l xs W1 fun e W'=>(e=.returned (.bool true)∧J (i+1) W') ∨ (e=.returned (.bool false)∧Jx W'))
theorem YR {i m e:Nat}:∀ σ1,LR σ1 Gw #[u0,u1]→∀ t v,Aa (T0 i) t=some v→t ≠ 19∧t ≠ 29∧((Aa (ajf s i m e) t=some v∧ltV 0 v=true) ∨ ∃ u,(t,u) ∈ OQ l u0 u1∧VR σ1 v u):=fun σ1 h t v hs=>by
 obtain ⟨a0,a1,e,h0,h1⟩:=LR.inv2 h
 simp only [Array.mk.injEq,List.cons.injEq,and_true] at e
 obtain ⟨rfl,rfl⟩:=e
 unfold T0 at hs
 rcases aget_cases hs with ⟨rfl,rfl⟩ | hs
 ·exact ⟨by decide,by decide,.inr ⟨_,by simp [OQ],h0⟩⟩
 rcases aget_cases hs with ⟨rfl,rfl⟩ | hs
 ·exact ⟨by decide,by decide,.inr ⟨_,by simp [OQ],h1⟩⟩
 rcases aget_cases hs with ⟨rfl,rfl⟩ | hs
 ·exact ⟨by decide,by decide,.inl ⟨rfl,rfl⟩⟩
 simp [Aa] at hs
theorem eqI {a b:Int}(h:a=b):eqS (.int .i64 a) (.int .i64 b)=true:=by subst h; simp [eqS]
theorem rounds (hJ:∀ i A B,J i A→Grown A B→J i B) (hJx:∀ A B,Jx A→Grown A B→Jx B) (hY:aaC s l u0 u1 J Jx) (hL:s.length < 1000000000000){Q:Exit→Act→World→Prop}
  (hret:∀ a w,a.defers=[]→Jx w→Q .ret a w) (hex:∀ a w,a.defers=[]→J (nC s) w→Q (.exit 0) a w) :
  ∀ (r k:Nat) (a:Act) (w:World),k+r=nC s→ITs s l u0 u1 (T0 (16 * k)) a w→J k w→Code.roundsIn (Fw none) 0 Tryz.prog LB Q (r+1) a w
 | 0,k,a,w,hk,hi,hw=>by
  rw [roundsIn_succ]
  refine BI LB ?_
  show wpS none 0 Tryz.prog pL _ a w
  rw [Tl]
  have hge:s.length≤16 * k:=by unfold nC at hk; omega
  refine Cb _ [_,_] (seg (J:=J k) (hJ _) (h0 s (16 * k)) (by simp only [Am,decide_eq_false (show ¬ (((16 * k:Nat):Int) < (s.length:Int)) by omega),Bool.not_false,cond_true]) rfl (by kernel_rfl) hi hw fun a' w' hi' hw' => ?_)
  have e:k=nC s:=by omega
  subst e
  obtain ⟨σ,hr,_⟩:=hi'
  exact hex a' w' hr.defers hw'
 | r+1,k,a,w,hk,hi,hw=>by
  have hkN:k < nC s:=by omega
  have hlt:16 * k < s.length:=by unfold nC at hkN; omega
  have hm1:16 * k+mC s k≤s.length:=by unfold mC; split <;> omega
  have hm0:0 < mC s k:=by unfold mC; split <;> omega
  have hm16:mC s k≤16:=by unfold mC; split <;> omega
  rw [roundsIn_succ]
  refine BI LB ?_
  show wpS none 0 Tryz.prog pL _ a w
  rw [Tl]
  refine Cb _ [_,_] (seg (J:=J k) (hJ _) (h1 s (16 * k)) (by simp only [Am,decide_eq_true (show ((16 * k:Nat):Int) < (s.length:Int) by omega),cond_true]) rfl (by kernel_rfl) hi hw fun a1 w1 hi1 hw1 => ?_)
  show (Code.block 1 B1).wpIn (Fw none) 0 Tryz.prog _ a1 w1
  refine wpIn_block (BI B1 ?_)
  show wpS none 0 Tryz.prog pB _ a1 w1
  rw [WO]
  have o1:eqS (.int .i64 (if (((s.length:Int).toNat - ((16 * k:Nat):Int).toNat:Nat):Int) < 16 then (((s.length:Int).toNat - ((16 * k:Nat):Int).toNat:Nat):Int) else 16)) (.int .i64 (mC s k:Int))=true:=eqI (by
   rw [Int.toNat_natCast,Int.toNat_natCast]
   unfold mC
   by_cases h:s.length - 16 * k < 16
   ·rw [if_pos h,if_pos (by omega)]
   ·rw [if_neg h,if_neg (by omega)]; rfl)
  have o2:(decide (0≤((16 * k:Nat):Int)) && (decide (((16 * k:Nat):Int)≤(s.length:Int)) && decide ((s.length:Int)≤(s.length:Int))))=true:=by
   simp only [Bool.and_eq_true,decide_eq_true_eq]; omega
  refine Cb [_] [_,_] (seg (J:=J k) (hJ _) (s3 s (16 * k) (mC s k)) (by simp only [Am,o1,o2,cond_true]) rfl (by kernel_rfl) hi1 hw1 fun a2 w2 hi2 hw2 => ?_)
  show (Code.region 4 KM false).wpIn (Fw none) 0 Tryz.prog _ a2 w2
  have hob:Am (Y6 s (16 * k) (mC s k) (16 * k+mC s k))=true:=by
   have g1:eqS (.slice 185 (0+((16 * k:Nat):Int).toNat * 1) (((16 * k+mC s k:Nat):Int).toNat - ((16 * k:Nat):Int).toNat) 1) (.slice 185 (16 * k) (mC s k) 1)=true:=by
    rw [Int.toNat_natCast,Int.toNat_natCast]
    have e1:0+16 * k * 1=16 * k:=by omega
    have e2:16 * k+mC s k - 16 * k=mC s k:=by omega
    rw [e1,e2]
    simp [eqS]
   have g2:(decide (0≤((16 * k:Nat):Int)) && (decide (((16 * k:Nat):Int)≤((16 * k+mC s k:Nat):Int)) && (decide (((16 * k+mC s k:Nat):Int)≤((16 * k+mC s k:Nat):Int)) && decide (((16 * k+mC s k:Nat):Int)≤(s.length:Int)))))=true:=by
    simp only [Bool.and_eq_true,decide_eq_true_eq]; omega
   have g3:eqS (.int .i64 (IntKind.wrap .i64 (((16 * k:Nat):Int)+(mC s k:Int)))) (.int .i64 ((16 * k+mC s k:Nat):Int))=true:=eqI (by rw [CK _ (by omega) (by omega)]; omega)
   unfold Y6
   simp only [Am,g1,g2,g3,cond_true]
  have hmid:=(J4 (Ao _) (anf s (16 * k) (mC s k) (16 * k+mC s k)) hob).1
  obtain ⟨o0,oc,hops,e1,e2,e3,e4,e5,e6,e7,e8,e9⟩:=ag7
  refine SY (cs:=Bn) (cap:=Gw) (lb:=#[u0,u1]) (pin:=OQ l u0 u1) (l:=l) (J:=J k) (J':=J (k+1)) (Jx:=Jx) (A7 _) (hJ _) (hJ _) hJx (roS s) (hlS s) rfl OB (List.mem_cons_self ..) hops e1 e2 e3 e4 e5 e6 rfl e7 e8 e9 (show Fy [0,1,2] (KM.toList.drop 11)=true by kernel_rfl) anC alA (by rfl) hmid (by rfl)
   (T0 (16 * k)) rfl YR (T2 (16 * k)) (fun b Hx=>ahW (16 * k) b Hx) (fun b=>rfl) hi2 hw2 ?_ (.inr fun σ σ1 w xs g1 g2 g3 g4 g5=>Ss (by omega) σ σ1 w xs g1 g2 g3 g4 g5) ?_ ?_ ?_
  ·intro W hW
   obtain ⟨_,σ1,g1,g2,g3,g4⟩:=hY _ W hW
   exact ⟨σ1,g1,g2,g3,fun xs hxs m=>g4 (.inl hkN) xs hxs m⟩
  ·intro W hW
   obtain ⟨_,σ1,g1,g2,g3,g4⟩:=hY _ W hW
   exact ⟨σ1,g1,g2,g3⟩
  ·intro a3 w3 hi3 hw3
   have o3:eqS (.int .i64 (IntKind.wrap .i64 (((16 * k:Nat):Int)+16))) (.int .i64 ((16 * (k+1):Nat):Int))=true:=eqI (by rw [CK _ (by omega) (by omega)]; omega)
   refine seg (J:=J (k+1)) (hJ _) (cT1 s (16 * k)) rfl rfl (by kernel_rfl) hi3 hw3 fun a4 w4 hi4 hw4 => ?_
   refine seg (J:=J (k+1)) (hJ _) (cT2 s (16 * k) (16 * (k+1))) (by simp only [Am,o3,cond_true]) rfl (by kernel_rfl) hi4 hw4 fun a5 w5 hi5 hw5 => ?_
   exact rounds hJ hJx hY hL hret hex r (k+1) a5 w5 (by omega) hi5 hw5
  ·intro a3 w3 hi3 hw3
   refine NQ (Ao _) (A7 _) AB (J:=Jx) hJx (fun m o h=>by simp [Aa] at h) rfl rfl OB (cF (16 * k)) rfl rfl (pin:=OQ l u0 u1) (show Lc [0,1,2] [rC]=true by kernel_rfl) hi3 hw3 fun a4 w4 hi4 hw4 => ?_
   obtain ⟨σ,hr,_⟩:=hi4
   exact hret a4 w4 hr.defers hw4
end
theorem at3 {y u0 u1:Value}{B:Array Value}{s:Nat}{v:Value}(h:(#[y,u0,u1]:Array Value)[s]? = some v):(#[y] ++ #[u0,u1]++B)[s]? = some v:=by
 have e:(#[y] ++ #[u0,u1]:Array Value) = #[y,u0,u1]:=rfl
 rw [e,Array.getElem?_append_left (Array.getElem?_eq_some_iff.1 h).1]
 exact h
theorem SF (tmps:Array Value) (w:World):(results Tryz.f130 tmps).run Tryz.prog w=.ok (.tuple #[]) w:=by
 have hr:Tryz.f130.results = #[]:=by kernel_rfl
 unfold results
 rw [hr]
 simp
theorem YB {s:List UInt8}(hL:s.length < 1000000000000):abn Tryz.prog 130 Gw (Hc s) (X s) (nC s) true:=by
 intro lb l J Jx W hJ hJx hY h0
 obtain ⟨_,σ0,g1,g2,g3,_⟩:=hY 0 W h0
 obtain ⟨u0,u1,rfl,v0,v1⟩:=LR.inv2 g3
 refine (callsIn_wide (n:=0)).1 (callsIn_of_wp_marks (F:=Fence.wide) (fn:=Tryz.f130) (c:=AH Tryz.f130) (by kernel_rfl) (by kernel_rfl) trivial ?_ rfl)
 refine BI (ro:=none) (n:=0) _ ?_
 show wpS none 0 Tryz.prog p18 _ _ W
 rw [Rz]
 have hsz:Tryz.f130.ntmps=31:=RV
 have start:ITs s l u0 u1 Tc { tmps:=#[.func (.yield l) #[] #[]] ++ #[u0,u1]++Array.replicate (Tryz.f130.ntmps - (#[.func (.yield l) #[] #[]] ++ #[u0,u1]:Array Value).size) undef,defers:=[] } W:=by
  refine ⟨Go.Eng.cut 201 σ0,⟨(RRel.cut (m:=201) (T:=Tc) ⟨fun s v hs => ?_,by simp [FR,hsz],rfl,g2,g1⟩ rfl (hlS s) OB),rfl,fun s v hs => ?_⟩,Br _ _,Je rfl g3⟩
  ·unfold Tc at hs
   rcases aget_cases hs with ⟨rfl,rfl⟩ | hs
   ·exact ⟨u0,at3 rfl,v0⟩
   rcases aget_cases hs with ⟨rfl,rfl⟩ | hs
   ·exact ⟨u1,at3 rfl,v1⟩
   simp [Aa] at hs
  ·simp only [OQ,List.mem_cons,Prod.mk.injEq,List.mem_nil_iff,or_false] at hs
   rcases hs with ⟨rfl,rfl⟩ | ⟨rfl,rfl⟩ | ⟨rfl,rfl⟩ <;> exact at3 rfl
 refine Cb [_] [_] (seg (J:=J 0) (hJ 0) (s0 s) rfl rfl (by kernel_rfl) start h0 fun a w hi hw => ?_)
 show (Code.block 0 (.loop LB)).wpIn (Fw none) 0 Tryz.prog _ a w
 refine wpIn_block (wpIn_loop_rounds (nC s+1) (rounds hJ hJx hY hL (fun a w hd hx => ?_) (fun a w hd hx => ?_) (nC s) 0 a w (by omega) hi hw))
 ·show LeavesInM Fence.wide 0 Tryz.prog Tryz.f130 a.tmps _ a.defers .returning w
  rw [hd]
  exact ⟨_,SF _ _,⟨_,rfl⟩,.inr hx⟩
 ·show LeavesInM Fence.wide 0 Tryz.prog Tryz.f130 a.tmps _ a.defers .returning w
  rw [hd]
  exact ⟨_,SF _ _,⟨_,rfl⟩,.inl ⟨rfl,hx⟩⟩
end Go.Proofs.YtcplgmgpagekfaaGreatDoor.Pol
namespace Go.Proofs.YtcplgmgpagekfaaGreatDoor.Pol
open Go Go.Eng
set_option maxRecDepth 1000000
noncomputable def p7:List Code:=Aw (AH Tryz.f98)
def alu:Code→Code
 | .block _ (.rangeFunc _ _ a _)=>a
 | c=>c
def alC:Code→Code
 | .block _ (.rangeFunc _ _ _ b)=>b
 | c=>c
noncomputable def as7:Code:=alu (p7.getD 10 .skip)
noncomputable def bd7:Code:=alC (p7.getD 10 .skip)
noncomputable def bi7:Code:=Lh bd7
noncomputable def pi7:List Code:=Aw bi7
noncomputable def bj7:Code:=A6 (pi7.getD 1 .skip)
def mk (kf:Nat→UInt8) (i:Nat):UInt8:=cond (Nat.beq i 3 || (Nat.beq i 7 || (Nat.beq i 11 || Nat.beq i 15))) (kf i &&& 15) (cond (Nat.beq i 4 || (Nat.beq i 8 || Nat.beq i 12)) (kf i &&& 252) (kf i))
def LA (kf:Nat→UInt8):List UInt8:=(List.range 32).map kf
def T7 (kf:Nat→UInt8) (s:List UInt8):TL:=[(0,.str (LA kf)),(1,.str s),(4,.str []),(5,.int .i64 0),(21,.bool false),(6,.slice 49 0 32 1),(7,.int .i64 19),(25,.bool false),(8,.int .i64 16),(35,.bool false),(9,.ptr 145 0),(10,.ptr 153 0),(50,.fn 130 Gw)]
def H7 (kf:Nat→UInt8) (s:List UInt8) (r h:Nat→UInt64):HL:=[(49,.cells false (Aq 32 (mk kf))),(145,.cells false (Ah 5 r)),(153,.cells false (Ah 5 h)),(185,.cells false (s.map .u8)),(193,.cells false [.slice 185 0 s.length 1]),(194,.cells false [.int .i64 16])]
def rK (θ:Fq) (kf:Nat→UInt8):Nat→UInt64:=θ.of (gB (Aq 16 (mk kf))) 16 0
theorem s7a (θ:Fq) (kf:Nat→UInt8) (s:List UInt8):CF (Bl Tryz.prog AP (nq θ) [] Tryz.f98.ntmps (mask 98) 100 1 (p7.take 10) ⟨AY [.str (LA kf),.str s] 0,[],1⟩ ⟨[],[],[]⟩)=some (⟨T7 kf s,H7 kf s (rK θ kf) (fun _=>0),201⟩,[]):=by kernel_rfl
end Go.Proofs.YtcplgmgpagekfaaGreatDoor.Pol
namespace Go.Proofs.YtcplgmgpagekfaaGreatDoor.Pol
open Go Go.Eng
set_option maxRecDepth 1000000
def TA7 (kf:Nat→UInt8) (s:List UInt8) (o m:Nat):TL:=T7 kf s++[(51,.slice 185 o m 1),(11,.slice 185 o m 1)]
def SB7 (kf:Nat→UInt8) (s:List UInt8) (r h x:Nat→UInt64) (o m j:Nat):SA:=⟨TA7 kf s o m++[(55,.agg (Ah 5 x)),(56,.int .i64 (j:Int))],H7 kf s r h,249⟩
def of7 (θ:Fq) (s:List UInt8) (o m:Nat):EffA:=Yi 185 o m fun W=>cond (FL W && UN m (m:Int)) (some (.agg (Ah 5 (θ.of (gB W) m (m:Int).toNat)))) none
def xw (h:Nat→UInt64) (i:Nat):UInt64:=cond (Nat.blt 18 (8 * i % 26)) (Ad (h (8 * i / 26)) (8 * i % 26) ||| AI (h (8 * i / 26+1)) (26 - 8 * i % 26)) (Ad (h (8 * i / 26)) (8 * i % 26))
def c1 (h:Nat→UInt64) (kf:Nat→UInt8) (c:UInt64) (i:Nat):UInt64:=c+((xw h i &&& 255)+(kf (16+i)).toUInt64)
def S87 (kf:Nat→UInt8) (s:List UInt8) (r h:Nat→UInt64) (c:UInt64) (t:Nat→UInt8) (i:Nat):SA:=⟨T7 kf s++[(14,.ptr 225 0),(15,.u64 c),(73,.int .i64 (i:Int))],H7 kf s r h++[(225,.cells false (Aq 16 t))],249⟩
theorem ajR:p7[15]? = some (.block 8 (.loop (A6 (p7.getD 15 .skip)))):=by kernel_rfl
theorem akA:pi7[1]? = some (.block 6 (.loop bj7)):=by kernel_rfl
theorem ael:bd7=.block 5 bi7:=by kernel_rfl
section
variable (θ:Fq) (kf:Nat→UInt8) (s:List UInt8) (i j o m:Nat) (r h h0 x:Nat→UInt64) (c c0:UInt64) (t t0:Nat→UInt8)
theorem afw (H:HL):evC Tryz.prog (nq θ) Tryz.f98.ntmps (mask 98) 100 201 as7 ⟨En (T7 kf s) [51] [.slice 185 o m 1],H,201⟩=some (.normal,⟨TA7 kf s o m,H,209⟩):=by kernel_rfl
theorem b7a:CF (Bl Tryz.prog AP (nq θ) [300055] Tryz.f98.ntmps (mask 98) 100 201 ((pi7.drop 0).take 1) ⟨TA7 kf s o m,H7 kf s r h,209⟩ ⟨[],[.agg (Ah 5 x),.tup [.ptr 185 0,.agg (s.map .u8)]],[]⟩)=some (SB7 kf s r h x o m 0,[GB ((of7 θ s o m).app 233 (H7 kf s r h)=some (.agg (Ah 5 x),H7 kf s r h))]):=by kernel_rfl
theorem b7r:AV Tryz.prog AP (nq θ) [57,59,200013,61,62,65,100065,200066] [true] [.u64 (x j),.u64 (h j),.int .i64 (i:Int)] Tryz.f98.ntmps (mask 98) 100 201 bj7 (SB7 kf s r h0 x o m 0) (SB7 kf s r h x o m j)=some (⟨TA7 kf s o m++[(55,.agg (Ah 5 x)),(56,.int .i64 (i:Int))],[(49,.cells false (Aq 32 (mk kf))),(145,.cells false (Ah 5 r)),(153,.cells false (B4 (Ah 5 h) (0+(j:Int).toNat * 1) (AA (.u64 (h j+x j))))),(185,.cells false (s.map .u8)),(193,.cells false [.slice 185 0 s.length 1]),(194,.cells false [.int .i64 16])],249⟩,
  [eqS (.int .i64 (IntKind.wrap .i64 ((j:Int)+1))) (.int .i64 (i:Int)),Nat.ble (0+(j:Int).toNat * 1+(AA (.u64 (h j+x j))).length) (Ah 5 h).length,decide (0≤(j:Int)) && decide ((j:Int) < 5),isAt (Ah 5 h) (0+(j:Int).toNat * 1) (.u64 (h j)),decide (0≤(j:Int)) && decide ((j:Int) < 5),
   eqS (LC ((Ah 5 x).getD 0 (.bool false)) ((Ah 5 x).getD ((j:Int).toNat * 1) (.bool false))) (.u64 (x j)),decide (0≤(j:Int)) && (decide ((j:Int) < 5) && (Nat.blt ((j:Int).toNat * 1) (Ah 5 x).length && eqS (LC ((Ah 5 x).getD 0 (.bool false)) ((Ah 5 x).getD ((j:Int).toNat * 1) (.bool false))) ((Ah 5 x).getD ((j:Int).toNat * 1) (.bool false)))),decide ((j:Int) < 5)]):=by kernel_rfl
theorem b7x:Bl Tryz.prog AP (nq θ) [57] Tryz.f98.ntmps (mask 98) 100 201 [bj7] (SB7 kf s r h x o m j) ⟨[false],[],[]⟩=some (.exit 6,⟨TA7 kf s o m++[(55,.agg (Ah 5 x)),(56,.int .i64 (j:Int)),(57,.bool false)],H7 kf s r h,257⟩,⟨[],[],[!(decide ((j:Int) < 5))]⟩):=by kernel_rfl
theorem b7z:KB [] (Bl Tryz.prog AP (nq θ) [] Tryz.f98.ntmps (mask 98) 100 201 (pi7.drop 2) ⟨TA7 kf s o m++[(55,.agg (Ah 5 x)),(56,.int .i64 (j:Int)),(57,.bool false)],H7 kf s r h,257⟩ ⟨[],[],[]⟩)=some (.normal,[],H7 kf s r (θ.mul (gU (Ah 5 (θ.car (gU (Ah 5 h))))) (gU (Ah 5 r))),[]):=by kernel_rfl
theorem t7a:CF (Bl Tryz.prog AP (nq θ) [] Tryz.f98.ntmps (mask 98) 100 1 ((p7.drop 11).take 4) ⟨T7 kf s,H7 kf s r h,201⟩ ⟨[],[],[]⟩)=some (S87 kf s r (θ.red (gU (Ah 5 h))) 0 (fun _=>0) 0,[]):=by kernel_rfl
theorem alc:AV Tryz.prog AP (nq θ) [] [] [] Tryz.f98.ntmps (mask 98) 100 1 (A6 (p7.getD 15 .skip)) (S87 kf s r h c0 t0 0) (S87 kf s r h c t 0)=some (S87 kf s r h (Ad (c1 h kf c 0) 8) (B0 t 0 (c1 h kf c 0).toUInt8) 1,[]):=by kernel_rfl
theorem al3:AV Tryz.prog AP (nq θ) [] [] [] Tryz.f98.ntmps (mask 98) 100 1 (A6 (p7.getD 15 .skip)) (S87 kf s r h c0 t0 0) (S87 kf s r h c t 1)=some (S87 kf s r h (Ad (c1 h kf c 1) 8) (B0 t 1 (c1 h kf c 1).toUInt8) 2,[]):=by kernel_rfl
theorem alh:AV Tryz.prog AP (nq θ) [] [] [] Tryz.f98.ntmps (mask 98) 100 1 (A6 (p7.getD 15 .skip)) (S87 kf s r h c0 t0 0) (S87 kf s r h c t 2)=some (S87 kf s r h (Ad (c1 h kf c 2) 8) (B0 t 2 (c1 h kf c 2).toUInt8) 3,[]):=by kernel_rfl
theorem am4:AV Tryz.prog AP (nq θ) [] [] [] Tryz.f98.ntmps (mask 98) 100 1 (A6 (p7.getD 15 .skip)) (S87 kf s r h c0 t0 0) (S87 kf s r h c t 3)=some (S87 kf s r h (Ad (c1 h kf c 3) 8) (B0 t 3 (c1 h kf c 3).toUInt8) 4,[]):=by kernel_rfl
theorem anb:AV Tryz.prog AP (nq θ) [] [] [] Tryz.f98.ntmps (mask 98) 100 1 (A6 (p7.getD 15 .skip)) (S87 kf s r h c0 t0 0) (S87 kf s r h c t 4)=some (S87 kf s r h (Ad (c1 h kf c 4) 8) (B0 t 4 (c1 h kf c 4).toUInt8) 5,[]):=by kernel_rfl
theorem al7:AV Tryz.prog AP (nq θ) [] [] [] Tryz.f98.ntmps (mask 98) 100 1 (A6 (p7.getD 15 .skip)) (S87 kf s r h c0 t0 0) (S87 kf s r h c t 5)=some (S87 kf s r h (Ad (c1 h kf c 5) 8) (B0 t 5 (c1 h kf c 5).toUInt8) 6,[]):=by kernel_rfl
theorem ami:AV Tryz.prog AP (nq θ) [] [] [] Tryz.f98.ntmps (mask 98) 100 1 (A6 (p7.getD 15 .skip)) (S87 kf s r h c0 t0 0) (S87 kf s r h c t 6)=some (S87 kf s r h (Ad (c1 h kf c 6) 8) (B0 t 6 (c1 h kf c 6).toUInt8) 7,[]):=by kernel_rfl
theorem amT:AV Tryz.prog AP (nq θ) [] [] [] Tryz.f98.ntmps (mask 98) 100 1 (A6 (p7.getD 15 .skip)) (S87 kf s r h c0 t0 0) (S87 kf s r h c t 7)=some (S87 kf s r h (Ad (c1 h kf c 7) 8) (B0 t 7 (c1 h kf c 7).toUInt8) 8,[]):=by kernel_rfl
theorem alD:AV Tryz.prog AP (nq θ) [] [] [] Tryz.f98.ntmps (mask 98) 100 1 (A6 (p7.getD 15 .skip)) (S87 kf s r h c0 t0 0) (S87 kf s r h c t 8)=some (S87 kf s r h (Ad (c1 h kf c 8) 8) (B0 t 8 (c1 h kf c 8).toUInt8) 9,[]):=by kernel_rfl
theorem ana:AV Tryz.prog AP (nq θ) [] [] [] Tryz.f98.ntmps (mask 98) 100 1 (A6 (p7.getD 15 .skip)) (S87 kf s r h c0 t0 0) (S87 kf s r h c t 9)=some (S87 kf s r h (Ad (c1 h kf c 9) 8) (B0 t 9 (c1 h kf c 9).toUInt8) 10,[]):=by kernel_rfl
theorem ai5:AV Tryz.prog AP (nq θ) [] [] [] Tryz.f98.ntmps (mask 98) 100 1 (A6 (p7.getD 15 .skip)) (S87 kf s r h c0 t0 0) (S87 kf s r h c t 10)=some (S87 kf s r h (Ad (c1 h kf c 10) 8) (B0 t 10 (c1 h kf c 10).toUInt8) 11,[]):=by kernel_rfl
theorem aiR:AV Tryz.prog AP (nq θ) [] [] [] Tryz.f98.ntmps (mask 98) 100 1 (A6 (p7.getD 15 .skip)) (S87 kf s r h c0 t0 0) (S87 kf s r h c t 11)=some (S87 kf s r h (Ad (c1 h kf c 11) 8) (B0 t 11 (c1 h kf c 11).toUInt8) 12,[]):=by kernel_rfl
theorem aiL:AV Tryz.prog AP (nq θ) [] [] [] Tryz.f98.ntmps (mask 98) 100 1 (A6 (p7.getD 15 .skip)) (S87 kf s r h c0 t0 0) (S87 kf s r h c t 12)=some (S87 kf s r h (Ad (c1 h kf c 12) 8) (B0 t 12 (c1 h kf c 12).toUInt8) 13,[]):=by kernel_rfl
theorem ahA:AV Tryz.prog AP (nq θ) [] [] [] Tryz.f98.ntmps (mask 98) 100 1 (A6 (p7.getD 15 .skip)) (S87 kf s r h c0 t0 0) (S87 kf s r h c t 13)=some (S87 kf s r h (Ad (c1 h kf c 13) 8) (B0 t 13 (c1 h kf c 13).toUInt8) 14,[]):=by kernel_rfl
theorem aiy:AV Tryz.prog AP (nq θ) [] [] [] Tryz.f98.ntmps (mask 98) 100 1 (A6 (p7.getD 15 .skip)) (S87 kf s r h c0 t0 0) (S87 kf s r h c t 14)=some (S87 kf s r h (Ad (c1 h kf c 14) 8) (B0 t 14 (c1 h kf c 14).toUInt8) 15,[]):=by kernel_rfl
theorem aix:AV Tryz.prog AP (nq θ) [] [] [] Tryz.f98.ntmps (mask 98) 100 1 (A6 (p7.getD 15 .skip)) (S87 kf s r h c0 t0 0) (S87 kf s r h c t 15)=some (S87 kf s r h (Ad (c1 h kf c 15) 8) (B0 t 15 (c1 h kf c 15).toUInt8) 16,[]):=by kernel_rfl
theorem t7x:Bl Tryz.prog AP (nq θ) [] Tryz.f98.ntmps (mask 98) 100 1 [A6 (p7.getD 15 .skip)] (S87 kf s r h c t 16) ⟨[],[],[]⟩=some (.exit 8,⟨T7 kf s++[(14,.ptr 225 0),(15,.u64 c),(73,.int .i64 16),(74,.bool false)],H7 kf s r h++[(225,.cells false (Aq 16 t))],257⟩,⟨[],[],[]⟩):=by kernel_rfl
theorem t7z:Jg Tryz.prog Tryz.f98 (Bl Tryz.prog AP (nq θ) [] Tryz.f98.ntmps (mask 98) 100 1 (p7.drop 16) ⟨T7 kf s++[(14,.ptr 225 0),(15,.u64 c),(73,.int .i64 16),(74,.bool false)],H7 kf s r h++[(225,.cells false (Aq 16 t))],257⟩ ⟨[],[],[]⟩)=some (.tup [.str ((List.range 16).map t),.int .i64 0],[]):=by kernel_rfl
end
theorem t7r (θ:Fq) (kf:Nat→UInt8) (s:List UInt8) (r h:Nat→UInt64) (c c0:UInt64) (t t0:Nat→UInt8):∀ i,i < 16→AV Tryz.prog AP (nq θ) [] [] [] Tryz.f98.ntmps (mask 98) 100 1 (A6 (p7.getD 15 .skip)) (S87 kf s r h c0 t0 0) (S87 kf s r h c t i)=some (S87 kf s r h (Ad (c1 h kf c i) 8) (B0 t i (c1 h kf c i).toUInt8) (i+1),[])
 | 0,_=>alc θ kf s r h c c0 t t0
 | 1,_=>al3 θ kf s r h c c0 t t0
 | 2,_=>alh θ kf s r h c c0 t t0
 | 3,_=>am4 θ kf s r h c c0 t t0
 | 4,_=>anb θ kf s r h c c0 t t0
 | 5,_=>al7 θ kf s r h c c0 t t0
 | 6,_=>ami θ kf s r h c c0 t t0
 | 7,_=>amT θ kf s r h c c0 t t0
 | 8,_=>alD θ kf s r h c c0 t t0
 | 9,_=>ana θ kf s r h c c0 t t0
 | 10,_=>ai5 θ kf s r h c c0 t t0
 | 11,_=>aiR θ kf s r h c c0 t t0
 | 12,_=>aiL θ kf s r h c c0 t t0
 | 13,_=>ahA θ kf s r h c c0 t t0
 | 14,_=>aiy θ kf s r h c c0 t t0
 | 15,_=>aix θ kf s r h c c0 t t0
 | n+16,h=>absurd h (by omega)
theorem al2 (kf:Nat→UInt8) (s:List UInt8) (r h x:Nat→UInt64) (o m j:Nat):okS Tryz.prog (SB7 kf s r h x o m j)=true:=by
 have g:okS Tryz.prog ⟨TA7 kf [] o m++[(55,.agg (Ah 5 x)),(56,.int .i64 (j:Int))],[(49,.cells false (Aq 32 (mk kf))),(145,.cells false (Ah 5 r)),(153,.cells false (Ah 5 h)),(185,.cells false []),(193,.cells false [.slice 185 0 s.length 1]),(194,.cells false [.int .i64 16])],249⟩=true:=by kernel_rfl
 unfold okS SB7 H7 TA7 T7 at *
 simp only [List.cons_append,List.nil_append,ltH,Zr,ltL,ltT,ltV,ltS] at g ⊢
 exact g
theorem ank (kf:Nat→UInt8) (s:List UInt8) (r h:Nat→UInt64) (c:UInt64) (t:Nat→UInt8) (i:Nat):okS Tryz.prog (S87 kf s r h c t i)=true:=by
 have g:okS Tryz.prog ⟨T7 kf []++[(14,.ptr 225 0),(15,.u64 c),(73,.int .i64 (i:Int))],[(49,.cells false (Aq 32 (mk kf))),(145,.cells false (Ah 5 r)),(153,.cells false (Ah 5 h)),(185,.cells false []),(193,.cells false [.slice 185 0 s.length 1]),(194,.cells false [.int .i64 16]),(225,.cells false (Aq 16 t))],249⟩=true:=by kernel_rfl
 unfold okS S87 H7 T7 at *
 simp only [List.cons_append,List.nil_append,ltH,Zr,ltL,ltT,ltV,ltS] at g ⊢
 exact g
end Go.Proofs.YtcplgmgpagekfaaGreatDoor.Pol
namespace Go.Proofs.YtcplgmgpagekfaaGreatDoor.Pol
open Go Go.Eng
set_option maxRecDepth 1000000
def A5 (h x:Nat→UInt64):Nat→Nat→UInt64
 | 0=>h
 | i+1=>B0 (A5 h x i) i (A5 h x i i+x i)
def xK (θ:Fq) (s:List UInt8) (k:Nat):Nat→UInt64:=θ.of (gB (((s.map AVal.u8).drop (16 * k)).take (mC s k))) (mC s k) (mC s k)
def MJ (θ:Fq) (kf:Nat→UInt8) (h x:Nat→UInt64):Nat→UInt64:=θ.mul (gU (Ah 5 (θ.car (gU (Ah 5 (A5 h x 5)))))) (gU (Ah 5 (rK θ kf)))
def hK (θ:Fq) (kf:Nat→UInt8) (s:List UInt8):Nat→Nat→UInt64
 | 0=>fun _=>0
 | k+1=>MJ θ kf (hK θ kf s k) (xK θ s k)
def cN (h:Nat→UInt64) (kf:Nat→UInt8):Nat→UInt64
 | 0=>0
 | i+1=>Ad (c1 h kf (cN h kf i) i) 8
def tN (h:Nat→UInt64) (kf:Nat→UInt8):Nat→Nat→UInt8
 | 0=>fun _=>0
 | i+1=>B0 (tN h kf i) i (c1 h kf (cN h kf i) i).toUInt8
def NM (θ:Fq) (kf:Nat→UInt8) (s:List UInt8):Nat→UInt64:=θ.red (gU (Ah 5 (hK θ kf s (nC s))))
def Xt (θ:Fq) (kf:Nat→UInt8) (s:List UInt8):List UInt8:=(List.range 16).map (tN (NM θ kf s) kf 16)
theorem aic:Aw (AH Tryz.f98)=p7.take 10 ++ .block 4 (.rangeFunc (.tmp 50) #[51] as7 bd7)::p7.drop 11:=by kernel_rfl
theorem Zg {P:Program}{fn:Func}{r:Option (XA × SA)}{v:AVal}(h:CM P fn r=some v):∃ x s2 H' fr',r=some (x,s2)∧(x=.normal ∨ x=.ret)∧Nn P fn s2=some (v,H',fr'):=by
 unfold CM at h
 split at h
 ·cases h
 ·cases h
 ·rename_i x s2 hx
  refine ⟨x,s2,s2.H,s2.fr,rfl,?_,?_⟩
  ·cases x with
   | normal=>exact .inl rfl
   | ret=>exact .inr rfl
   | exit id=>exact absurd rfl (hx id)
  ·unfold Nn
   generalize resA P s2.T s2.H fn.results.toList=z at h ⊢
   match z,h with
   | none,h=>cases h
   | some [],h=>cases h; rfl
   | some [u],h=>cases h; rfl
   | some (u::w::l),h=>cases h; rfl
theorem ajT {θ:Fq}{sy:List Nat}{nt nn F bs:Nat}{l:List Code}{s:SA}{os:List Bool}{vs:List AVal}{Ts Tq:TL}{x:XA}{H:HL}{ob:List Bool}(h:KB Ts (Bl Tryz.prog AP (nq θ) sy nt nn F bs l s ⟨os,vs,[]⟩)=some (x,Tq,H,ob)) (ha:Am ob=true) :
  ∃ s',evS Tryz.prog (nq θ) nt nn F bs l s=some (x,s')∧s'.H=H:=by
 unfold KB at h
 split at h
 ·rename_i y s' q hs
  simp only [Option.some.injEq,Prod.mk.injEq] at h
  obtain ⟨rfl,_,rfl,rfl⟩:=h
  exact ⟨s',(CA (Ao _) l _ _ _ _ _ hs ha).1,rfl⟩
 ·cases h
theorem aaU {θ:Fq}{sy:List Nat}{nt nn F bs:Nat}{b:Code}{s s':SA}{id:Nat}{ob:List Bool}{os:List Bool}(h:Bl Tryz.prog AP (nq θ) sy nt nn F bs [b] s ⟨os,[],[]⟩=some (.exit id,s',⟨[],[],ob⟩)) (hc:Am ob=true):evC Tryz.prog (nq θ) nt nn F bs b s=some (.exit id,s'):=by
 have:=(CA (Ao _) _ _ _ _ _ _ h hc).1
 rwa [BL] at this
theorem aiN (θ:Fq) (kf:Nat→UInt8) (s:List UInt8) (r h:Nat→UInt64) (k:Nat) (hk:k < nC s):∃ s',evC Tryz.prog (nq θ) Tryz.f98.ntmps (mask 98) 100 201 bd7 ⟨TA7 kf s (16 * k) (mC s k),H7 kf s r h,209⟩=some (.normal,s') ∧
  s'.H=H7 kf s r (θ.mul (gU (Ah 5 (θ.car (gU (Ah 5 (A5 h (xK θ s k) 5)))))) (gU (Ah 5 r))):=by
 have hlt:16 * k < s.length:=by unfold nC at hk; omega
 have hm1:16 * k+mC s k≤s.length:=by unfold mC; split <;> omega
 have hm0:0 < mC s k:=by unfold mC; split <;> omega
 have hm16:mC s k≤16:=by unfold mC; split <;> omega
 obtain ⟨x,hx⟩:∃ x,x=xK θ s k:=⟨_,rfl⟩
 rw [← hx]
 have a1:=DB (Ao _) (b7a θ kf s (16 * k) (mC s k) r h x) (by
  have:GB ((of7 θ s (16 * k) (mC s k)).app 233 (H7 kf s r h)=some (.agg (Ah 5 x),H7 kf s r h))=true:=by
   apply DY
   have g1:Aa (H7 kf s r h) 185=some (.cells false (s.map .u8)):=rfl
   have e1:((s.map AVal.u8).drop (16 * k)).take (mC s k)=(((s.drop (16 * k)).take (mC s k)).map AVal.u8):=by rw [List.map_take,List.map_drop]
   have g2:(Nat.ble (16 * k+mC s k) (s.map AVal.u8).length && ltL 0 (((s.map AVal.u8).drop (16 * k)).take (mC s k)))=true:=by
    rw [e1,Zr,List.length_map,Nat.ble_eq_true_of_le hm1]; rfl
   have g3:(FL (((s.map AVal.u8).drop (16 * k)).take (mC s k)) && UN (mC s k) (mC s k:Int))=true:=by
    rw [e1,RX]
    unfold UN
    simp only [Bool.true_and,Bool.or_eq_true,Bool.and_eq_true,decide_eq_true_eq]
    exact .inl ⟨⟨hm0,hm16⟩,trivial⟩
   unfold of7 Yi ae4 EffA.app
   simp only [g1,g2,g3,cond_true,Int.toNat_natCast]
   rw [hx]
   rfl
  simp only [Am,this,cond_true])
 rw [List.drop_zero] at a1
 have lp:=BZ (P:=Tryz.prog) (cs:=nq θ) (nt:=Tryz.f98.ntmps) (nn:=mask 98) (F:=100) (bs:=201) akA (fun j=>SB7 kf s r (A5 h x j) x (16 * k) (mC s k) j) 5 (fun j hj=>by
  have e:=FD (A5 h x j) (A5 h x j j+x j) hj
  have q:=b7r θ kf s (j+1) j (16 * k) (mC s k) r (A5 h x j) (A5 h x 0) x
  rw [e] at q
  refine Bg (Ao _) q ?_ (al2 kf s r (A5 h x (j+1)) x (16 * k) (mC s k) (j+1))
  have o1:Nat.ble (0+(j:Int).toNat * 1+(AA (.u64 (A5 h x j j+x j))).length) 5=true:=acq hj
  have o2:decide ((j:Int) < 5)=true:=decide_eq_true (by omega)
  have e0:((j:Int).toNat * 1)=j:=by simp
  have o3:eqS (LC ((Ah 5 x).getD 0 (.bool false)) ((Ah 5 x).getD ((j:Int).toNat * 1) (.bool false))) (.u64 (x j))=true:=by rw [XU hj]; exact M8 _
  have o4:eqS (LC ((Ah 5 x).getD 0 (.bool false)) ((Ah 5 x).getD ((j:Int).toNat * 1) (.bool false))) ((Ah 5 x).getD ((j:Int).toNat * 1) (.bool false))=true:=by
   rw [XU hj,e0,FY x hj]; exact M8 _
  have o5:Nat.blt ((j:Int).toNat * 1) 5=true:=air hj
  simp only [Am,acF (show j < 1000 by omega),B9,o1,o2,o3,o4,o5,aeR,F4 (A5 h x j) hj,Bool.and_self,cond_true])
  (aaU (b7x θ kf s 5 (16 * k) (mC s k) r (A5 h x 5) x) (by decide)) (by omega)
 obtain ⟨s',z1,z2⟩:=ajT (b7z θ kf s 5 (16 * k) (mC s k) r (A5 h x 5) x) rfl
 refine ⟨s',?_,z2⟩
 rw [ael]
 exact ML ((Ca _ _).trans (a1.trans (lp.trans z1)))
theorem ajC (kf:Nat→UInt8) (s:List UInt8) (r h:Nat→UInt64):ltH 201 (H7 kf s r h)=true:=by
 have h1:ltL 201 (Aq 32 (mk kf))=true:=P1 ..
 have h2:ltL 201 (Ah 5 r)=true:=Dw ..
 have h3:ltL 201 (Ah 5 h)=true:=Dw ..
 unfold H7
 simp only [ltH,h1,h2,h3,Zr]
 rfl
theorem adb (kf:Nat→UInt8) (s:List UInt8) (r h:Nat→UInt64):LJ (Hc s) (H7 kf s r h):=fun j o g=>by
 unfold Hc at g
 rcases aget_cases g with ⟨rfl,rfl⟩ | g
 ·exact ⟨false,_,rfl,rfl⟩
 rcases aget_cases g with ⟨rfl,rfl⟩ | g
 ·exact ⟨false,_,rfl,rfl⟩
 rcases aget_cases g with ⟨rfl,rfl⟩ | g
 ·exact ⟨false,_,rfl,rfl⟩
 simp [Aa] at g
theorem Om {P:Program}{f:FuncId}(hb:DL P f=true):∀ args w,(callFunc f args).run P w=.ok (.enter f args) w:=by
 obtain ⟨fn,hfn,hbody,hname⟩:=Eh hb
 intro args w
 simp only [callFunc,Sem.run_bind,run_program,Result.andThen_ok,hfn,hname,hbody,Bool.false_eq_true,if_false,Sem.run_pure]
theorem adN:∀ args w,(callFunc 130 args).run Tryz.prog w=.ok (.enter 130 args) w:=Om (by kernel_rfl)
theorem amu:51 < Tryz.f98.ntmps:=by
 have:Nat.ble 52 Tryz.f98.ntmps=true:=by kernel_rfl
 exact Nat.le_of_ble_eq_true this
theorem ai4 (θ:Fq) (kf:Nat→UInt8) (s:List UInt8) (r h:Nat→UInt64):CM Tryz.prog Tryz.f98 (evS Tryz.prog (nq θ) Tryz.f98.ntmps (mask 98) 100 1 (p7.drop 11) ⟨T7 kf s,H7 kf s r h,201⟩)=some (.tup [.str ((List.range 16).map (tN (θ.red (gU (Ah 5 h))) kf 16)),.int .i64 0]):=by
 obtain ⟨g,hg⟩:∃ g,g=θ.red (gU (Ah 5 h)):=⟨_,rfl⟩
 have a1:=DB (Ao _) (t7a θ kf s r h) rfl
 rw [← hg] at a1 ⊢
 have lp:=BZ (P:=Tryz.prog) (cs:=nq θ) (nt:=Tryz.f98.ntmps) (nn:=mask 98) (F:=100) (bs:=1) ajR (fun i=>S87 kf s r g (cN g kf i) (tN g kf i) i) 16 (fun i hi=>Bg (Ao _) (t7r θ kf s r g (cN g kf i) (cN g kf 0) (tN g kf i) (tN g kf 0) i hi) rfl (ank ..))
  (aaU (t7x θ kf s r g (cN g kf 16) (tN g kf 16)) rfl) (by omega)
 have z:=(F9 (Ao (nq θ)) (t7z θ kf s r g (cN g kf 16) (tN g kf 16)) rfl).1
 rw [a1]
 refine Eq.trans (congrArg (CM Tryz.prog Tryz.f98) lp) z
theorem aaE {θ:Fq}(hq:Ai Tryz.prog (nq θ)) (kf:Nat→UInt8) (s:List UInt8) (hs:s.length < 1000000000000):AG Tryz.prog 98 [.str (LA kf),.str s] (.pure (.tup [.str (Xt θ kf s),.int .i64 0])):=by
 have h1:=CW (Ao _) (s7a θ kf s) rfl
 obtain ⟨x,s2,H',fr',e1,e2,e3⟩:=Zg (ai4 θ kf s (rK θ kf) (hK θ kf s (nC s)))
 refine L7 (H':=H') (fr':=fr') (fun σ args' w hl hH hg hf => ?_) rfl rfl
 rw [gl] at hf
 refine TY hq AB (nn:=mask 98) (F:=100) (fn:=Tryz.f98) (c:=AH Tryz.f98) (fr:=1) (by kernel_rfl) (by kernel_rfl) (by kernel_rfl) (l1:=p7.take 10) (l2:=p7.drop 11) aic h1 (N:=nC s) (fin:=true) (cap:=Gw) (Hc:=Hc s) (X:=X s) (by rfl) adN (YB hs) OB
  (fun k=>H7 kf s (rK θ kf) (hK θ kf s k)) (fun _ _ h=>h) (fun k _=>ajC ..) (fun k _=>adb _ _ _ _) (fun k=>rfl) ?_ ?_ (Hf:=H7 kf s (rK θ kf) (hK θ kf s (nC s))) (fun _=>rfl) (ajC ..) (fun h=>by cases h) e1 e2 e3 hl hH hg hf
 ·intro p hp
  simp only [List.mem_cons,List.mem_nil_iff,or_false] at hp
  subst hp
  exact amu
 ·intro k hk
  obtain ⟨s',f1,f2⟩:=aiN θ kf s (rK θ kf) (hK θ kf s k) k hk
  refine ⟨_,s',afw θ kf s (16 * k) (mC s k) _,f1,fun n o hn => ?_⟩
  rw [f2]
  exact hn
end Go.Proofs.YtcplgmgpagekfaaGreatDoor.Pol
namespace Go.Proofs.YtcplgmgpagekfaaGreatDoor.Pol
open Go Go.Eng
set_option maxRecDepth 1000000
noncomputable def p8:List Code:=Aw (AH Tryz.f103)
noncomputable def b8:Code:=A6 (p8.getD 12 .skip)
noncomputable def po8:List Code:=Aw b8
noncomputable def bi8:Code:=Lh (po8.getD 2 .skip)
noncomputable def pi8:List Code:=Aw bi8
noncomputable def bj8:Code:=A6 (pi8.getD 2 .skip)
end Go.Proofs.YtcplgmgpagekfaaGreatDoor.Pol
namespace Go.Proofs.YtcplgmgpagekfaaGreatDoor.Pol
open Go Go.Eng
set_option maxRecDepth 1000000
def mk8 (kf:Nat→UInt8) (i:Nat):UInt64:=cond (Nat.ble 16 i) 0 (cond (Nat.beq i 3 || (Nat.beq i 7 || (Nat.beq i 11 || Nat.beq i 15))) ((kf i).toUInt64 &&& 15) (cond (Nat.beq i 4 || (Nat.beq i 8 || Nat.beq i 12)) ((kf i).toUInt64 &&& 252) (kf i).toUInt64))
def T8 (kf:Nat→UInt8) (s:List UInt8) (a:Nat):TL:=[(0,.str (LA kf)),(1,.str s),(4,.str []),(5,.int .i64 0),(20,.bool false),(6,.ptr 41 0),(7,.int .i64 16),(22,.bool false),(8,.int .i64 19),(32,.bool false),(9,.int .i64 16),(42,.bool false),(10,.ptr 121 0),(11,.int .i64 (a:Int))]
def H8 (r h:Nat→UInt64):HL:=[(41,.cells false (Ah 18 r)),(121,.cells false (Ah 18 h))]
def S8 (kf:Nat→UInt8) (s:List UInt8) (r h:Nat→UInt64) (a:Nat):SA:=⟨T8 kf s a,H8 r h,137⟩
def TI8 (kf:Nat→UInt8) (s:List UInt8) (a:Nat) (p:List UInt8):TL:=T8 kf s a++[(54,.bool true),(12,.str p)]
def SI8 (kf:Nat→UInt8) (s:List UInt8) (r h:Nat→UInt64) (a:Nat) (p:List UInt8) (j:Nat):SA:=⟨TI8 kf s a p++[(13,.int .i64 (j:Int))],H8 r h,249⟩
theorem ajn:(Aw (AH Tryz.f103))[12]? = some (.block 6 (.loop b8)):=by kernel_rfl
theorem ada:Aw b8=po8.take 2++(.block 7 bi8::po8.drop 3):=by kernel_rfl
theorem akT:pi8[2]? = some (.block 8 (.loop bj8)):=by kernel_rfl
def d1 (h:Nat→UInt64) (kf:Nat→UInt8) (c:UInt64) (i:Nat):UInt64:=(h i+(kf (16+i)).toUInt64)+c
def dN (h:Nat→UInt64) (kf:Nat→UInt8):Nat→UInt64
 | 0=>0
 | i+1=>Ad (d1 h kf (dN h kf i) i) 8
def uN (h:Nat→UInt64) (kf:Nat→UInt8):Nat→Nat→UInt8
 | 0=>fun _=>0
 | i+1=>B0 (uN h kf i) i (d1 h kf (dN h kf i) i).toUInt8
section
variable (θ:Fq) (kf:Nat→UInt8) (s p:List UInt8) (i j a m e F:Nat) (r h h0:Nat→UInt64)
theorem d8a:CF (Bl Tryz.prog AP (nq θ) [] Tryz.f103.ntmps (mask 103) (F+100) 1 ((Aw (AH Tryz.f103)).take 12) ⟨AY [.str (LA kf),.str s] 0,[],1⟩ ⟨[],[],[]⟩)=some (S8 kf s (mk8 kf) (fun _=>0) 0,[]):=by kernel_rfl
theorem d8o:CF (Bl Tryz.prog AP (nq θ) [54] Tryz.f103.ntmps (mask 103) F 1 (po8.take 2) (S8 kf s r h a) ⟨[true],[],[]⟩)=some (⟨T8 kf s a++[(54,.bool true)],H8 r h,169⟩,[decide ((a:Int) < (s.length:Int))]):=by kernel_rfl
theorem d8i:CF (Bl Tryz.prog AP (nq θ) [200060,200063,64,200064] Tryz.f103.ntmps (mask 103) F 1 ((pi8.drop 0).take 2) ⟨T8 kf s a++[(54,.bool true)],H8 r h,169⟩ ⟨[],[.int .i64 (e:Int),.int .i64 (m:Int),.str p],[]⟩)=some (SI8 kf s r h a p 0,
 [eqS (.str ((s.take (m:Int).toNat).drop (a:Int).toNat)) (.str p),decide (0≤(a:Int)) && (decide ((a:Int)≤(m:Int)) && decide ((m:Int)≤(s.length:Int))),eqS (.int .i64 (if (s.length:Int) < (e:Int) then (s.length:Int) else (e:Int))) (.int .i64 (m:Int)),eqS (.int .i64 (IntKind.wrap .i64 ((a:Int)+16))) (.int .i64 (e:Int))]):=by kernel_rfl
theorem d8r:AV Tryz.prog AP (nq θ) [68,73,74,77,80,100080,200070] [true] [.u64 (h j),.int .i64 (i:Int)] Tryz.f103.ntmps (mask 103) F 1 bj8 (SI8 kf s r h0 a p 0) (SI8 kf s r h a p j)=some (⟨TI8 kf s a p++[(13,.int .i64 (i:Int))],[(41,.cells false (Ah 18 r)),(121,.cells false (B4 (Ah 18 h) (0+(j:Int).toNat * 1) (AA (.u64 (h j+(p.getD (j:Int).toNat 0).toUInt64)))))],249⟩,
 [eqS (.int .i64 (IntKind.wrap .i64 ((j:Int)+1))) (.int .i64 (i:Int)),Nat.ble (0+(j:Int).toNat * 1+(AA (.u64 (h j+(p.getD (j:Int).toNat 0).toUInt64))).length) (Ah 18 h).length,decide (0≤(j:Int)) && decide ((j:Int) < 18),decide (0≤(j:Int)) && decide ((j:Int) < (p.length:Int)),isAt (Ah 18 h) (0+(j:Int).toNat * 1) (.u64 (h j)),decide (0≤(j:Int)) && decide ((j:Int) < 18),decide ((j:Int) < (p.length:Int))]):=by kernel_rfl
theorem d8x:Bl Tryz.prog AP (nq θ) [68] Tryz.f103.ntmps (mask 103) F 1 [bj8] (SI8 kf s r h a p j) ⟨[false],[],[]⟩=some (.exit 8,⟨TI8 kf s a p++[(13,.int .i64 (j:Int)),(68,.bool false)],H8 r h,281⟩,⟨[],[],[!(decide ((j:Int) < (p.length:Int)))]⟩):=by kernel_rfl
theorem d8q:CF (Bl Tryz.prog AP (nq θ) [83,84,86,100086] Tryz.f103.ntmps (mask 103) F 1 ((pi8.drop 3).take 1) ⟨TI8 kf s a p++[(13,.int .i64 (j:Int)),(68,.bool false)],H8 r h,281⟩ ⟨[],[.u64 (h p.length)],[]⟩)=some (⟨TI8 kf s a p++[(13,.int .i64 (j:Int)),(68,.bool false)],[(41,.cells false (Ah 18 r)),(121,.cells false (B4 (Ah 18 h) (0+(p.length:Int).toNat * 1) (AA (.u64 (h p.length+1)))))],337⟩,
 [Nat.ble (0+(p.length:Int).toNat * 1+(AA (.u64 (h p.length+1))).length) (Ah 18 h).length,decide (0≤(p.length:Int)) && decide ((p.length:Int) < 18),isAt (Ah 18 h) (0+(p.length:Int).toNat * 1) (.u64 (h p.length)),decide (0≤(p.length:Int)) && decide ((p.length:Int) < 18)]):=by kernel_rfl
theorem d8m:CF (Bl Tryz.prog AP (nq θ) [] Tryz.f103.ntmps (mask 103) F 1 ((pi8.drop 4).take 1) ⟨TI8 kf s a p++[(13,.int .i64 (j:Int)),(68,.bool false)],H8 r h,337⟩ ⟨[],[],[]⟩)=some (⟨TI8 kf s a p++[(13,.int .i64 (j:Int)),(68,.bool false)],H8 r (θ.mulR (gU (Ah 18 (θ.carR (gU (Ah 18 h))))) (gU (Ah 18 r))),377⟩,[]):=by kernel_rfl
theorem d8p:pi8.drop 5=[]:=by kernel_rfl
theorem d8z:CF (Bl Tryz.prog AP (nq θ) [200056] Tryz.f103.ntmps (mask 103) F 1 (po8.drop 3) ⟨TI8 kf s a p++[(13,.int .i64 (j:Int)),(68,.bool false)],H8 r h,377⟩ ⟨[],[.int .i64 (i:Int)],[]⟩)=some (⟨TI8 kf s i p++[(13,.int .i64 (j:Int)),(68,.bool false)],H8 r h,401⟩,[eqS (.int .i64 (IntKind.wrap .i64 ((a:Int)+16))) (.int .i64 (i:Int))]):=by kernel_rfl
theorem d8h:TU [] Tryz.prog 1 (S8 kf s r h0 0) ⟨TI8 kf s i p++[(13,.int .i64 (j:Int)),(68,.bool false)],H8 r h,401⟩=some (S8 kf s r h i,[]):=by kernel_rfl
theorem d8e:Bl Tryz.prog AP (nq θ) [54] Tryz.f103.ntmps (mask 103) F 1 [b8] (S8 kf s r h a) ⟨[false],[],[]⟩=some (.exit 6,⟨T8 kf s a++[(54,.bool false)],H8 r h,169⟩,⟨[],[],[!(decide ((a:Int) < (s.length:Int)))]⟩):=by kernel_rfl
theorem d8t:Jg Tryz.prog Tryz.f103 (Bl Tryz.prog AP (nq θ) [] Tryz.f103.ntmps (mask 103) (F+100) 1 ((Aw (AH Tryz.f103)).drop 13) ⟨T8 kf s a++[(54,.bool false)],H8 r h,169⟩ ⟨[],[],[]⟩)=some (.tup [.str ((List.range 16).map (uN (θ.whole (gU (Ah 18 h))) kf 16)),.int .i64 0],[]):=by kernel_rfl
theorem ok8:okS Tryz.prog (S8 kf s r h a)=true:=by kernel_rfl
theorem amZ:okS Tryz.prog (SI8 kf s r h a p j)=true:=by kernel_rfl
end
end Go.Proofs.YtcplgmgpagekfaaGreatDoor.Pol
namespace Go.Proofs.YtcplgmgpagekfaaGreatDoor.Pol
open Go Go.Eng
set_option maxRecDepth 1000000
def pK (s:List UInt8) (k:Nat):List UInt8:=(s.take (16 * k+mC s k)).drop (16 * k)
def B8 (h:Nat→UInt64) (p:List UInt8):Nat→Nat→UInt64
 | 0=>h
 | i+1=>B0 (B8 h p i) i (B8 h p i i+(p.getD i 0).toUInt64)
def KD (h:Nat→UInt64) (p:List UInt8):Nat→UInt64:=B0 (B8 h p p.length) p.length (B8 h p p.length p.length+1)
def BM (θ:Fq) (kf:Nat→UInt8) (h:Nat→UInt64) (p:List UInt8):Nat→UInt64:=θ.mulR (gU (Ah 18 (θ.carR (gU (Ah 18 (KD h p)))))) (gU (Ah 18 (mk8 kf)))
def hD (θ:Fq) (kf:Nat→UInt8) (s:List UInt8):Nat→Nat→UInt64
 | 0=>fun _=>0
 | k+1=>BM θ kf (hD θ kf s k) (pK s k)
def adt (θ:Fq) (kf:Nat→UInt8) (s:List UInt8):List UInt8:=(List.range 16).map (uN (θ.whole (gU (Ah 18 (hD θ kf s (nC s))))) kf 16)
theorem Nt {s:List UInt8}{k:Nat}(hk:k < nC s):16 * k < s.length∧16 * k+mC s k≤s.length∧0 < mC s k∧mC s k≤16:=by
 have hlt:16 * k < s.length:=by unfold nC at hk; omega
 have hm1:16 * k+mC s k≤s.length:=by unfold mC; split <;> omega
 have hm0:0 < mC s k:=by unfold mC; split <;> omega
 have hm16:mC s k≤16:=by unfold mC; split <;> omega
 exact ⟨hlt,hm1,hm0,hm16⟩
theorem Sk {s:List UInt8}{k:Nat}(hk:k < nC s):(pK s k).length=mC s k:=by
 obtain ⟨h1,h2,h3,h4⟩:=Nt hk
 unfold pK
 rw [List.length_drop,List.length_take]
 omega
theorem adj (θ:Fq) (kf:Nat→UInt8) (s:List UInt8) (h:Nat→UInt64) (F k:Nat) (hk:k < nC s) (hF:20 < F) (hs:s.length < 1000000000000) :
  AU (evC Tryz.prog (nq θ) Tryz.f103.ntmps (mask 103) F 1 b8) (AW Tryz.prog 1 (S8 kf s (mk8 kf) (fun _=>0) (16 * 0))) (S8 kf s (mk8 kf) h (16 * k))=some (S8 kf s (mk8 kf) (BM θ kf h (pK s k)) (16 * (k+1))):=by
 obtain ⟨h1,h2,h3,h4⟩:=Nt hk
 have hpl:=Sk hk
 obtain ⟨r,hr⟩:∃ r,r=mk8 kf:=⟨_,rfl⟩
 have hst:BM θ kf h (pK s k)=θ.mulR (gU (Ah 18 (θ.carR (gU (Ah 18 (KD h (pK s k))))))) (gU (Ah 18 r)):=by rw [hr]; rfl
 rw [hst,← hr]
 obtain ⟨p,hp⟩:∃ p,p=pK s k:=⟨_,rfl⟩
 rw [← hp] at hpl ⊢
 have a1:=CW (Ao _) (d8o θ kf s (16 * k) F r h) (by simp only [Am,decide_eq_true (show ((16 * k:Nat):Int) < (s.length:Int) by omega),cond_true])
 have a2:=DB (Ao _) (d8i θ kf s p (16 * k) (16 * k+mC s k) (16 * k+16) F r h) (by
  have o1:eqS (.str ((s.take ((16 * k+mC s k:Nat):Int).toNat).drop ((16 * k:Nat):Int).toNat)) (.str p)=true:=by
   rw [Int.toNat_natCast,Int.toNat_natCast,hp]
   simp [eqS,pK]
  have o2:(decide (0≤((16 * k:Nat):Int)) && (decide (((16 * k:Nat):Int)≤((16 * k+mC s k:Nat):Int)) && decide (((16 * k+mC s k:Nat):Int)≤(s.length:Int))))=true:=by
   simp only [Bool.and_eq_true,decide_eq_true_eq]; omega
  have o3:eqS (.int .i64 (if (s.length:Int) < ((16 * k+16:Nat):Int) then (s.length:Int) else ((16 * k+16:Nat):Int))) (.int .i64 ((16 * k+mC s k:Nat):Int))=true:=eqI (by
   unfold mC
   by_cases h:s.length - 16 * k < 16
   ·rw [if_pos h,if_pos (by omega)]; omega
   ·rw [if_neg h,if_neg (by omega)])
  have o4:eqS (.int .i64 (IntKind.wrap .i64 (((16 * k:Nat):Int)+16))) (.int .i64 ((16 * k+16:Nat):Int))=true:=eqI (by rw [CK _ (by omega) (by omega)]; omega)
  simp only [Am,o1,o2,o3,o4,cond_true])
 rw [List.drop_zero] at a2
 have lp:=BZ (P:=Tryz.prog) (cs:=nq θ) (nt:=Tryz.f103.ntmps) (nn:=mask 103) (F:=F) (bs:=1) akT (fun j=>SI8 kf s r (B8 h p j) (16 * k) p j) p.length (fun j hj=>by
  have hj18:j < 18:=by omega
  have e:=FD (B8 h p j) (B8 h p j j+(p.getD j 0).toUInt64) hj18
  have q:=d8r θ kf s p (j+1) j (16 * k) F r (B8 h p j) (B8 h p 0)
  rw [Int.toNat_natCast] at q
  rw [Int.toNat_natCast] at e
  rw [e] at q
  refine Bg (Ao _) q ?_ (amZ kf s p (j+1) (16 * k) r (B8 h p (j+1)))
  have o1:Nat.ble (0+j * 1+(AA (.u64 (B8 h p j j+(p.getD j 0).toUInt64))).length) 18=true:=Nat.ble_eq_true_of_le (by show 0+j * 1+1≤18; omega)
  have o2:decide ((j:Int) < 18)=true:=decide_eq_true (by omega)
  have o3:decide ((j:Int) < (p.length:Int))=true:=decide_eq_true (by omega)
  have o4:=F4 (B8 h p j) hj18
  rw [Int.toNat_natCast] at o4
  simp only [Am,acF (show j < 1000 by omega),B9,o1,o2,o3,o4,aeR,Bool.and_self,cond_true])
  (aaU (d8x θ kf s p p.length (16 * k) F r (B8 h p p.length)) (by simp only [Am,decide_eq_false (show ¬ ((p.length:Int) < (p.length:Int)) by omega),Bool.not_false,cond_true])) (by omega)
 have hq18:p.length < 18:=by omega
 have e5:=FD (B8 h p p.length) (B8 h p p.length p.length+1) hq18
 have a3:=d8q θ kf s p p.length (16 * k) F r (B8 h p p.length)
 rw [e5] at a3
 have a3:=DB (Ao _) a3 (by
  have o1:Nat.ble (0+(p.length:Int).toNat * 1+(AA (.u64 (B8 h p p.length p.length+1))).length) 18=true:=acq hq18
  have o2:decide ((p.length:Int) < 18)=true:=decide_eq_true (by omega)
  simp only [Am,B9,o1,o2,F4 (B8 h p p.length) hq18,aeR,Bool.and_self,cond_true])
 have a4:=DB (Ao _) (d8m θ kf s p p.length (16 * k) F r (KD h p)) rfl
 have e2:=ML (id:=7) (b:=bi8) ((Ca _ _).trans (a2.trans (lp.trans (a3.trans (a4.trans (by rw [d8p]; rfl))))))
 have a5:=CW (Ao _) (d8z θ kf s p (16 * (k+1)) p.length (16 * k) F r (θ.mulR (gU (Ah 18 (θ.carR (gU (Ah 18 (KD h p)))))) (gU (Ah 18 r)))) (by
  have o4:eqS (.int .i64 (IntKind.wrap .i64 (((16 * k:Nat):Int)+16))) (.int .i64 ((16 * (k+1):Nat):Int))=true:=eqI (by rw [CK _ (by omega) (by omega)]; omega)
  simp only [Am,o4,cond_true])
 refine R7 ?_ (d8h kf s p (16 * (k+1)) p.length r _ (fun _=>0)) rfl (ok8 ..)
 rw [ada,DI a1]
 simp only [evS,e2]
 exact a5
theorem akO:Tryz.prog.funcs[103]? = some Tryz.f103:=by kernel_rfl
theorem abz:Tryz.f103.body=some (AH Tryz.f103):=by kernel_rfl
theorem Oj (θ:Fq) (kf:Nat→UInt8) (s:List UInt8) (hs:s.length < 1000000000000):(Au Tryz.prog (nq θ) (mask 103) (s.length+100+100) 103 [.str (LA kf),.str s] [] 1).map (·.1)=some (.tup [.str (adt θ kf s),.int .i64 0]):=by
 have a1:=CW (Ao _) (d8a θ kf s (s.length+100)) rfl
 have hn:nC s < s.length+100+100:=by unfold nC; omega
 have lp:=BZ (P:=Tryz.prog) (cs:=nq θ) (nt:=Tryz.f103.ntmps) (nn:=mask 103) (F:=s.length+100+100) (bs:=1) ajn (fun k=>S8 kf s (mk8 kf) (hD θ kf s k) (16 * k)) (nC s) (fun k hk=>adj θ kf s (hD θ kf s k) _ k hk (by omega) hs)
  (aaU (d8e θ kf s (16 * nC s) (s.length+100+100) (mk8 kf) (hD θ kf s (nC s))) (by simp only [Am,decide_eq_false (show ¬ (((16 * nC s:Nat):Int) < (s.length:Int)) by unfold nC; omega),Bool.not_false,cond_true])) hn
 have z:=(F9 (Ao (nq θ)) (d8t θ kf s (16 * nC s) (s.length+100) (mk8 kf) (hD θ kf s (nC s))) rfl).1
 have hnm:Nat.ble ([AVal.str (LA kf),.str s]:List AVal).length Tryz.f103.ntmps=true:=by kernel_rfl
 have e:Aw (AH Tryz.f103)=(Aw (AH Tryz.f103)).take 12++(Aw (AH Tryz.f103)).drop 12:=(List.take_append_drop 12 _).symm
 have e2:=(congrArg (fun l=>evS Tryz.prog (nq θ) Tryz.f103.ntmps (mask 103) (s.length+100+100) 1 l ⟨AY [.str (LA kf),.str s] 0,[],1⟩) e).trans ((DI a1).trans lp)
 exact (Gc akO abz hnm).trans ((congrArg (CM Tryz.prog Tryz.f103) e2).trans z)
theorem abY {θ:Fq}(hq:Ai Tryz.prog (nq θ)) (kf:Nat→UInt8) (s:List UInt8) (hs:s.length < 1000000000000):AG Tryz.prog 103 [.str (LA kf),.str s] (.pure (.tup [.str (adt θ kf s),.int .i64 0])):=
 Ac hq AB (by rw [gl]; exact Oj θ kf s hs) rfl rfl
theorem aid (θ:Fq) (k s:List UInt8):AL (An Tryz.prog AP (nq θ) [21] [true] [] (mask 98) 100 98 [.str k,.str s] [] Tryz.prog.globals.size)=some (.tup [.str [],.int .i64 2],[(k.length:Int) != 32]):=by kernel_rfl
theorem ai1 (θ:Fq) (k s:List UInt8):AL (An Tryz.prog AP (nq θ) [20] [true] [] (mask 103) 100 103 [.str k,.str s] [] Tryz.prog.globals.size)=some (.tup [.str [],.int .i64 2],[(k.length:Int) != 32]):=by kernel_rfl
end Go.Proofs.YtcplgmgpagekfaaGreatDoor.Pol
namespace Go.Proofs.YtcplgmgpagekfaaGreatDoor.Pol
open Go Go.Eng Go.Poly
def nt (x:Nat→UInt64) (i:Nat):Nat:=(x i).toNat
def V5 (x:Nat→UInt64):Nat:=vN B26 (nt x) 5
def V18 (x:Nat→UInt64):Nat:=vN 256 (nt x) 18
theorem HJ (x:UInt64) (s:Nat) (h:s < 64):(Ad x s).toNat=x.toNat / 2 ^ s:=abP x s h
theorem Dt {x y:UInt64}(h:x.toNat+y.toNat < 18446744073709551616):(x+y).toNat=x.toNat+y.toNat:=by
 rw [UInt64.toNat_add]; exact Nat.mod_eq_of_lt h
theorem Mo {x y:UInt64}(h:x.toNat * y.toNat < 18446744073709551616):(x * y).toNat=x.toNat * y.toNat:=by
 rw [UInt64.toNat_mul]; exact Nat.mod_eq_of_lt h
theorem SO (x:UInt64):(x &&& 67108863).toNat=x.toNat % 67108864:=by
 rw [UInt64.toNat_and]
 exact Nat.and_two_pow_sub_one_eq_mod x.toNat 26
theorem N8 (x:UInt64):(x &&& 255).toNat=x.toNat % 256:=by
 rw [UInt64.toNat_and]
 exact Nat.and_two_pow_sub_one_eq_mod x.toNat 8
theorem af5 (x:UInt64):(x &&& 3).toNat=x.toNat % 4:=by
 rw [UInt64.toNat_and]
 exact Nat.and_two_pow_sub_one_eq_mod x.toNat 2
abbrev M62:Nat:=4611686018427387904
theorem acT {b:Nat}(hb:2≤b){X:Nat→Nat}{j:Nat}(h:∀ i,i≤j→X i < M62):chN b X j < 2 * M62:=by
 have:=Lj hb (x:=X) (M:=M62 - 1) (j:=j) fun i hi=>by have:=h i hi; omega
 unfold M62 at *
 omega
theorem Ug {s:Nat}(h1:1≤s) (h2:s < 64){x:Nat→UInt64}:∀ {j:Nat},(∀ i,i≤j→nt x i < M62)→(chS s x j).toNat=chN (2 ^ s) (nt x) j
 | 0,h=>by
  show (x 0+0).toNat=_
  rw [UInt64.add_zero]; rfl
 | j+1,h=>by
  have hb:2≤2 ^ s:=by
   have:=Nat.pow_le_pow_right (n:=2) (by omega) h1
   simpa using this
  have ih:=Ug h1 h2 (x:=x) (j:=j) fun i hi=>h i (by omega)
  have hl:=acT hb (X:=nt x) (j:=j+1) h
  have e:chN (2 ^ s) (nt x) (j+1)=nt x (j+1)+chN (2 ^ s) (nt x) j / 2 ^ s:=rfl
  show (x (j+1)+Ad (chS s x j) s).toNat=_
  have es:(Ad (chS s x j) s).toNat=chN (2 ^ s) (nt x) j / 2 ^ s:=by rw [HJ _ _ h2,ih]
  rw [Dt (by rw [es]; unfold nt at *; unfold M62 at *; omega),es,e]; rfl
theorem C8 {b:Nat}{X Y:Nat→Nat}:∀ {j:Nat},(∀ i,i≤j→X i=Y i)→chN b X j=chN b Y j
 | 0,h=>h 0 (by omega)
 | j+1,h=>by
  show X (j+1)+chN b X j / b=Y (j+1)+chN b Y j / b
  rw [h (j+1) (by omega),C8 (j:=j) fun i hi=>h i (by omega)]
theorem Qn {X Y:Nat→Nat}(h:∀ i,i < 5→X i=Y i){j:Nat}(hj:j < 5):C1 X j=C1 Y j:=by
 unfold C1
 rw [C8 (X:=X) (Y:=Y) (j:=0) fun i hi=>h i (by omega),C8 (X:=X) (Y:=Y) (j:=4) fun i hi=>h i (by omega),C8 (X:=X) (Y:=Y) (j:=j) fun i hi=>h i (by omega)]
theorem Nd {x:Nat→UInt64}(h:∀ i,i < 5→nt x i < M62){j:Nat}(hj:j < 5):nt (Me x) j=C1 (nt x) j:=by
 have hc:∀ k,k < 5→(chS 26 x k).toNat=chN B26 (nt x) k:=fun k hk=>Ug (by omega) (by omega) fun i hi=>h i (by omega)
 have h4:=acT (b:=B26) (by unfold B26; omega) (X:=nt x) (j:=4) fun i hi=>h i (by omega)
 have e4:(Ad (chS 26 x 4) 26).toNat=chN B26 (nt x) 4 / B26:=by rw [HJ _ _ (by omega),hc 4 (by omega)]
 show (Me x j).toNat=_
 unfold Me C1
 by_cases e:j=0
 ·subst e
  rw [if_pos rfl,show Nat.beq 0 0=true by rfl,cond_true]
  have e5:(5 * Ad (chS 26 x 4) 26).toNat=5 * (chN B26 (nt x) 4 / B26):=by
   have:(5:UInt64).toNat=5:=rfl
   rw [Mo (by rw [e4,this]; unfold M62 B26 at *; omega),e4,this]
  have e6:(chS 26 x 0 &&& 67108863).toNat=chN B26 (nt x) 0 % B26:=by rw [SO,hc 0 (by omega)]
  rw [Dt (by rw [e5,e6]; unfold M62 B26 at *; omega),e5,e6]
 ·rw [if_neg e,show Nat.beq j 0=false by cases j with | zero=>exact absurd rfl e | succ j=>rfl,cond_false,SO,hc j hj]
theorem WG {x:Nat→UInt64}(h:∀ i,i < 5→nt x i < M62):∀ i,i < 5→nt (Me x) i < M62:=fun i hi=>by
 rw [Nd h hi]
 obtain ⟨a,b⟩:=TQ (X:=nt x) h
 by_cases e:i=0
 ·subst e; unfold M62; omega
 ·have:=b i (by omega) hi
  unfold B26 at this
  unfold M62
  omega
theorem agB {x:Nat→UInt64}(h:∀ i,i < 5→nt x i < M62):∀ j,j < 5→nt (GN x) j=MF (nt x) j:=fun j hj=>by
 unfold GN MF
 rw [Nd (WG h) hj]
 exact Qn (fun i hi=>Nd h hi) hj
theorem Pn {X Y:Nat→Nat}(h:∀ i,i < 5→X i=Y i) (hN:N5 Y):N5 X:=⟨by rw [h 0 (by omega)]; exact hN.1,fun i h0 hi=>by rw [h i hi]; exact hN.2 i h0 hi⟩
theorem PR {X Y:Nat→Nat}(h:∀ i,i < 5→X i=Y i) (hN:T5 Y):T5 X:=fun i hi=>by rw [h i hi]; exact hN i hi
theorem JT {x:Nat→UInt64}(h:∀ i,i < 5→nt x i < M62):N5 (nt (GN x))∧V5 (GN x) % Pp=V5 x % Pp∧(N5 (nt x)→T5 (nt (GN x))):=by
 have e:=agB h
 refine ⟨Pn e (WN h),?_,fun hn=>PR e (Ot hn)⟩
 unfold V5
 rw [A0 e,VC]
theorem acz {X:Nat→Nat}(h:N5 X):∀ i,i < 5→X i < M62:=fun i hi=>by
 have:=Uf h i hi
 unfold M62
 omega
theorem Dp (x:Nat→UInt64) (k:Nat):∀ i,i < k→nt (Eng.nU k x) i=nt x i:=fun i hi=>by unfold nt Eng.nU; rw [if_pos hi]
theorem MP (x:Nat→UInt64):V5 (Eng.nU 5 x)=V5 x:=A0 (Dp x 5)
theorem G0 (x:Nat→UInt64):V18 (Eng.nU 18 x)=V18 x:=A0 (Dp x 18)
theorem aen {x y:Nat→UInt64}(hx:∀ i,i < 5→nt x i < 134217728) (hy:∀ i,i < 5→nt y i < 134217728){j:Nat}(hj:j < 5):∀ k,k≤5→(zS x y j k).toNat=zN (nt x) (nt y) j k∧zN (nt x) (nt y) j k≤k * 90071992547409920
 | 0,_=>⟨rfl,Nat.le_refl _⟩
 | k+1,hk=>by
  obtain ⟨h1,h2⟩:=aen hx hy hj k (by omega)
  have xk:=hx k (by omega)
  have hf:∀ m,m < 5→(y m * 5).toNat=nt y m * 5:=fun m hm=>by
   have:=hy m hm
   have e5:(5:UInt64).toNat=5:=rfl
   rw [Mo (by rw [e5]; unfold nt at this; omega),e5]; rfl
  have key:∃ u:Nat,(cond (Nat.ble k j) (y (j - k)) (y (j+5 - k) * 5)).toNat=u∧(if k≤j then nt y (j - k) else nt y (j+5 - k) * 5)=u∧u≤671088640:=by
   by_cases h:k≤j
   ·rw [Nat.ble_eq_true_of_le h,if_pos h,cond_true]
    have:=hy (j - k) (by omega)
    exact ⟨_,rfl,rfl,by unfold nt at *; omega⟩
   ·have hb:Nat.ble k j=false:=by
     cases hb:Nat.ble k j with
     | false=>rfl
     | true=>exact absurd (Nat.le_of_ble_eq_true hb) h
    rw [hb,if_neg h,cond_false]
    have:=hy (j+5 - k) (by omega)
    exact ⟨_,hf _ (by omega),rfl,by omega⟩
  obtain ⟨u,k1,k2,k3⟩:=key
  have hm:nt x k * u≤134217728 * 671088640:=Nat.mul_le_mul (by omega) k3
  have e1:zN (nt x) (nt y) j (k+1)=zN (nt x) (nt y) j k+nt x k * u:=by rw [← k2]; rfl
  have hxm:(x k * cond (Nat.ble k j) (y (j - k)) (y (j+5 - k) * 5)).toNat=nt x k * u:=by
   have:(x k).toNat=nt x k:=rfl
   rw [Mo (by rw [k1,this]; omega),k1]; rfl
  rw [e1]
  refine ⟨?_,by rw [Nat.add_mul]; omega⟩
  show (zS x y j k+x k * cond (Nat.ble k j) (y (j - k)) (y (j+5 - k) * 5)).toNat=_
  rw [Dt (by rw [h1,hxm]; omega),h1,hxm]
theorem abj {x y:Nat→UInt64}(hx:∀ i,i < 5→nt x i < 134217728) (hy:∀ i,i < 5→nt y i < 134217728):N5 (nt (Zd x y))∧V5 (Zd x y) % Pp=V5 x * V5 y % Pp:=by
 have e:∀ j,j < 5→nt (Eng.nU 5 fun j=>zS x y j 5) j=zN (nt x) (nt y) j 5:=fun j hj=>by
  rw [Dp _ _ j hj]
  exact (aen hx hy hj 5 (by omega)).1
 have hl:∀ i,i < 5→nt (Eng.nU 5 fun j=>zS x y j 5) i < M62:=fun i hi=>by
  have:=(aen hx hy hi 5 (by omega)).2
  rw [e i hi]
  unfold M62
  omega
 unfold Zd
 rw [Bs]
 obtain ⟨h1,h2,_⟩:=JT hl
 refine ⟨h1,?_⟩
 rw [h2]
 unfold V5
 rw [A0 e,adq]
theorem TH {x:Nat→UInt64}(h:nt x 0 < M62):∀ i,nt (B6 x) i=if i=0 then nt x 0+5 else nt x i:=fun i=>by
 unfold B6
 cases i with
 | zero =>
  show (x 0+5).toNat=_
  have e5:(5:UInt64).toNat=5:=rfl
  rw [if_pos rfl,Dt (by rw [e5]; unfold nt M62 at h; omega),e5]; rfl
 | succ i=>rfl
theorem abZ {x:Nat→UInt64}(h:∀ i,i < 5→nt x i < M62):T5 (nt (Ru x))∧V5 (Ru x)=V5 x % Pp:=by
 obtain ⟨w,hw⟩:∃ w,w=L1 τr x:=⟨_,rfl⟩
 have hT:T5 (nt w)∧V5 w % Pp=V5 x % Pp:=by
  have e:w=Eng.nU 5 (GN (Eng.nU 5 (GN (Eng.nU 5 x)))):=by
   rw [hw]; unfold L1
   rw [Bs,Bs,Bs]; rfl
  have a0:∀ i,i < 5→nt (Eng.nU 5 x) i < M62:=fun i hi=>by rw [Dp _ _ i hi]; exact h i hi
  obtain ⟨b1,b2,_⟩:=JT a0
  have c0:N5 (nt (Eng.nU 5 (GN (Eng.nU 5 x)))):=Pn (Dp _ 5) b1
  obtain ⟨d1,d2,d3⟩:=JT (acz c0)
  rw [e]
  refine ⟨PR (Dp _ 5) (d3 c0),?_⟩
  rw [MP,d2,MP,b2,MP]
 obtain ⟨hT,hV⟩:=hT
 have hlt:V5 w < B26 ^ 5:=KT (by unfold B26; omega) hT
 have hw62:∀ i,i < 5→nt w i < 67108864:=hT
 have hp5:=TH (x:=w) (by have:=hw62 0 (by omega); unfold M62; omega)
 have hpl:∀ i,i < 5→nt (B6 w) i < M62:=fun i hi=>by
  have:=hw62 i hi
  have:=hw62 0 (by omega)
  rw [hp5 i]
  unfold M62
  split <;> omega
 have hch:∀ j,j < 5→(chS 26 (B6 w) j).toNat=chN B26 (nt (B6 w)) j:=fun j hj=>Ug (by omega) (by omega) fun i hi=>hpl i (by omega)
 have hv5:vN B26 (nt (B6 w)) 5=V5 w+5:=by
  have:=GX B26 (nt w) 0 5 5 (by omega)
  rw [Nat.pow_zero,Nat.mul_one] at this
  unfold V5
  rw [← this]
  exact A0 fun i _=>hp5 i
 have hc:=C2 B26 (nt (B6 w)) 4
 have hcv:vN B26 (nt (B6 w)) (4+1)=V5 w+5:=hv5
 rw [hcv] at hc
 have hr5:∀ i,i < 5→nt (Ql w) i=chN B26 (nt (B6 w)) i % B26:=fun i hi=>by
  show (chS 26 (B6 w) i &&& 67108863).toNat=_
  rw [SO,hch i hi]
 have hrT:T5 (nt (Ql w)):=fun i hi=>by rw [hr5 i hi]; exact Nat.mod_lt _ (by unfold B26; omega)
 have hrV:vN B26 (fun i=>chN B26 (nt (B6 w)) i % B26) (4+1)=V5 (Ql w):=(A0 hr5).symm
 rw [hrV] at hc
 have hrl:V5 (Ql w) < B26 ^ 5:=KT (by unfold B26; omega) hrT
 have hC:(PA w).toNat=chN B26 (nt (B6 w)) 4 / B26:=by
  show (Ad (chS 26 (B6 w) 4) 26).toNat=_
  rw [HJ _ _ (by omega),hch 4 (by omega)]
 rw [← hC] at hc
 have hcond:decide (0 < PA w)=decide (0 < (PA w).toNat):=decide_eq_decide.2 UInt64.lt_iff_toNat_lt
 have hP:=YL
 have hB:B26 ^ 5=2 ^ 130:=rfl
 have hB':B26 ^ (4+1)=2 ^ 130:=rfl
 rw [hB] at hlt hrl
 rw [hB'] at hc
 unfold Ru
 rw [← hw,hcond,← hV]
 generalize (PA w).toNat=k at *
 by_cases hk:0 < k
 ·rw [decide_eq_true hk,cond_true]
  refine ⟨hrT,?_⟩
  generalize V5 (Ql w)=r at *
  generalize V5 w=v at *
  have hk1:k=1:=by omega
  subst hk1
  have:v=r+Pp:=by omega
  have hrP:r < Pp:=by omega
  rw [this,Nat.add_mod_right,Nat.mod_eq_of_lt hrP]
 ·rw [decide_eq_false hk,cond_false]
  refine ⟨hT,?_⟩
  generalize V5 (Ql w)=r at *
  generalize V5 w=v at *
  rw [Nat.mod_eq_of_lt (by omega)]
end Go.Proofs.YtcplgmgpagekfaaGreatDoor.Pol
namespace Go.Proofs.YtcplgmgpagekfaaGreatDoor.Pol
open Go Go.Eng Go.Poly
abbrev M40:Nat:=1099511627776
theorem Wv {a b k:Nat}(h:b < 2 ^ k):(b ||| 2 ^ k * a)=b+2 ^ k * a:=by
 rw [Nat.or_comm,← Nat.two_pow_add_eq_or_of_lt h,Nat.add_comm]
theorem OL (x:UInt64) (k:Nat) (hk:k < 64) (h:x.toNat * 2 ^ k < 18446744073709551616):(AI x k).toNat=x.toNat * 2 ^ k:=abE x k hk h
theorem VI {x:Nat→UInt64}{n:Nat}(h:∀ i,i < n→nt x i < M40){j:Nat}(hj:j < n):(chS 8 x j).toNat=chN 256 (nt x) j:=
 Ug (s:=8) (by omega) (by omega) fun i hi=>by have:=h i (by omega); unfold M40 M62 at *; omega
theorem al8 {X:Nat→Nat}{j:Nat}(h:∀ i,i≤j→X i < M40):chN 256 X j < 2 * M40:=by
 have:=Lj (b:=256) (by omega) (x:=X) (M:=M40 - 1) (j:=j) fun i hi=>by have:=h i hi; omega
 unfold M40 at *
 omega
theorem ajw {x:Nat→UInt64}(h:∀ i,i < 18→nt x i < M40):((Ad (chS 8 x 16 &&& 255) 2 ||| AI (chS 8 x 17 &&& 255) 6) ||| AI (Ad (chS 8 x 17) 8) 14).toNat=JH (nt x)∧JH (nt x) < M40 * M40 / 1048576:=by
 have h16:=VI h (show 16 < 18 by omega)
 have h17:=VI h (show 17 < 18 by omega)
 have b17:=al8 (X:=nt x) (j:=17) fun i hi=>h i (by omega)
 have a1:(Ad (chS 8 x 16 &&& 255) 2).toNat=chN 256 (nt x) 16 % 256 / 4:=by rw [HJ _ _ (by omega),N8,h16]
 have a2:(AI (chS 8 x 17 &&& 255) 6).toNat=2 ^ 6 * (chN 256 (nt x) 17 % 256):=by
  rw [OL _ _ (by omega) (by rw [N8]; omega),N8,h17,Nat.mul_comm]
 have a3':(Ad (chS 8 x 17) 8).toNat=chN 256 (nt x) 17 / 256:=by rw [HJ _ _ (by omega),h17]
 have a3:(AI (Ad (chS 8 x 17) 8) 14).toNat=2 ^ 14 * (chN 256 (nt x) 17 / 256):=by
  rw [OL _ _ (by omega) (by rw [a3']; unfold M40 at *; omega),a3',Nat.mul_comm]
 rw [UInt64.toNat_or,UInt64.toNat_or,a1,a2,a3]
 unfold JH
 unfold M40 at *
 generalize chN 256 (nt x) 16=u at *
 generalize chN 256 (nt x) 17=w at *
 have o1:(u % 256 / 4 ||| 2 ^ 6 * (w % 256))=u % 256 / 4+2 ^ 6 * (w % 256):=Wv (by omega)
 rw [o1,Wv (by omega)]
 omega
theorem Nb {x:Nat→UInt64}(h:∀ i,i < 18→nt x i < M40){j:Nat}(hj:j < 18):nt (Cj x) j=AM (nt x) j:=by
 obtain ⟨t1,t2⟩:=ajw h
 have hc:∀ i,i < 18→(chS 8 x i &&& 255).toNat=chN 256 (nt x) i % 256:=fun i hi=>by rw [N8,VI h hi]
 by_cases h0:j=0
 ·subst h0
  show ((chS 8 x 0 &&& 255)+5 * ((Ad (chS 8 x 16 &&& 255) 2 ||| AI (chS 8 x 17 &&& 255) 6) ||| AI (Ad (chS 8 x 17) 8) 14)).toNat=chN 256 (nt x) 0 % 256+5 * JH (nt x)
  have e5:(5:UInt64).toNat=5:=rfl
  have e6:(5 * ((Ad (chS 8 x 16 &&& 255) 2 ||| AI (chS 8 x 17 &&& 255) 6) ||| AI (Ad (chS 8 x 17) 8) 14)).toNat=5 * JH (nt x):=by
   rw [Mo (by rw [e5,t1]; unfold M40 at *; omega),t1,e5]
  rw [Dt (by rw [e6,hc 0 (by omega)]; unfold M40 at *; omega),e6,hc 0 (by omega)]
 by_cases h1:j=16
 ·subst h1
  show ((chS 8 x 16 &&& 255) &&& 3).toNat=chN 256 (nt x) 16 % 256 % 4
  rw [af5,hc 16 (by omega)]
 by_cases h2:j=17
 ·subst h2; rfl
 have e1:Cj x j=(chS 8 x j &&& 255):=by
  unfold Cj
  split
  ·exact absurd rfl h0
  ·exact absurd rfl h1
  ·exact absurd rfl h2
  ·rfl
 show (Cj x j).toNat=_
 rw [e1,hc j hj]
 unfold AM FU
 rw [if_neg h0,if_neg h1,if_neg h2]
theorem Ii {X Y:Nat→Nat}(h:∀ i,i < 18→X i=Y i){j:Nat}(hj:j < 18):AM X j=AM Y j:=by
 have hc:∀ k,k < 18→chN 256 X k=chN 256 Y k:=fun k hk=>C8 fun i hi=>h i (by omega)
 unfold AM FU JH
 rw [hc 0 (by omega),hc 16 (by omega),hc 17 (by omega),hc j hj]
theorem af7 {x:Nat→UInt64}(h:∀ i,i < 18→nt x i≤4096):∀ j,j < 18→nt (carR x) j=N0 (nt x) j:=fun j hj=>by
 have h0:∀ i,i < 18→nt x i < M40:=fun i hi=>by have:=h i hi; unfold M40; omega
 have v0:=OG (X:=nt x) h
 obtain ⟨v1,v2,v3⟩:=Kz v0
 have e1:∀ i,i < 18→nt (Cj x) i=AM (nt x) i:=fun i hi=>Nb h0 hi
 have h1:∀ i,i < 18→nt (Cj x) i < M40:=fun i hi=>by
  have:=Kv v0 i hi
  rw [e1 i hi]; unfold M40; omega
 have e2:∀ i,i < 18→nt (Cj (Cj x)) i=AM (AM (nt x)) i:=fun i hi=>by rw [Nb h1 hi,Ii e1 hi]
 have h2:∀ i,i < 18→nt (Cj (Cj x)) i < M40:=fun i hi=>by
  have:=Kv v1 i hi
  rw [e2 i hi]; unfold M40; omega
 have e3:∀ i,i < 18→nt (Cj (Cj (Cj x))) i=AM (AM (AM (nt x))) i:=fun i hi=>by rw [Nb h2 hi,Ii e2 hi]
 have h3:∀ i,i < 18→nt (Cj (Cj (Cj x))) i < M40:=fun i hi=>by
  have:=Kv (X:=AM (AM (nt x))) (c:=0) (by omega) i hi
  rw [e3 i hi]; unfold M40; omega
 show (chS 8 (Cj (Cj (Cj x))) j &&& 255).toNat=chN 256 (AM (AM (AM (nt x)))) j % 256
 rw [N8,VI h3 hj,C8 fun i hi=>e3 i (by omega)]
theorem Gg {X Y:Nat→Nat}(h:∀ i,i < 18→X i=Y i) (hC:C18 Y):C18 X:=⟨fun i hi=>by rw [h i hi]; exact hC.1 i hi,by rw [A0 h]; exact hC.2⟩
theorem NE {x:Nat→UInt64}(h:∀ i,i < 18→nt x i≤4096):C18 (nt (carR x))∧V18 (carR x) % Pp=V18 x % Pp:=by
 have e:=af7 h
 obtain ⟨a,b⟩:=Wn (X:=nt x) h
 refine ⟨Gg e a,?_⟩
 unfold V18
 rw [A0 e,b]
theorem adi {a b:Nat→UInt64}(ha:∀ i,i < 18→nt a i < 256) (hb:∀ i,i < 18→nt b i < 256) (m:Nat):∀ k,k≤18→(tR a b m k).toNat=prN (nt a) (nt b) 18 m k∧prN (nt a) (nt b) 18 m k≤k * 65025
 | 0,_=>⟨rfl,Nat.le_refl _⟩
 | k+1,hk=>by
  obtain ⟨h1,h2⟩:=adi ha hb m k (by omega)
  have e:prN (nt a) (nt b) 18 m (k+1)=prN (nt a) (nt b) 18 m k+JI (nt b) (nt a k) k 18 m:=rfl
  have ak:=ha k (by omega)
  rw [e]
  show (cond (Nat.ble k m && Nat.ble m (k+17)) (tR a b m k+a k * b (m - k)) (tR a b m k)).toNat=_∧_
  by_cases hc:k≤m∧m < k+18
  ·have hbm:=hb (m - k) (by omega)
   have hm:nt a k * nt b (m - k)≤255 * 255:=Nat.mul_le_mul (by omega) (by omega)
   have er:JI (nt b) (nt a k) k 18 m=nt a k * nt b (m - k):=by unfold JI; rw [if_pos hc]
   have em:(a k * b (m - k)).toNat=nt a k * nt b (m - k):=Mo (by unfold nt at hm; omega)
   rw [Nat.ble_eq_true_of_le hc.1,Nat.ble_eq_true_of_le (show m≤k+17 by omega),er]
   simp only [Bool.and_self,cond_true]
   exact ⟨by rw [Dt (by rw [h1,em]; omega),h1,em],by rw [Nat.add_mul]; omega⟩
  ·have er:JI (nt b) (nt a k) k 18 m=0:=by unfold JI; rw [if_neg hc]
   have hb:(Nat.ble k m && Nat.ble m (k+17))=false:=by
    cases hb:(Nat.ble k m && Nat.ble m (k+17)) with
    | false=>rfl
    | true =>
     rw [Bool.and_eq_true] at hb
     have:=Nat.le_of_ble_eq_true hb.1
     have:=Nat.le_of_ble_eq_true hb.2
     exact absurd ⟨by omega,by omega⟩ hc
   rw [hb,cond_false,er,Nat.add_zero,Nat.add_mul]
   exact ⟨h1,Nat.le_trans h2 (Nat.le_add_right _ _)⟩
theorem anG {a b:Nat→UInt64}(ha:∀ i,i < 18→nt a i < 256) (hb:∀ i,i < 18→nt b i < 256) (j:Nat):nt (tC a b) j=tcN (nt a) (nt b) j:=by
 have e:∀ i,nt (fun m=>tR a b m 18) i=abB (nt a) (nt b) i:=fun i=>(adi ha hb i 18 (by omega)).1
 have hl:∀ i,i < j+1→nt (fun m=>tR a b m 18) i < M40:=fun i _=>by
  have:=(adi ha hb i 18 (by omega)).2
  rw [e i]
  unfold abB M40
  omega
 show (chS 8 (fun m=>tR a b m 18) j &&& 255).toNat=_
 rw [N8,VI hl (by omega),C8 fun i _=>e i]
 unfold tcN
 rfl
theorem alT {x y:UInt64}(hx:x.toNat < 256) (hy:y.toNat < 256):(Ad x 2 ||| (AI y 6 &&& 255)).toNat=x.toNat / 4+y.toNat % 4 * 64:=by
 have a1:(Ad x 2).toNat=x.toNat / 4:=by rw [HJ _ _ (by omega)]
 have a2:(AI y 6 &&& 255).toNat=2 ^ 6 * (y.toNat % 4):=by rw [N8,OL _ _ (by omega) (by omega)]; omega
 rw [UInt64.toNat_or,a1,a2,Wv (by omega)]
 omega
theorem ajH {a b:Nat→UInt64}(ha:∀ i,i < 18→nt a i < 256) (hb:∀ i,i < 18→nt b i < 256):∀ j,j < 18→nt (prR a b) j=TM (nt a) (nt b) j:=fun j hj=>by
 have ht:=anG ha hb
 have htl:∀ i,nt (tC a b) i < 256:=fun i=>by rw [ht i]; exact Nat.mod_lt _ (by omega)
 have h1:nt (loR a b) j=loN (nt a) (nt b) j:=by
  show (loR a b j).toNat=_
  unfold loR loN
  by_cases c:17≤j
  ·rw [Nat.ble_eq_true_of_le c,if_pos c]; rfl
  ·have hb:Nat.ble 17 j=false:=by
    cases hb:Nat.ble 17 j with
    | false=>rfl
    | true=>exact absurd (Nat.le_of_ble_eq_true hb) c
   rw [hb,if_neg c,cond_false]
   by_cases d:j=16
   ·subst d
    rw [if_pos rfl,show Nat.beq 16 16=true by rfl,cond_true,af5,← ht 16]; rfl
   ·have hq:Nat.beq j 16=false:=by
     cases hq:Nat.beq j 16 with
     | false=>rfl
     | true=>exact absurd (Nat.eq_of_beq_eq_true hq) d
    rw [if_neg d,hq,cond_false,← ht j]; rfl
 have h2:nt (hiR a b) j=hiN (nt a) (nt b) j:=by
  show (hiR a b j).toNat=_
  unfold hiR hiN
  by_cases c:17≤j
  ·rw [Nat.ble_eq_true_of_le c,if_pos c]; rfl
  ·have hb:Nat.ble 17 j=false:=by
    cases hb:Nat.ble 17 j with
    | false=>rfl
    | true=>exact absurd (Nat.le_of_ble_eq_true hb) c
   rw [hb,if_neg c,cond_false,alT (htl (16+j)) (htl (17+j)),← ht (16+j),← ht (17+j)]; rfl
 have hle:=Ou (a:=nt a) (b:=nt b) j hj
 have e5:(5:UInt64).toNat=5:=rfl
 have hle2:loN (nt a) (nt b) j+5 * hiN (nt a) (nt b) j≤4096:=hle
 have h1':(loR a b j).toNat=loN (nt a) (nt b) j:=h1
 have h2':(hiR a b j).toNat=hiN (nt a) (nt b) j:=h2
 have e6:(5 * hiR a b j).toNat=5 * hiN (nt a) (nt b) j:=by rw [Mo (by rw [e5,h2']; omega),e5,h2']
 show (loR a b j+5 * hiR a b j).toNat=loN (nt a) (nt b) j+5 * hiN (nt a) (nt b) j
 rw [Dt (by rw [e6,h1']; omega),e6,h1']
theorem Y5 {a b:Nat→UInt64}(ha:C18 (nt a)) (hb:C18 (nt b)):C18 (nt (PX a b))∧V18 (PX a b) % Pp=V18 a * V18 b % Pp:=by
 have e:=ajH ha.1 hb.1
 have h1:∀ i,i < 18→nt (Eng.nU 18 (prR a b)) i≤4096:=fun i hi=>by rw [Dp _ _ i hi,e i hi]; exact Ou i hi
 unfold PX
 rw [Bs]
 obtain ⟨c,d⟩:=NE h1
 refine ⟨c,?_⟩
 rw [d,G0]
 unfold V18
 rw [A0 e,aaF ha.2 hb.2]
theorem Vj {x:Nat→UInt64}(h:∀ i,i < 18→nt x i≤4096):C18 (nt (F3 x))∧V18 (F3 x)=V18 x % Pp:=by
 obtain ⟨w,hw⟩:∃ w,w=whG τr x:=⟨_,rfl⟩
 have hT:C18 (nt w)∧V18 w % Pp=V18 x % Pp:=by
  have e:w=Eng.nU 18 (carR (Eng.nU 18 x)):=by rw [hw]; unfold whG; rw [Bs,Bs]; rfl
  have a0:∀ i,i < 18→nt (Eng.nU 18 x) i≤4096:=fun i hi=>by rw [Dp _ _ i hi]; exact h i hi
  obtain ⟨b1,b2⟩:=NE a0
  rw [e]
  exact ⟨Gg (Dp _ 18) b1,by rw [G0,b2,G0]⟩
 obtain ⟨⟨hD,hL⟩,hV⟩:=hT
 have hp5:=TH (x:=w) (by have:=hD 0 (by omega); unfold M62; omega)
 have hpl:∀ i,i < 18→nt (B6 w) i < M40:=fun i hi=>by
  have:=hD i hi
  have:=hD 0 (by omega)
  rw [hp5 i]
  unfold M40
  split <;> omega
 have hw5:∀ i,i < 18→nt (wh5 w) i=chN 256 (nt (B6 w)) i % 256:=fun i hi=>by
  show (chS 8 (B6 w) i &&& 255).toNat=_
  rw [N8,VI hpl hi]
 have hv5:vN 256 (nt (B6 w)) 18=V18 w+5:=by
  have:=GX 256 (nt w) 0 5 18 (by omega)
  rw [Nat.pow_zero,Nat.mul_one] at this
  unfold V18
  rw [← this]
  exact A0 fun i _=>hp5 i
 have hc:=C2 256 (nt (B6 w)) 17
 have hcv:vN 256 (nt (B6 w)) (17+1)=V18 w+5:=hv5
 have hrV:vN 256 (fun i=>chN 256 (nt (B6 w)) i % 256) (17+1)=V18 (wh5 w):=(A0 hw5).symm
 rw [hcv,hrV] at hc
 have hlt:V18 w < 2 ^ 130:=hL
 have hd5:∀ i,i < 18→nt (wh5 w) i < 256:=fun i hi=>by rw [hw5 i hi]; exact Nat.mod_lt _ (by omega)
 have hval:V18 (wh5 w)=V18 w+5:=by
  generalize V18 (wh5 w)=r at *
  generalize V18 w=v at *
  generalize chN 256 (nt (B6 w)) 17 / 256=k at *
  clear hw5 hD hp5 hpl hd5 hrV
  have hc':v+5=r+k * 256 ^ 18:=hc
  omega
 have h17:nt (wh5 w) 17=0:=TX (b:=256) (by omega) (x:=nt (wh5 w)) (n:=18) (k:=17) (by
  have:vN 256 (nt (wh5 w)) 18=V18 w+5:=hval
  rw [this]
  generalize V18 w=v at *
  clear hw5 hD hp5 hpl hd5 hrV hc
  omega) (by omega) (by omega)
 have hsp:=TE (nt (wh5 w))
 have h16:=KT (b:=256) (by omega) (x:=nt (wh5 w)) (n:=16) fun i hi=>hd5 i (by omega)
 have hd16:=hd5 16 (by omega)
 rw [h17,Nat.zero_mul,Nat.add_zero,show vN 256 (nt (wh5 w)) 18=V18 w+5 from hval] at hsp
 have hcond:decide (4≤wh5 w 16)=decide (4≤nt (wh5 w) 16):=decide_eq_decide.2 UInt64.le_iff_toNat_le
 have hP:=YL
 have hw3:∀ i,i < 18→nt (wh3 w) i=if i=16 then nt (wh5 w) 16 % 4 else nt (wh5 w) i:=fun i hi=>by
  show (wh3 w i).toNat=_
  unfold wh3
  by_cases d:i=16
  ·subst d
   rw [if_pos rfl,show Nat.beq 16 16=true by rfl,cond_true,af5]; rfl
  ·have hq:Nat.beq i 16=false:=by
    cases hq:Nat.beq i 16 with
    | false=>rfl
    | true=>exact absurd (Nat.eq_of_beq_eq_true hq) d
   rw [if_neg d,hq,cond_false]; rfl
 have hv3:V18 (wh3 w)=vN 256 (nt (wh5 w)) 16+nt (wh5 w) 16 % 4 * 256 ^ 16:=by
  show vN 256 (nt (wh3 w)) 18=_
  rw [TE,hw3 16 (by omega),hw3 17 (by omega),if_pos rfl,if_neg (by omega),h17,Nat.zero_mul,Nat.add_zero,A0 (x:=nt (wh3 w)) (y:=nt (wh5 w)) fun i hi=>by rw [hw3 i (by omega),if_neg (by omega)]]
 have hd3:∀ i,i < 18→nt (wh3 w) i < 256:=fun i hi=>by
  rw [hw3 i hi]
  split
  ·omega
  ·exact hd5 i hi
 unfold F3
 rw [← hw,hcond,← hV]
 by_cases hk:4≤nt (wh5 w) 16
 ·rw [decide_eq_true hk,cond_true]
  have:V18 (wh3 w)=V18 w % Pp:=by
   rw [hv3]
   generalize V18 w=v at *
   generalize vN 256 (nt (wh5 w)) 16=u at *
   generalize nt (wh5 w) 16=d at *
   clear hw5 hD hp5 hpl hd5 hrV hc hw3 hd3 hv3 hv5 hcv
   have hd4:d=4:=by omega
   subst hd4
   have e:v=u+Pp:=by omega
   have hu:u < Pp:=by omega
   rw [e,Nat.add_mod_right,Nat.mod_eq_of_lt hu]
   omega
  refine ⟨⟨hd3,?_⟩,this⟩
  show V18 (wh3 w) < 2 ^ 130
  rw [this]
  have:=Nat.mod_lt (V18 w) agV
  generalize V18 w % Pp=z at *
  clear hw5 hD hp5 hpl hd5 hrV hc hw3 hd3 hv3 hv5 hcv
  omega
 ·rw [decide_eq_false hk,cond_false]
  refine ⟨⟨hD,hL⟩,?_⟩
  generalize V18 w=v at *
  generalize vN 256 (nt (wh5 w)) 16=u at *
  generalize nt (wh5 w) 16=d at *
  clear hw5 hD hp5 hpl hd5 hrV hc hw3 hd3 hv3 hv5 hcv
  rw [Nat.mod_eq_of_lt (by omega)]
end Go.Proofs.YtcplgmgpagekfaaGreatDoor.Pol
