/- Texts Tk6, Tk7, Tk8, Tk9: what they show that this claim uses. -/
import Derived.Test.YtjdhndicgifnbaaQ11
set_option maxRecDepth 100000
set_option maxHeartbeats 1000000
set_option linter.unusedVariables false
set_option linter.unusedSimpArgs false
namespace Go.Proofs.Ytjdhndicgifnbaa.Tun
open Go Go.Eng Go.Proofs.Ytjdhndicgifnbaa Go.Proofs.Ytjdhndicgifnbaa.Pol
structure JB (v:RowV) (ts:List (List UInt8)) (rc ct rk lf:UInt64) (sz:Int) (ta tb:Tn) (H:HL):Prop where
 tx:aget H 0=some (.cells true (ts.map .str))
 co:∀ l,v=.row l→aget H 1=some (.cells true (l.map .u8))
 lm:aget H 2=some (.cells false [.u64 rc,.u64 ct,.u64 rk,.u64 lf,.int .i64 sz])
 a:LkT 178 ta H
 b:LkT 250 tb H
theorem JB.keep {v:RowV}{ts:List (List UInt8)}{rc ct rk lf:UInt64}{sz:Int}{ta tb:Tn}{H H':HL}(h:JB v ts rc ct rk lf sz ta tb H) (hk:∀ n,n < 254→aget H' n=aget H n):JB v ts rc ct rk lf sz ta tb H':=
 ⟨(hk 0 (by omega)).trans h.tx,fun l hl=>(hk 1 (by omega)).trans (h.co l hl),(hk 2 (by omega)).trans h.lm,h.a.keep fun n _ h2=>hk n (by omega),h.b.keep fun n _ h2=>hk n (by omega)⟩
theorem JB.setA {v:RowV}{ts:List (List UInt8)}{rc ct rk lf:UInt64}{sz:Int}{ta tb ta2:Tn}{H H':HL}(h:JB v ts rc ct rk lf sz ta tb H) (h1:LkT 178 ta2 H') (hk:∀ n,(n < 178 ∨ 178+4≤n)→aget H' n=aget H n):JB v ts rc ct rk lf sz ta2 tb H':=
 ⟨(hk 0 (by omega)).trans h.tx,fun l hl=>(hk 1 (by omega)).trans (h.co l hl),(hk 2 (by omega)).trans h.lm,h1,h.b.keep fun n _ h2=>hk n (by omega)⟩
theorem JB.setB {v:RowV}{ts:List (List UInt8)}{rc ct rk lf:UInt64}{sz:Int}{ta tb tb2:Tn}{H H':HL}(h:JB v ts rc ct rk lf sz ta tb H) (h1:LkT 250 tb2 H') (hk:∀ n,(n < 250 ∨ 250+4≤n)→aget H' n=aget H n):JB v ts rc ct rk lf sz ta tb2 H':=
 ⟨(hk 0 (by omega)).trans h.tx,fun l hl=>(hk 1 (by omega)).trans (h.co l hl),(hk 2 (by omega)).trans h.lm,h.a.keep fun n _ h2=>hk n (by omega),h1⟩
theorem JB_new (v:RowV) (ts:List (List UInt8)) (now rc ct rk lf:UInt64) (sz:Int):JB v ts rc ct rk lf sz (tAk now rc ct rk lf sz 0) (newT keyB keyA false now rc ct rk lf sz) (hR3 v ts now rc ct rk lf sz):=by
 cases v with
 | row l=>exact ⟨rfl,fun l' h=>by cases h; rfl,rfl,⟨rfl,rfl,rfl,rfl⟩,⟨rfl,rfl,rfl,rfl⟩⟩
 | nil=>exact ⟨rfl,(fun l' h=>by cases h),rfl,⟨rfl,rfl,rfl,rfl⟩,⟨rfl,rfl,rfl,rfl⟩⟩
 | emp=>exact ⟨rfl,(fun l' h=>by cases h),rfl,⟨rfl,rfl,rfl,rfl⟩,⟨rfl,rfl,rfl,rfl⟩⟩
def SN (ts:List (List UInt8)) (q:Nat) (sv:AVal) (H:HL) (fr:Nat):Prop:=(q=0∧sv=.nilSlice) ∨ (0 < q∧∃ m,254≤m∧m < fr∧sv=.slice m 0 q 2∧aget H m=some (.cells false (snC (snt ts q))))
theorem round_stuck {f:SA→Option (XA × SA)}{s0 s s1:SA}{T:TL}{t:Tn}(e:f s=some (.normal,s1)) (ha:LkT 178 t s1.H) (h0:178 < s0.fr) (hp:∀ p,p ∈ pairsT s0.fr 0 s0.T s1.T→p.2 ≠ 178) (hT:reshape s0.T s1.T=T):roundA f (headA Try.prog 2 s0) s=some ⟨T,s1.H,s1.fr⟩:=by
 unfold roundA
 rw [e]
 show some (headA Try.prog 2 s0 s1)=_
 rw [head_stuck hp ha.ht h0 (fun m n=>ren_cT m n _ _ _) (lt_cT _ _ _ _),hT]
theorem txt_at {ts:List (List UInt8)}{i:Nat}(h:i < ts.length):(ts.map AVal.str)[0+(Int.toNat (i:Int)) * 1]? = some (.str (ts.getD i [])):=by
 rw [Int.toNat_natCast,Nat.zero_add,Nat.mul_one,List.getElem?_map,List.getElem?_eq_getElem h,List.getD_eq_getElem?_getD,List.getElem?_eq_getElem h]
 rfl
theorem ofNat_bne (i:Nat):(!(UInt64.ofNat i != UInt64.ofInt (i:Int)))=true:=by
 rw [ofInt_nat]
 simp
section
variable {v:RowV}{ts:List (List UInt8)}{now rc ct rk lf:UInt64}{sz s0 i0:Int}
def st2 (v:RowV) (ts:List (List UInt8)) (now rc ct rk lf:UInt64) (sz s0 i0:Int) (sv:AVal) (i:Nat) (H:HL) (fr:Nat):SA:=⟨TS (cvA v) ts.length now rc ct rk lf sz s0 i0 sv i,H,fr⟩
def J2 (v:RowV) (ts:List (List UInt8)) (now rc ct rk lf:UInt64) (sz s0 i0:Int) (tb:Tn) (i:Nat) (s:SA):Prop:=
 ∃ sv H fr,s=st2 v ts now rc ct rk lf sz s0 i0 sv i H fr∧362≤fr∧JB v ts rc ct rk lf sz (tAk now rc ct rk lf sz (UInt64.ofNat (min i ct.toNat))) tb H∧SN ts (min i ct.toNat) sv H fr
theorem pairs2 (v:RowV) (n m q:Nat) (i j:Int) (E:TL):pairsT 362 0 (TS (cvA v) n now rc ct rk lf sz s0 i0 .nilSlice i) (TS (cvA v) n now rc ct rk lf sz s0 i0 (.slice m 0 q 2) j++E)=cond (Nat.ble (m+1) 362) [] [(m,match v with | .nil=>360 | _=>361)]:=by
 cases v <;> rfl
theorem pairs2_ok (v:RowV) (n m q:Nat) (i j:Int) (E:TL):∀ p,p ∈ pairsT 362 0 (TS (cvA v) n now rc ct rk lf sz s0 i0 .nilSlice i) (TS (cvA v) n now rc ct rk lf sz s0 i0 (.slice m 0 q 2) j++E)→p.2 ≠ 178:=by
 intro p hp
 rw [pairs2] at hp
 cases hb:Nat.ble (m+1) 362 <;> rw [hb] at hp <;> simp only [cond_true,cond_false,List.mem_nil_iff,List.mem_singleton] at hp
 subst hp
 cases v <;> simp
theorem round2 (hm:mayD rc ct rk lf sz=true){tb:Tn}{i:Nat}(hi:i < ts.length) (hl:ts.length≤512) (hx:(ts.getD i []).length≤65536){s:SA}(h:J2 v ts now rc ct rk lf sz s0 i0 tb i s) (h0:HL) :
  ∃ s',roundA (evC Try.prog csL Try.f4.ntmps (mask 4) 1000 2 K12) (headA Try.prog 2 (st2 v ts now rc ct rk lf sz s0 i0 .nilSlice 0 h0 362)) s=some s'∧J2 v ts now rc ct rk lf sz s0 i0 tb (i+1) s':=by
 obtain ⟨sv,H,fr,rfl,hfr,hJ,hS⟩:=h
 obtain ⟨f0,rfl⟩:∃ f0,fr=f0+362:=⟨fr - 362,by omega⟩
 obtain ⟨p1,p2,_⟩:=may_parts hm
 have hei:eqS (.int .i64 (IntKind.wrap .i64 ((i:Int)+1))) (.int .i64 ((i+1:Nat):Int))=true:=eqI2 hi (by omega)
 have hld:∀ b,ld 0 (0+(Int.toNat (i:Int)) * 1) (.str (ts.getD i [])) b H=true:=fun b=>ld_of hJ.tx (txt_at hi)
 by_cases hc:i < ct.toNat
 ·have m1:min i ct.toNat=i:=by omega
  have m2:min (i+1) ct.toNat=i+1:=by omega
  rw [m1] at hJ hS
  obtain ⟨e1,e2⟩:=sealA_yes (now:=now) hm hc hx
  obtain ⟨H1,a1,a2,a3⟩:=meth_at hJ.a (val:=fun _ s=>sealV now (ts.getD i []) s) (next:=sealN now (ts.getD i [])) (ok:=fun _=>true) rfl e1 e2 (base:=(((((((f0+362)+32)+8)+8)+8)+8)+8)+8) (by omega)
  have hJ1:=hJ.setA a2 a3
  have hlt:decide (UInt64.ofInt (i:Int) < ct)=true:=by
   refine decide_eq_true ?_
   rw [ofInt_nat,lt_nat,UInt64.toNat_ofNat']
   omega
  -- the row
  obtain ⟨m,H3,b1,b2,b3,b4⟩:∃ m H3,(appE sv ((((((((f0+362)+32)+112)+144)+16)+8)+8)+8+8)).app (((((((((f0+362)+32)+112)+144)+16)+8)+8)+8+8)+8) (aset H1 ((((((((f0+362)+32)+112)+144)+16)+8)+8)+8+8) (.cells false [.u64 (UInt64.ofNat i),.str (ciph i (ts.getD i []))]))=some (.slice m 0 (i+1) 2,H3)∧(f0+362≤m∧m < f0+362+360)∧aget H3 m=some (.cells false (snC (snt ts (i+1))))∧∀ n,n < 254→aget H3 n=aget H1 n:=by
   have hB:∀ (B:Nat) (c:List AVal),aget (aset H1 B (.cells false c)) B=some (.cells false c):=fun B c=>by rw [aget_aset,if_pos rfl]
   rcases hS with ⟨q0,rfl⟩ | ⟨q0,m,g1,g2,rfl,g3⟩
   ·subst q0
    refine ⟨_,_,app_nil (hB _ _),⟨by omega,by omega⟩,?_,fun n hn => ?_⟩
    ·rw [aget_aset,if_pos rfl,snt_succ]; rfl
    ·rw [aget_aset,if_neg (by omega),aget_aset,if_neg (by omega)]
   ·have g3':aget H1 m=some (.cells false (snC (snt ts i))):=(a3 m (by omega)).trans g3
    refine ⟨_,_,app_old (hB _ _) (C:=snC (snt ts i)) (by rw [aget_aset,if_neg (by omega)]; exact g3') (by rw [snC_len,snt_len]) (by omega),⟨by omega,by omega⟩,?_,fun n hn => ?_⟩
    ·have et:(snC (snt ts i)).take ((snt ts i).length * 2)=snC (snt ts i):=by rw [← snC_len,List.take_length]
     rw [aget_aset,if_pos rfl,snt_succ,← snC_app,et]
    ·rw [aget_aset,if_neg (by omega),aget_adel,if_neg (by omega),aget_aset,if_neg (by omega)]
  have hJ3:=hJ1.keep b4
  have r:=w4a (cvA v) sv ts.length now rc ct rk lf sz s0 i0 (encL H1) (encL H3) i (i+1) f0 m (i+1) (ts.getD i []) (ciph i (ts.getD i [])) H (UInt64.ofNat i)
  rw [heapL_encL,heapL_encL] at r
  have e:=(evT_ok psY_ok _ _ _ _ _ _ r (allT_c hei (allT_c (mOb_of b1) (allT_c (ofNat_bne i) (allT_c hlt (allT_c (ld_of hJ1.lm rfl) (allT_c (mOb_of a1) (allT_c (hld _) (allT_c (inI hi) (allT_c (ltI hi) rfl)))))))))).1
  refine ⟨_,round_stuck e hJ3.a (show 178 < 362 by decide) (pairs2_ok v ts.length m (i+1) _ _ _) rfl,.slice m 0 (i+1) 2,H3,_,rfl,?_,?_,?_⟩
  ·show 362≤f0+362+32+112+144+16+56+24
   omega
  ·rw [m2]; exact hJ3
  ·rw [m2]
   refine .inr ⟨by omega,m,by omega,?_,rfl,b3⟩
   show m < f0+362+32+112+144+16+56+24
   omega
 ·have m1:min i ct.toNat=ct.toNat:=by omega
  have m2:min (i+1) ct.toNat=ct.toNat:=by omega
  rw [m1,UInt64.ofNat_toNat] at hJ
  rw [m1] at hS
  obtain ⟨e1,e2⟩:=sealA_no (now:=now) hm (ts.getD i [])
  obtain ⟨H1,a1,a2,a3⟩:=meth_at hJ.a (val:=fun _ s=>sealV now (ts.getD i []) s) (next:=sealN now (ts.getD i [])) (ok:=fun _=>true) rfl e1 e2 (base:=(((((((f0+362)+32)+8)+8)+8)+8)+8)+8) (by omega)
  have hJ1:=hJ.setA a2 a3
  have hlt:(!decide (UInt64.ofInt (i:Int) < ct))=true:=by
   rw [Bool.not_eq_true']
   refine decide_eq_false ?_
   rw [ofInt_nat,lt_nat,UInt64.toNat_ofNat']
   omega
  rcases hS with ⟨q0,_⟩ | ⟨q0,m,g1,g2,rfl,g3⟩
  ·omega
  have r:=w4b (cvA v) (.slice m 0 ct.toNat 2) ts.length now rc ct rk lf sz s0 i0 (encL H1) i (i+1) f0 (ts.getD i []) H
  rw [heapL_encL] at r
  have e:=(evT_ok psY_ok _ _ _ _ _ _ r (allT_c hei (allT_c hlt (allT_c (ld_of hJ1.lm rfl) (allT_c (mOb_of a1) (allT_c (hld _) (allT_c (inI hi) (allT_c (ltI hi) rfl)))))))).1
  refine ⟨_,round_stuck e a2 (show 178 < 362 by decide) (pairs2_ok v ts.length m ct.toNat _ _ _) rfl,.slice m 0 ct.toNat 2,H1,_,rfl,?_,?_,?_⟩
  ·show 362≤f0+362+32+112+144+16+24
   omega
  ·rw [m2,UInt64.ofNat_toNat]; exact hJ1
  ·rw [m2]
   refine .inr ⟨q0,m,g1,?_,rfl,(a3 m (by omega)).trans g3⟩
   show m < f0+362+32+112+144+16+24
   omega
end
end Go.Proofs.Ytjdhndicgifnbaa.Tun
namespace Go.Proofs.Ytjdhndicgifnbaa.Tun
open Go Go.Eng Go.Proofs.Ytjdhndicgifnbaa Go.Proofs.Ytjdhndicgifnbaa.Pol
theorem off_k (k:Nat):0+(Int.toNat (k:Int)) * 1=k:=by rw [Int.toNat_natCast]; omega
theorem write_of {H:HL}{p k base:Nat}{c:List AVal}{x:AVal}(h:aget H p=some (.cells false c)) (hk:k < c.length):(writeA p (0+(Int.toNat (k:Int)) * 1) [x]).app base H=some (.tup [],aset H p (.cells false (c.set k x))):=by
 rw [off_k]
 unfold writeA
 have e:Nat.ble (k+[x].length) c.length=true:=Nat.ble_eq_true_of_le (show k+1≤c.length by omega)
 have e2:putA c k [x]=c.set k x:=by
  unfold putA
  rw [List.set_eq_take_append_cons_drop,if_pos hk]
  simp
 simp only [EffA.app,h,e,cond_true,e2]
 rfl
theorem row_u8 {l:List UInt8}{a:Nat}(h:a < l.length):(l.map AVal.u8)[0+(Int.toNat (a:Int)) * 1]? = some (.u8 (l.getD a 0)):=by
 rw [off_k,List.getElem?_map,List.getElem?_eq_getElem h,List.getD_eq_getElem?_getD,List.getElem?_eq_getElem h]
 rfl
theorem tmod_nat (a N:Nat):eqS (.int .i64 (Int.tmod ((a:Nat):Int) (N:Int))) (.int .i64 ((a % N:Nat):Int))=true:=by
 rw [(Int.ofNat_tmod a N).symm]
 simp [eqS]
theorem snC_ld {ts:List (List UInt8)}{N k:Nat}(h:k < N):(snC (snt ts N))[0+(Int.toNat (k:Int)) * 2+0]? = some (.u64 (UInt64.ofNat k))∧(snC (snt ts N))[0+(Int.toNat (k:Int)) * 2+1]? = some (.str (ciph k (ts.getD k []))):=by
 have:=snC_at (snt_at (ts:=ts) h)
 rw [Int.toNat_natCast,Nat.zero_add]
 exact this
structure K4 (v:RowV) (ts:List (List UInt8)) (now rc ct rk lf:UInt64) (sz:Int) (N m p:Nat) (ta tb:Tn) (L:List UInt64) (H:HL) (fr:Nat):Prop where
 j:JB v ts rc ct rk lf sz ta tb H
 b:BI now ct lf sz N tb L
 hm:aget H m=some (.cells false (snC (snt ts N)))
 hp:aget H p=some (.cells false (opC L N))
 m1:254≤m
 p1:254≤p
 mp:m ≠ p
 m2:m < fr
 p2:p < fr
 le:362≤fr
section
variable {ts:List (List UInt8)}{now rc ct rk lf:UInt64}{sz s0 i0:Int}
def st4 (v:RowV) (ts:List (List UInt8)) (now rc ct rk lf:UInt64) (sz s0 i0:Int) (i N m p j:Nat) (H:HL) (fr:Nat):SA:=⟨TO (cvA v) ts.length now rc ct rk lf sz s0 i0 i N m p j,H,fr⟩
theorem pairs4 (v:RowV) (n i N m p fr:Nat) (j k:Int) (E:TL):pairsT fr 0 (TO (cvA v) n now rc ct rk lf sz s0 i0 i N m p j) (TO (cvA v) n now rc ct rk lf sz s0 i0 i N m p k++E)=[]:=by
 have e:pairsT fr 0 (TO (cvA v) n now rc ct rk lf sz s0 i0 i N m p j) (TO (cvA v) n now rc ct rk lf sz s0 i0 i N m p k++E)=cond (Nat.beq m m) (cond (Nat.beq p p) [] [(p,p)]) ((m,m)::cond (Nat.beq p p) [] [(p,p)]):=by
  cases v <;> rfl
 rw [e,Nat.beq_refl,Nat.beq_refl]
 rfl
theorem pairs4_ok (v:RowV) (n i N m p fr:Nat) (j k:Int) (E:TL):∀ q,q ∈ pairsT fr 0 (TO (cvA v) n now rc ct rk lf sz s0 i0 i N m p j) (TO (cvA v) n now rc ct rk lf sz s0 i0 i N m p k++E)→q.2 ≠ 178:=by
 intro q hq
 rw [pairs4] at hq
 cases hq
theorem round4 (hm:mayD rc ct rk lf sz=true){l:List UInt8}{ta tb:Tn}{L:List UInt64}{i N m p a:Nat}(ha:a < l.length) (hl:l.length≤200) (hN0:0 < N) (hN:N≤ct.toNat) (hN2:N≤ts.length) (hN3:ts.length≤512) (hx:∀ x,x ∈ ts→x.length≤65536){H:HL}{fr:Nat}(h:K4 (.row l) ts now rc ct rk lf sz N m p ta tb L H fr){h0:HL}{fr0:Nat}(hf0:362≤fr0) :
  ∃ tb2 L2 H2 fr2,roundA (evC Try.prog csL Try.f4.ntmps (mask 4) 1000 2 K17) (headA Try.prog 2 (st4 (.row l) ts now rc ct rk lf sz s0 i0 i N m p 0 h0 fr0)) (st4 (.row l) ts now rc ct rk lf sz s0 i0 i N m p a H fr)=some (st4 (.row l) ts now rc ct rk lf sz s0 i0 i N m p (a+1) H2 fr2)∧K4 (.row l) ts now rc ct rk lf sz N m p ta tb2 L2 H2 fr2:=by
 obtain ⟨f0,rfl⟩:∃ f0,fr=f0+362:=⟨fr - 362,by have:=h.le; omega⟩
 have hmf:=h.m2
 have hpf:=h.p2
 have hm1:=h.m1
 have hp1:=h.p1
 obtain ⟨k,hk⟩:∃ k,k=(l.getD a 0).toNat % N:=⟨_,rfl⟩
 have hkN:k < N:=by rw [hk]; exact Nat.mod_lt _ hN0
 have hkt:k < ts.length:=by omega
 have hxk:(ts.getD k []).length≤65536:=by
  rw [List.getD_eq_getElem?_getD,List.getElem?_eq_getElem hkt]
  exact hx _ (List.getElem_mem hkt)
 have hei:eqS (.int .i64 (IntKind.wrap .i64 ((a:Int)+1))) (.int .i64 ((a+1:Nat):Int))=true:=eqI2 ha (by omega)
 have hmod:eqS (.int .i64 (Int.tmod (((l.getD a 0).toNat:Nat):Int) (N:Int))) (.int .i64 (k:Int))=true:=by rw [hk]; exact tmod_nat _ _
 have hN0':(!((N:Int) == 0))=true:=by
  rw [Bool.not_eq_true',beq_eq_false_iff_ne]
  omega
 have ld1:∀ b,ld 1 (0+(Int.toNat (a:Int)) * 1) (.u8 (l.getD a 0)) b H=true:=fun b=>ld_of (h.j.co l rfl) (row_u8 ha)
 obtain ⟨c1,c2⟩:=snC_ld (ts:=ts) hkN
 have ldm1:∀ b,ld m (0+(Int.toNat (k:Int)) * 2+1) (.str (ciph k (ts.getD k []))) b H=true:=fun b=>ld_of h.hm c2
 have ldm0:∀ b,ld m (0+(Int.toNat (k:Int)) * 2+0) (.u64 (UInt64.ofNat k)) b H=true:=fun b=>ld_of h.hm c1
 have see:∀ b,seeB m ((f0+362+32)+72) b=true:=fun b=>seeB_of (by omega)
 have hsl:=ciph_len k hxk
 have ha2:=inI ha
 have ha3:=ltI ha
 have hkk:=inI hkN
 have hop:∀ (L:List UInt64),(opC L N)[0+(Int.toNat (k:Int)) * 1]? = some (.int .i64 (cnt L k)):=fun L=>by rw [off_k]; exact opC_at L hkN
 rcases openB hm h.b hkN hN hxk with ⟨q1,q2,q3⟩ | ⟨e,q0,q1,q2,q3⟩
 ·-- it opens
  obtain ⟨H1,a1,a2,a3⟩:=meth_at h.j.b (val:=fun _ s=>openV now (UInt64.ofNat k) (ciph k (ts.getD k [])) s) (next:=openN now (UInt64.ofNat k) (ciph k (ts.getD k []))) (ok:=fun s=>okW s.w) h.b.okw q2 rfl (base:=((f0+362+32)+72)+96) (by omega)
  have hJ1:=h.j.setB a2 a3
  have hp1':aget H1 p=some (.cells false (opC L N)):=(a3 p (by omega)).trans h.hp
  have hm1':aget H1 m=some (.cells false (snC (snt ts N))):=(a3 m (by omega)).trans h.hm
  have hw:=fun base=>write_of (base:=base) (x:=AVal.int .i64 1) hp1' (k:=k) (by rw [opC_len]; exact hkN)
  rw [opC_set hkN (by omega)] at hw
  obtain ⟨H2,hH2⟩:∃ H2,H2=aset H1 p (.cells false (opC (L++[UInt64.ofNat k]) N)):=⟨_,rfl⟩
  rw [← hH2] at hw
  have hp2:aget H2 p=some (.cells false (opC (L++[UInt64.ofNat k]) N)):=by rw [hH2,aget_aset,if_pos rfl]
  have hm2:aget H2 m=some (.cells false (snC (snt ts N))):=by
   rw [hH2,aget_aset,if_neg (fun e=>h.mp e.symm)]; exact hm1'
  have hJ2:=hJ1.keep (H':=H2) fun n hn=>by rw [hH2,aget_aset,if_neg (by omega)]
  have c0:cnt L k=0:=by unfold cnt; rw [q1]; rfl
  have c1':cnt (L++[UInt64.ofNat k]) k=1:=by unfold cnt; simp
  have ldp2:∀ b,ld p (0+(Int.toNat (k:Int)) * 1) (.int .i64 1) b H2=true:=fun b=>ld_of hp2 (by rw [hop,c1'])
  have ldp1:∀ b,ld p (0+(Int.toNat (k:Int)) * 1) (.int .i64 0) b H1=true:=fun b=>ld_of hp1' (by rw [hop,c0])
  have r:=w5s ts.length now rc ct rk lf sz s0 i0 (encL H1) (encL H2) i (a+1) f0 m p l.length N a k (ts.getD k []) (ciph k (ts.getD k [])) H (UInt64.ofNat k) (l.getD a 0)
  rw [heapL_encL,heapL_encL] at r
  have e:=(evT_ok psY_ok _ _ _ _ _ _ r (allT_c hei (allT_c (ldp2 _) (allT_c hkk (allT_c (ldp2 _) (allT_c hkk (allT_c (by simp) (allT_c (ld_of hJ2.tx (txt_at hkt)) (allT_c (inI hkt) (allT_c (mOb_of (hw _)) (allT_c hkk (allT_c (ldp1 _) (allT_c hkk (allT_c rfl (allT_c (mOb_of a1) (allT_c hsl (allT_c (ldm1 _) (allT_c (see _) (allT_c hkk (allT_c (ldm0 _) (allT_c (see _) (allT_c hkk (allT_c hmod (allT_c hN0' (allT_c (ld1 _) (allT_c ha2 (allT_c ha3 rfl))))))))))))))))))))))))))).1
  refine ⟨openN now (UInt64.ofNat k) (ciph k (ts.getD k [])) tb,L++[UInt64.ofNat k],H2,_,round_stuck e hJ2.a (show 178 < fr0 by omega) (pairs4_ok (.row l) ts.length i N m p fr0 _ _ _) rfl,?_⟩
  refine ⟨hJ2,q3,hm2,hp2,hm1,hp1,h.mp,?_,?_,?_⟩ <;> simp only <;> omega
 ·obtain ⟨H1,a1,a2,a3⟩:=meth_at h.j.b (val:=fun _ s=>openV now (UInt64.ofNat k) (ciph k (ts.getD k [])) s) (next:=openN now (UInt64.ofNat k) (ciph k (ts.getD k []))) (ok:=fun s=>okW s.w) h.b.okw q1 q2 (base:=((f0+362+32)+72)+96) (by omega)
  have hJ1:=h.j.setB a2 a3
  have hp1':aget H1 p=some (.cells false (opC L N)):=(a3 p (by omega)).trans h.hp
  have hm1':aget H1 m=some (.cells false (snC (snt ts N))):=(a3 m (by omega)).trans h.hm
  have he:(!(e == 0))=true:=by
   rw [Bool.not_eq_true',beq_eq_false_iff_ne]; exact q0
  cases hc:L.contains (UInt64.ofNat k) with
  | true =>
   have c0:cnt L k=1:=by unfold cnt; rw [hc]; rfl
   have ldp1:∀ b,ld p (0+(Int.toNat (k:Int)) * 1) (.int .i64 1) b H1=true:=fun b=>ld_of hp1' (by rw [hop,c0])
   have r:=w5f ts.length now rc ct rk lf sz s0 i0 (encL H1) i (a+1) f0 m p l.length N a k (ciph k (ts.getD k [])) H (UInt64.ofNat k) (l.getD a 0) e
   rw [heapL_encL] at r
   have e:=(evT_ok psY_ok _ _ _ _ _ _ r (allT_c hei (allT_c (ldp1 _) (allT_c hkk (allT_c (ldp1 _) (allT_c hkk (allT_c he (allT_c (mOb_of a1) (allT_c hsl (allT_c (ldm1 _) (allT_c (see _) (allT_c hkk (allT_c (ldm0 _) (allT_c (see _) (allT_c hkk (allT_c hmod (allT_c hN0' (allT_c (ld1 _) (allT_c ha2 (allT_c ha3 rfl)))))))))))))))))))).1
   refine ⟨tb,L,H1,_,round_stuck e hJ1.a (show 178 < fr0 by omega) (pairs4_ok (.row l) ts.length i N m p fr0 _ _ _) rfl,?_⟩
   refine ⟨hJ1,h.b,hm1',hp1',hm1,hp1,h.mp,?_,?_,?_⟩ <;> simp only <;> omega
  | false =>
   have hsz:sz < N:=by
    rcases q3 with q3 | q3
    ·rw [hc] at q3; cases q3
    ·exact q3
   have c0:cnt L k=0:=by unfold cnt; rw [hc]; rfl
   have ldp1:∀ b,ld p (0+(Int.toNat (k:Int)) * 1) (.int .i64 0) b H1=true:=fun b=>ld_of hp1' (by rw [hop,c0])
   have hsz':(!decide ((N:Int)≤sz))=true:=by
    rw [Bool.not_eq_true']
    exact decide_eq_false (by omega)
   have r:=w5g ts.length now rc ct rk lf sz s0 i0 (encL H1) i (a+1) f0 m p l.length N a k (ciph k (ts.getD k [])) H (UInt64.ofNat k) (l.getD a 0) e
   rw [heapL_encL] at r
   have e:=(evT_ok psY_ok _ _ _ _ _ _ r (allT_c hei (allT_c hsz' (allT_c (ld_of hJ1.lm rfl) (allT_c (ldp1 _) (allT_c hkk (allT_c (ldp1 _) (allT_c hkk (allT_c he (allT_c (mOb_of a1) (allT_c hsl (allT_c (ldm1 _) (allT_c (see _) (allT_c hkk (allT_c (ldm0 _) (allT_c (see _) (allT_c hkk (allT_c hmod (allT_c hN0' (allT_c (ld1 _) (allT_c ha2 (allT_c ha3 rfl)))))))))))))))))))))).1
   refine ⟨tb,L,H1,_,round_stuck e hJ1.a (show 178 < fr0 by omega) (pairs4_ok (.row l) ts.length i N m p fr0 _ _ _) rfl,?_⟩
   refine ⟨hJ1,h.b,hm1',hp1',hm1,hp1,h.mp,?_,?_,?_⟩ <;> simp only <;> omega
end
end Go.Proofs.Ytjdhndicgifnbaa.Tun
namespace Go.Proofs.Ytjdhndicgifnbaa.Tun
open Go Go.Eng Go.Proofs.Ytjdhndicgifnbaa Go.Proofs.Ytjdhndicgifnbaa.Pol
def toS (x:List UInt8):Stp:=⟨0,0,x,0,0,0⟩
def accT (ts:List (List UInt8)):Nat→Int:=acc (ts.map toS)
theorem accT_succ (ts:List (List UInt8)) (i:Nat):accT ts (i+1)=IntKind.wrap .i64 (IntKind.wrap .i64 (accT ts i+8)+((ts.getD i []).length:Int)):=by
 have e:((ts.map toS).getD i ⟨0,0,[],0,0,0⟩).s=ts.getD i []:=by
  rw [List.getD_eq_getElem?_getD,List.getD_eq_getElem?_getD,List.getElem?_map]
  cases ts[i]? <;> rfl
 show IntKind.wrap .i64 (IntKind.wrap .i64 (acc (ts.map toS) i+8)+(((ts.map toS).getD i ⟨0,0,[],0,0,0⟩).s.length:Int))=_
 rw [e]
 rfl
theorem accT_step {ts:List (List UInt8)}(hx:∀ x,x ∈ ts→x.length≤4611686018427387904){i:Nat}(h0:0≤accT ts i) (h1:accT ts i≤4096):accT ts (i+1)=accT ts i+8+((ts.getD i []).length:Int):=by
 have hl:(ts.getD i []).length≤4611686018427387904:=by
  rw [List.getD_eq_getElem?_getD]
  by_cases h:i < ts.length
  ·rw [List.getElem?_eq_getElem h]; exact hx _ (List.getElem_mem h)
  ·rw [List.getElem?_eq_none (by omega)]; simp
 rw [accT_succ,wrapI (accT ts i+8) (by omega) (by omega),wrapI _ (by omega) (by omega)]
theorem accT_ge {ts:List (List UInt8)}(hx:∀ x,x ∈ ts→x.length≤4611686018427387904){N:Nat}(h:∀ i,i < N→accT ts i≤4096):∀ i,i≤N→8 * (i:Int)≤accT ts i:=by
 intro i
 induction i with
 | zero=>intro _; exact Int.le_refl 0
 | succ i ih =>
  intro hi
  have:=ih (by omega)
  have e:=accT_step hx (by omega) (h i (by omega))
  omega
theorem accT_end (ts:List (List UInt8)):∃ N,N≤ts.length∧(∀ i,i < N→accT ts i≤4096)∧(N=ts.length ∨ 4096 < accT ts N):=by
 have:=acc_end (ts.map toS)
 rw [List.length_map] at this
 exact this
theorem ltL_strs (m:Nat) (ts:List (List UInt8)):ltL m (ts.map .str)=true:=by
 induction ts with
 | nil=>rfl
 | cons a l ih=>exact ih
theorem ltL_u8 (m:Nat) (l:List UInt8):ltL m (l.map .u8)=true:=by
 induction l with
 | nil=>rfl
 | cons a l ih=>exact ih
section
variable {v:RowV}{ts:List (List UInt8)}{now rc ct rk lf:UInt64}{sz:Int}
theorem okQ (s:Int) (i:Nat):okS Try.prog (SQ v ts now rc ct rk lf sz s i)=true:=by
 have h:Nat.ble Try.prog.globals.size 34=true:=by kernel_rfl
 have e1:=ltL_strs 34 ts
 cases v with
 | row l =>
  have e2:=ltL_u8 34 l
  have h2:ltH 34 (hR1 (.row l) ts rc ct rk lf sz)=true:=by
   simp only [hR1,hR0,cH,hL1,List.cons_append,List.nil_append,ltH,e1,e2]
   rfl
  unfold okS SQ
  simp only [h,h2]
  rfl
 | nil =>
  have h2:ltH 34 (hR1 .nil ts rc ct rk lf sz)=true:=by
   simp only [hR1,hR0,cH,hL1,List.cons_append,List.nil_append,ltH,e1]
   rfl
  unfold okS SQ
  simp only [h,h2]
  rfl
 | emp =>
  have h2:ltH 34 (hR1 .emp ts rc ct rk lf sz)=true:=by
   simp only [hR1,hR0,cH,hL1,List.cons_append,List.nil_append,ltH,e1]
   rfl
  unfold okS SQ
  simp only [h,h2]
  rfl
theorem ob_R2:mOb (newE obT 4 [0,1,2,3] winV (newT keyA keyB true now rc ct rk lf sz)) 178 (hR1 v ts rc ct rk lf sz) (.tup [.ptr 178 0,.int .i64 0]) (hR2 v ts now rc ct rk lf sz)=true:=mOb_of (by rw [newE_app (O2:=obT) (by decide)]; cases v <;> rfl)
theorem ob_R3:mOb (newE obT 4 [0,1,2,3] winV (newT keyB keyA false now rc ct rk lf sz)) 250 (hR2 v ts now rc ct rk lf sz) (.tup [.ptr 250 0,.int .i64 0]) (hR3 v ts now rc ct rk lf sz)=true:=mOb_of (by rw [newE_app (O2:=obT) (by decide)]; cases v <;> rfl)
theorem ob_E2:mOb (newE obT 4 [0,1,2,3] winV (newT keyA keyB true now rc ct rk lf sz)) 178 (hE1 v rc ct rk lf sz) (.tup [.ptr 178 0,.int .i64 0]) (hE2 v now rc ct rk lf sz)=true:=mOb_of (by rw [newE_app (O2:=obT) (by decide)]; cases v <;> rfl)
theorem ob_E3:mOb (newE obT 4 [0,1,2,3] winV (newT keyB keyA false now rc ct rk lf sz)) 250 (hE2 v now rc ct rk lf sz) (.tup [.ptr 250 0,.int .i64 0]) (hE3 v now rc ct rk lf sz)=true:=mOb_of (by rw [newE_app (O2:=obT) (by decide)]; cases v <;> rfl)
theorem run4e (b:Bool):∃ nn F,(run1 Try.prog csL nn F 4 [limA rc ct rk lf sz,tvA b,cvA v,.u64 now] (cH v) 2).map (·.1)=some (.bool true):=by
 refine ⟨mask 4,200,?_⟩
 cases hc:decide ((200:Int) < ((cL v).length:Int)) with
 | true=>exact ansO_run psX_ok (w4e1 v now rc ct rk lf sz b) (allT_c hc rfl)
 | false =>
  have hc':(!decide ((200:Int) < ((cL v).length:Int)))=true:=by rw [hc]; rfl
  cases hm:mayD rc ct rk lf sz with
  | false=>exact ansO_run psX_ok (w4e2 v now rc ct rk lf sz b) (allT_c (by rw [newG_BA,hm]; rfl) (allT_c (by rw [newG_AB,hm]; rfl) (allT_c hc' rfl)))
  | true=>exact ansO_run psY_ok (w4e3 v now rc ct rk lf sz b) (allT_c ob_E3 (allT_c (by rw [newG_BA,hm]) (allT_c ob_E2 (allT_c (by rw [newG_AB,hm]) (allT_c hc' rfl)))))
end
end Go.Proofs.Ytjdhndicgifnbaa.Tun
namespace Go.Proofs.Ytjdhndicgifnbaa.Tun
open Go Go.Eng Go.Proofs.Ytjdhndicgifnbaa Go.Proofs.Ytjdhndicgifnbaa.Pol
section
variable {v:RowV}{ts:List (List UInt8)}{now rc ct rk lf:UInt64}{sz:Int}
theorem end4 {s0 i0:Int}{i N m p j:Nat}{ta tb:Tn}{L:List UInt64}{H:HL}{fr:Nat}(hN0:0 < N) (hx:∀ x,x ∈ ts→x.length≤65536) (hts:ts ≠ []) (h:K4 v ts now rc ct rk lf sz N m p ta tb L H fr) :
  finV Try.prog Try.f4 (evS Try.prog csL Try.f4.ntmps (mask 4) 1000 2 ((pieces (bodyOf Try.f4)).drop 18) ⟨TO (cvA v) ts.length now rc ct rk lf sz s0 i0 i N m p j++[(130,.bool false)],H,fr⟩)=some (.bool true):=by
 obtain ⟨f0,rfl⟩:∃ f0,fr=f0+362:=⟨fr - 362,by have:=h.le; omega⟩
 have hmf:=h.m2
 have hm1:=h.m1
 have hx0:(ts.getD 0 []).length≤65536:=by
  rw [List.getD_eq_getElem?_getD]
  cases ts with
  | nil=>exact absurd rfl hts
  | cons a l=>exact hx a (List.mem_cons_self ..)
 obtain ⟨H1,a1,a2,a3⟩:=meth_at h.j.b (val:=fun _ _=>.tup []) (next:=wipeT) (ok:=fun _=>true) rfl rfl rfl (base:=(f0+362)+8) (by omega)
 obtain ⟨o1,o2⟩:=open_gone (now:=now) (UInt64.ofNat 0) (ciph 0 (ts.getD 0 [])) tb
 have hw:okW (wipeT tb).w=true:=h.b.okw
 obtain ⟨H2,b1,b2,b3⟩:=meth_at a2 (val:=fun _ s=>openV now (UInt64.ofNat 0) (ciph 0 (ts.getD 0 [])) s) (next:=openN now (UInt64.ofNat 0) (ciph 0 (ts.getD 0 []))) (ok:=fun s=>okW s.w) hw o1 o2 (base:=((f0+362)+16)+80) (by omega)
 obtain ⟨s1,s2⟩:=seal_gone (now:=now) [120] tb
 obtain ⟨H3,c1,c2,c3⟩:=meth_at b2 (val:=fun _ s=>sealV now [120] s) (next:=sealN now [120]) (ok:=fun _=>true) rfl s1 s2 (base:=((((f0+362)+16)+128)+8)+8) (by omega)
 have hm1':aget H1 m=some (.cells false (snC (snt ts N))):=(a3 m (by omega)).trans h.hm
 obtain ⟨d1,d2⟩:=snC_ld (ts:=ts) hN0
 have hz:(decide ((0:Int)≤0) && decide ((0:Int) < (N:Int)))=true:=by simp; omega
 have r:=w5e (cvA v) ts.length now rc ct rk lf sz s0 i0 (encL H1) (encL H2) (encL H3) i f0 m p N j (ciph 0 (ts.getD 0 [])) H (UInt64.ofNat 0)
 rw [heapL_encL,heapL_encL,heapL_encL] at r
 exact ansF_ok psY_ok r (allT_c (mOb_of c1) (allT_c (mOb_of b1) (allT_c (ciph_len 0 hx0) (allT_c (ld_of hm1' d2) (allT_c (seeB_of (by omega)) (allT_c hz (allT_c (ld_of hm1' d1) (allT_c (seeB_of (by omega)) (allT_c hz (allT_c (mOb_of a1) rfl))))))))))
theorem open4 (hm:mayD rc ct rk lf sz=true){s0 i0:Int}{i N m p:Nat}{ta tb:Tn}{L:List UInt64}{H:HL}{fr:Nat}(hl:(cL v).length≤200) (hN0:0 < N) (hN:N≤ct.toNat) (hN2:N≤ts.length) (hN3:ts.length≤512) (hx:∀ x,x ∈ ts→x.length≤65536) (hts:ts ≠ []) (h:K4 v ts now rc ct rk lf sz N m p ta tb L H fr) :
  finV Try.prog Try.f4 (evS Try.prog csL Try.f4.ntmps (mask 4) 1000 2 ((pieces (bodyOf Try.f4)).drop 17) (st4 v ts now rc ct rk lf sz s0 i0 i N m p 0 H fr))=some (.bool true):=by
 have h0:=h.le
 have stop:∀ {j:Nat} {tb:Tn} {L:List UInt64} {H2:HL} {fr2:Nat},K4 v ts now rc ct rk lf sz N m p ta tb L H2 fr2→evS Try.prog csL Try.f4.ntmps (mask 4) 1000 2 ((pieces (bodyOf Try.f4)).drop 17) (st4 v ts now rc ct rk lf sz s0 i0 i N m p 0 H fr)=evS Try.prog csL Try.f4.ntmps (mask 4) 1000 2 ((pieces (bodyOf Try.f4)).drop 18) ⟨TO (cvA v) ts.length now rc ct rk lf sz s0 i0 i N m p j++[(130,.bool false)],H2,fr2+32⟩→finV Try.prog Try.f4 (evS Try.prog csL Try.f4.ntmps (mask 4) 1000 2 ((pieces (bodyOf Try.f4)).drop 17) (st4 v ts now rc ct rk lf sz s0 i0 i N m p 0 H fr))=some (.bool true):=fun hk e=>by
  rw [e]
  exact end4 hN0 hx hts ⟨hk.j,hk.b,hk.hm,hk.hp,hk.m1,hk.p1,hk.mp,by have:=hk.m2; omega,by have:=hk.p2; omega,by have:=hk.le; omega⟩
 obtain ⟨f0,rfl⟩:∃ f0,fr=f0+362:=⟨fr - 362,by omega⟩
 cases v with
 | nil =>
  have e:=(evT_ok psY_ok _ _ _ _ _ _ (w5x0 ts.length now rc ct rk lf sz s0 i0 i f0 m p N H) rfl).1
  exact stop (j:=0) h (evS_loop p4_17 (fun _=>st4 .nil ts now rc ct rk lf sz s0 i0 i N m p 0 H (f0+362)) 0 (fun k hk=>by omega) e (by omega))
 | emp =>
  have e:=(evT_ok psY_ok _ _ _ _ _ _ (w5x ts.length now rc ct rk lf sz s0 i0 i f0 m p 0 N 0 H) (allT_c (by simp) rfl)).1
  exact stop (j:=0) h (evS_loop p4_17 (fun _=>st4 .emp ts now rc ct rk lf sz s0 i0 i N m p 0 H (f0+362)) 0 (fun k hk=>by omega) e (by omega))
 | row l =>
  have hl':l.length≤200:=hl
  obtain ⟨I,e0,⟨tb2,L2,H2,fr2,hI,hK⟩,hst⟩:=iter_inv (P:=Try.prog) (cs:=csL) (nt:=Try.f4.ntmps) (nn:=mask 4) (F:=1000) (bs:=2) (b:=K17) (st4 (.row l) ts now rc ct rk lf sz s0 i0 i N m p 0 H (f0+362)) (fun j s => ∃ tb2 L2 H2 fr2,s=st4 (.row l) ts now rc ct rk lf sz s0 i0 i N m p j H2 fr2∧K4 (.row l) ts now rc ct rk lf sz N m p ta tb2 L2 H2 fr2) l.length ⟨tb,L,H,_,rfl,h⟩ fun j s hj ⟨tb2,L2,H2,fr2,hs,hK⟩=>by
   subst hs
   obtain ⟨tb3,L3,H3,fr3,a,b⟩:=round4 (s0:=s0) (i0:=i0) (i:=i) hm hj hl' hN0 hN hN2 hN3 hx hK (h0:=H) (fr0:=f0+362) (by omega)
   exact ⟨_,a,tb3,L3,H3,fr3,rfl,b⟩
  obtain ⟨f2,rfl⟩:∃ f2,fr2=f2+362:=⟨fr2 - 362,by have:=hK.le; omega⟩
  have e:=(evT_ok psY_ok _ _ _ _ _ _ (w5x ts.length now rc ct rk lf sz s0 i0 i f2 m p l.length N l.length H2) (allT_c (by simp) rfl)).1
  have e2:=evS_loop p4_17 I l.length hst (by rw [hI]; exact e) (by omega)
  rw [e0] at e2
  exact stop hK e2
theorem seal4 (hm:mayD rc ct rk lf sz=true){s0 i0:Int}(hl:(cL v).length≤200) (hN3:ts.length≤512) (hx:∀ x,x ∈ ts→x.length≤65536) (hts:ts ≠ []) :
  finV Try.prog Try.f4 (evS Try.prog csL Try.f4.ntmps (mask 4) 1000 2 ((pieces (bodyOf Try.f4)).drop 12) (st2 v ts now rc ct rk lf sz s0 i0 .nilSlice 0 (hR3 v ts now rc ct rk lf sz) 362))=some (.bool true):=by
 obtain ⟨p1,p2,_⟩:=may_parts hm
 have hlen:0 < ts.length:=List.length_pos_iff.2 hts
 obtain ⟨I,e0,⟨sv,H,fr,hI,hfr,hJ,hS⟩,hst⟩:=iter_inv (P:=Try.prog) (cs:=csL) (nt:=Try.f4.ntmps) (nn:=mask 4) (F:=1000) (bs:=2) (b:=K12) (st2 v ts now rc ct rk lf sz s0 i0 .nilSlice 0 (hR3 v ts now rc ct rk lf sz) 362) (J2 v ts now rc ct rk lf sz s0 i0 (newT keyB keyA false now rc ct rk lf sz)) ts.length ⟨.nilSlice,_,362,rfl,Nat.le_refl _,by rw [Nat.zero_min]; exact JB_new v ts now rc ct rk lf sz,.inl ⟨Nat.zero_min _,rfl⟩⟩ fun i s hi hs=>by
  have hxi:(ts.getD i []).length≤65536:=by
   rw [List.getD_eq_getElem?_getD,List.getElem?_eq_getElem hi]
   exact hx _ (List.getElem_mem hi)
  exact round2 hm hi hN3 hxi hs _
 obtain ⟨N,hN⟩:∃ N,N=min ts.length ct.toNat:=⟨_,rfl⟩
 rw [← hN] at hJ hS
 obtain ⟨f0,rfl⟩:∃ f0,fr=f0+362:=⟨fr - 362,by omega⟩
 rcases hS with ⟨q0,_⟩ | ⟨q0,m,g1,g2,rfl,g3⟩
 ·omega
 have e:=(evT_ok psY_ok _ _ _ _ _ _ (w4x (cvA v) (.slice m 0 N 2) ts.length now rc ct rk lf sz s0 i0 ts.length f0 H) (allT_c (by simp) rfl)).1
 have e2:=evS_loop p4_12 I ts.length hst (by rw [hI]; exact e) (by omega)
 rw [e0] at e2
 rw [e2]
 -- the row of what was opened
 have ez:(⟨TS (cvA v) ts.length now rc ct rk lf sz s0 i0 (.slice m 0 N 2) ts.length++[(80,.bool false)],H,f0+362+32⟩:SA)=⟨TS (cvA v) ts.length now rc ct rk lf sz s0 i0 (.slice m 0 N 2) ts.length++[(80,.bool false)],H,(f0+32)+362⟩:=by congr 1
 rw [ez]
 obtain ⟨p,hp⟩:∃ p,p=(((f0+32+362)+24)+8)+8:=⟨_,rfl⟩
 obtain ⟨H2,hH2⟩:∃ H2,H2=aset H p (.cells false (opC [] N)):=⟨_,rfl⟩
 have ea:(sliceRowA (zrow (cellsA (.int .i64 0)) ((Int.toNat (N:Int)) * 1)) (Int.toNat (N:Int)) 1).app p H=some (.slice p 0 N 1,H2):=by
  rw [hH2,opC_nil,Int.toNat_natCast,Nat.mul_one]
  rfl
 have hcap:(((decide (0≤(N:Int)) && decide ((N:Int)≤(N:Int))) && decide (((8:Nat):Int) * (N:Int)≤281474976710656)) && decide ((N:Int)≤281474976710656))=true:=by
  simp only [Bool.and_eq_true,decide_eq_true_eq]
  refine ⟨⟨⟨by omega,by omega⟩,by omega⟩,by omega⟩
 have hne:(!((N:Int) == 0))=true:=by
  rw [Bool.not_eq_true',beq_eq_false_iff_ne]
  omega
 have r:=w4m (cvA v) ts.length now rc ct rk lf sz s0 i0 (encL H2) ts.length (f0+32) m p N H
 rw [heapL_encL] at r
 have e3:=segO_ok psY_ok (m:=4) r (allT_c (mOb_of (by rw [← hp]; exact ea)) (allT_c hcap (allT_c hne rfl)))
 rw [e3]
 refine open4 (ta:=tAk now rc ct rk lf sz (UInt64.ofNat N)) (tb:=newT keyB keyA false now rc ct rk lf sz) (L:=[]) hm hl q0 (by omega) (by omega) hN3 hx hts ⟨hJ.keep fun n hn => ?_,BI_new hm N,?_,?_,g1,by omega,by omega,?_,?_,?_⟩
 ·rw [hH2,aget_aset,if_neg (by omega)]
 ·rw [hH2,aget_aset,if_neg (by omega)]; exact g3
 ·rw [hH2,aget_aset,if_pos rfl]
 ·omega
 ·omega
 ·omega
theorem run4f (hts:ts ≠ []) (hlen:ts.length≤9223372036854775807) (hx:∀ x,x ∈ ts→x.length≤4611686018427387904):∃ nn F,(run1 Try.prog csL nn F 4 [limA rc ct rk lf sz,.slice 0 0 ts.length 1,cvA v,.u64 now] (hR0 v ts) 2).map (·.1)=some (.bool true):=by
 refine ⟨mask 4,1000,?_⟩
 rw [run1_val (fn:=Try.f4) (c:=bodyOf Try.f4) (by kernel_rfl) (by kernel_rfl) (by kernel_rfl)]
 obtain ⟨N1,h1,h2,h3⟩:=accT_end ts
 have hge:=accT_ge hx h2
 have hN1:N1≤513:=by
  rcases Nat.eq_zero_or_pos N1 with e | e
  ·omega
  ·have a:=hge (N1 - 1) (by omega)
   have b:=h2 (N1 - 1) (by omega)
   omega
 have e0:=segO_pre psY_ok (w4p v ts now rc ct rk lf sz 1000) rfl
 have ep:pieces (bodyOf Try.f4)=(pieces (bodyOf Try.f4)).take 3++(pieces (bodyOf Try.f4)).drop 3:=(List.take_append_drop 3 _).symm
 have step:∀ i,i < N1→roundA (evC Try.prog csL Try.f4.ntmps (mask 4) 1000 2 K3) (headA Try.prog 2 (SQ v ts now rc ct rk lf sz (accT ts 0) 0)) (SQ v ts now rc ct rk lf sz (accT ts i) i)=some (SQ v ts now rc ct rk lf sz (accT ts (i+1)) (i+1)):=fun i hi=>by
  have hil:i < ts.length:=by omega
  have r:=w4r v ts now rc ct rk lf sz (accT ts i) i (i+1) 1000 (ts.getD i []) (accT ts (i+1))
  exact roundO2_ok psY_ok r (allT_c (eqI2 hil hlen) (allT_c (by rw [accT_succ]; simp [eqS]) (allT_c (isAt_of (txt_at hil) (by simp [eqS])) (allT_c (inI hil) (allT_c (decide_eq_true (h2 i hi)) (allT_c (ltI hil) rfl)))))) (okQ _ _)
 have e1:evC Try.prog csL Try.f4.ntmps (mask 4) 1000 2 K3 (SQ v ts now rc ct rk lf sz (accT ts N1) N1)=some (.exit 0,⟨TQ v ts now rc ct rk lf sz (accT ts N1) N1++[(37,.bool false)],hR1 v ts rc ct rk lf sz,98⟩):=by
  by_cases e:N1=ts.length
  ·exact (evT_ok psY_ok _ _ _ _ _ _ (w4x1 v ts now rc ct rk lf sz (accT ts N1) N1 1000) (allT_c (by rw [e]; simp) rfl)).1
  ·have h4:4096 < accT ts N1:=h3.resolve_left e
   refine (evT_ok psY_ok _ _ _ _ _ _ (w4x2 v ts now rc ct rk lf sz (accT ts N1) N1 1000) (allT_c ?_ (allT_c (ltI (by omega)) rfl))).1
   rw [Bool.not_eq_true']
   exact decide_eq_false (by omega)
 have e2:=evS_loop p4_3 (fun i=>SQ v ts now rc ct rk lf sz (accT ts i) i) N1 step e1 (by omega)
 rw [ep,evS_append e0]
 show finV Try.prog Try.f4 (evS Try.prog csL Try.f4.ntmps (mask 4) 1000 2 ((pieces (bodyOf Try.f4)).drop 3) (SQ v ts now rc ct rk lf sz (accT ts 0) 0))=_
 rw [e2]
 cases hs:decide (4096 < accT ts N1) with
 | true=>exact ansF_ok psX_ok (w4g1 v ts now rc ct rk lf sz (accT ts N1) N1 1000) (allT_c hs rfl)
 | false =>
  have hs':(!decide (4096 < accT ts N1))=true:=by rw [hs]; rfl
  have hs2:=of_decide_eq_false hs
  have hN:N1=ts.length:=by
   rcases h3 with h3 | h3
   ·exact h3
   ·exact absurd h3 hs2
  cases hc:decide ((200:Int) < ((cL v).length:Int)) with
  | true=>exact ansF_ok psX_ok (w4g2 v ts now rc ct rk lf sz (accT ts N1) N1 1000) (allT_c hc (allT_c hs' rfl))
  | false =>
   have hc':(!decide ((200:Int) < ((cL v).length:Int)))=true:=by rw [hc]; rfl
   have hcl:(cL v).length≤200:=by have:=of_decide_eq_false hc; omega
   cases hm:mayD rc ct rk lf sz with
   | false=>exact ansF_ok psX_ok (w4gX v ts now rc ct rk lf sz (accT ts N1) N1 1000) (allT_c (by rw [newG_BA,hm]; rfl) (allT_c (by rw [newG_AB,hm]; rfl) (allT_c hc' (allT_c hs' rfl))))
   | true =>
    have e3:=segO_ok psY_ok (m:=8) (w4gY v ts now rc ct rk lf sz (accT ts N1) N1) (allT_c ob_R3 (allT_c (by rw [newG_BA,hm]) (allT_c ob_R2 (allT_c (by rw [newG_AB,hm]) (allT_c hc' (allT_c hs' rfl))))))
    rw [e3]
    have hge2:=hge N1 (Nat.le_refl _)
    have hx2:∀ x,x ∈ ts→x.length≤65536:=fun x hxm=>by
     obtain ⟨i,hi⟩:=List.getElem?_of_mem hxm
     have hil:=(List.getElem?_eq_some_iff.1 hi).1
     have h5:=hge i (by omega)
     have h6:=accT_step hx (i:=i) (by omega) (h2 i (by omega))
     have h7:accT ts (i+1)≤4096:=by
      by_cases e:i+1=N1
      ·rw [e]; omega
      ·exact h2 _ (by omega)
     have h8:ts.getD i []=x:=by rw [List.getD_eq_getElem?_getD,hi]; rfl
     rw [h8] at h6
     omega
    exact seal4 hm hcl (by omega) hx2 hts
end
end Go.Proofs.Ytjdhndicgifnbaa.Tun
