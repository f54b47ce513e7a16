/- Texts Tf6, Tf7, Tf8, Tf9, Tg1, Tg2, Tg3, Tg4: what they show that this claim uses. -/
import Derived.Test.YtjdhndicgifnbaaP11
set_option maxRecDepth 100000
set_option maxHeartbeats 1000000
set_option linter.unusedVariables false
set_option linter.unusedSimpArgs false
namespace Go.Proofs.Ytjdhndicgifnbaa.Tun
open Go Go.Eng Go.Proofs.Ytjdhndicgifnbaa
theorem bt_clrL {w:Wn}(h:okW w=true) (n:UInt64):∀ (j p:Nat),bt (clrL n w.sz w.L j) p=(bt w.L p && !decide (∃ i,i < j∧p=((n - UInt64.ofNat i) % w.sz).toNat))
 | 0,p=>by simp [clrL]
 | j+1,p=>by
  unfold clrL
  rw [bt_clr (by rw [clrL_len]; exact pos_lt h _),bt_clrL h n j p,Bool.and_assoc]
  congr 1
  rw [← Bool.not_or]
  congr 1
  rw [Bool.eq_iff_iff]
  simp only [Bool.or_eq_true,decide_eq_true_eq]
  constructor
  ·rintro (⟨i,h1,h2⟩ | h2)
   ·exact ⟨i,by omega,h2⟩
   ·exact ⟨j,by omega,h2⟩
  ·rintro ⟨i,h1,h2⟩
   by_cases e:i=j
   ·subst e; exact .inr h2
   ·exact .inl ⟨i,by omega,h2⟩
theorem le_nat {a b:UInt64}:a≤b ↔ a.toNat≤b.toNat:=UInt64.le_iff_toNat_le
theorem lt_nat {a b:UInt64}:a < b ↔ a.toNat < b.toNat:=UInt64.lt_iff_toNat_lt
theorem eq_nat {a b:UInt64}:a=b ↔ a.toNat=b.toNat:=⟨fun h=>by rw [h],UInt64.toNat_inj.1⟩
theorem mark_rel {w:Wn}{c:Dc}{L:List UInt64}(h:WRel w c.size L){n:UInt64}(hm:mayR n (c,L)=0):WRel (markW n w) c.size (L++[n]):=by
 have hz:=(okW_parts h.ok).2.1
 have hmw:mayW n w=0:=by rw [may_eq h,hm]
 have e0:(mayW n w != 0)=false:=by rw [hmw]; rfl
 have hok:=okW_mark (n:=n) h.ok
 have hne:L++[n] ≠ []:=by simp
 obtain ⟨W,hW⟩:∃ W,W=markW n w:=⟨_,rfl⟩
 rw [← hW] at hok ⊢
 have key:∀ w2:Wn,W=w2→w2.sz=w.sz→w2.any=true→w2.hi=maxU (L++[n])→(∀ m:UInt64,m≤w2.hi→w2.hi - m < w2.sz→bt w2.L (m % w2.sz).toNat=(L.contains m || decide (m=n)))→WRel W c.size (L++[n]):=fun w2 e a1 a2 a3 a4=>by
  rw [e] at hok ⊢
  refine ⟨hok,by rw [a1,h.sz],by rw [a2]; simp,fun _=>a3,fun _ m h1 h2 => ?_⟩
  rw [bitAt_bt,a4 m h1 h2,contains_app]
 unfold markW at hW
 rw [e0,cond_false] at hW
 have hnotin:∀ m:UInt64,maxU L < m→L.contains m=false:=fun m hlt=>by
  rw [Bool.eq_false_iff]
  intro q
  have:=le_maxU (List.contains_iff_mem.1 q)
  rw [le_nat] at this; rw [lt_nat] at hlt; omega
 -- of the numbers within a window below n only n stands at n's place
 have only:∀ m:UInt64,m≤n→n - m < w.sz→((m % w.sz).toNat=(n % w.sz).toNat ↔ m=n):=fun m h1 h2=>by
  constructor
  ·intro e
   by_cases c:m=n
   ·exact c
   ·have hlt:m < n:=by
     rw [le_nat] at h1
     rw [lt_nat]
     have:m.toNat ≠ n.toNat:=fun q=>c (eq_nat.2 q)
     omega
    exact absurd e (dist_pos hz hlt h2)
  ·intro e; rw [e]
 cases ha:w.any with
 | false =>
  have hL:L=[]:=by
   have:=h.any
   rw [ha] at this
   cases L with
   | nil=>rfl
   | cons a l=>simp at this
  subst hL
  rw [ha,cond_false] at hW
  refine key _ hW rfl rfl ?_ fun m h1 h2 => ?_
  ·rw [maxU_app]
   show n=if (0:UInt64) < n then n else 0
   split
   ·rfl
   ·rename_i c
    have:n.toNat=0:=by rw [lt_nat] at c; have:(0:UInt64).toNat=0:=rfl; omega
    exact eq_nat.2 (this.trans rfl)
  ·rw [bt_set (by rw [zL_len]; exact pos_lt h.ok n),bt_zero,Bool.or_false]
   show _=(false || _)
   rw [Bool.false_or,decide_eq_decide]
   exact only m h1 h2
 | true =>
  have hL:L ≠ []:=by
   have:=h.any
   rw [ha] at this
   cases L with
   | nil=>simp at this
   | cons a l=>simp
  have hh:=h.hi hL
  rw [ha,cond_true] at hW
  by_cases c1:w.hi < n
  ·rw [decide_eq_true c1,cond_true] at hW
   have hmx:maxU (L++[n])=n:=by rw [maxU_app,← hh,if_pos c1]
   by_cases c2:w.sz≤n - w.hi
   ·rw [decide_eq_true c2,cond_true] at hW
    refine key _ hW rfl rfl hmx.symm fun m h1 h2 => ?_
    show bt (setL n w.sz (zL w.L)) (m % w.sz).toNat=_
    have h1:m≤n:=h1
    have h2:n - m < w.sz:=h2
    rw [bt_set (by rw [zL_len]; exact pos_lt h.ok n),bt_zero,Bool.or_false]
    have hni:L.contains m=false:=hnotin m (by
     rw [← hh,lt_nat]
     rw [le_nat,sub_nat (UInt64.le_of_lt c1)] at c2
     rw [lt_nat,sub_nat h1] at h2
     rw [lt_nat] at c1
     rw [le_nat] at h1
     omega)
    rw [hni,Bool.false_or,decide_eq_decide]
    exact only m h1 h2
   ·rw [decide_eq_false c2,cond_false] at hW
    refine key _ hW rfl rfl hmx.symm fun m h1 h2 => ?_
    show bt (setL n w.sz (clrL n w.sz w.L (n - w.hi).toNat)) (m % w.sz).toNat=_
    have h1:m≤n:=h1
    have h2:n - m < w.sz:=h2
    rw [bt_set (by rw [clrL_len]; exact pos_lt h.ok n),bt_clrL h.ok]
    have hN:(n - w.hi).toNat=n.toNat - w.hi.toNat:=sub_nat (UInt64.le_of_lt c1)
    have hsi:∀ i,i < (n - w.hi).toNat→(n - UInt64.ofNat i).toNat=n.toNat - i:=fun i hi=>by
     have hb:=n.toNat_lt
     have e:(UInt64.ofNat i).toNat=i:=by rw [UInt64.toNat_ofNat']; exact Nat.mod_eq_of_lt (by omega)
     rw [sub_nat (by rw [le_nat,e]; omega),e]
    rw [lt_nat,sub_nat h1] at h2
    rw [lt_nat] at c1
    rw [le_nat] at h1
    by_cases e:m=n
    ·subst e; simp
    ·have hne2:¬ (m % w.sz).toNat=(n % w.sz).toNat:=fun q=>e ((only m (le_nat.2 h1) (by rw [lt_nat,sub_nat (le_nat.2 h1)]; exact h2)).1 q)
     have hmn:m.toNat ≠ n.toNat:=fun q=>e (eq_nat.2 q)
     rw [decide_eq_false hne2,decide_eq_false e,Bool.false_or,Bool.or_false]
     by_cases c3:m≤w.hi
     ·-- kept
      have c3':=le_nat.1 c3
      have hex:¬ ∃ i,i < (n - w.hi).toNat∧(m % w.sz).toNat=((n - UInt64.ofNat i) % w.sz).toNat:=by
       rintro ⟨i,hi,hq⟩
       have hi':=hsi i hi
       rw [pos_nat,pos_nat,hi'] at hq
       exact absurd hq (mod_ne hz (by omega) (by omega))
      rw [decide_eq_false hex,Bool.not_false,Bool.and_true,← bitAt_bt,h.bit hL m c3 (by rw [lt_nat,sub_nat c3]; omega)]
     ·have c3':w.hi.toNat < m.toNat:=by rw [le_nat] at c3; omega
      have hex:∃ i,i < (n - w.hi).toNat∧(m % w.sz).toNat=((n - UInt64.ofNat i) % w.sz).toNat:=by
       refine ⟨n.toNat - m.toNat,by omega,?_⟩
       rw [pos_nat,pos_nat,hsi _ (by omega)]
       congr 1
       omega
      rw [decide_eq_true hex,Bool.not_true,Bool.and_false,hnotin m (by rw [← hh,lt_nat]; exact c3')]
  ·rw [decide_eq_false c1,cond_false] at hW
   have hle:n≤w.hi:=UInt64.not_lt.1 c1
   have hmx:maxU (L++[n])=w.hi:=by
    rw [maxU_app,← hh,if_neg c1]
   refine key _ hW rfl rfl hmx.symm fun m h1 h2 => ?_
   show bt (setL n w.sz w.L) (m % w.sz).toNat=_
   have h1:m≤w.hi:=h1
   have h2:w.hi - m < w.sz:=h2
   rw [bt_set (pos_lt h.ok n),Bool.or_comm,← bitAt_bt,h.bit hL m h1 h2]
   congr 1
   rw [decide_eq_decide]
   -- n is within the window,for it may be
   have hn2:w.hi - n < w.sz:=by
    have:=hmw
    unfold mayW at this
    rw [ha,cond_true,decide_eq_false c1,cond_false] at this
    by_cases q:w.sz≤w.hi - n
    ·rw [decide_eq_true q,cond_true] at this; exact absurd this (by decide)
    ·exact UInt64.not_le.1 q
   rw [lt_nat,sub_nat h1] at h2
   rw [lt_nat,sub_nat hle] at hn2
   rw [le_nat] at h1 hle
   constructor
   ·intro q
    rw [pos_nat,pos_nat] at q
    by_cases e:m.toNat=n.toNat
    ·exact eq_nat.2 e
    ·rcases Nat.lt_or_ge m.toNat n.toNat with g | g
     ·exact absurd q (mod_ne hz g (by omega))
     ·exact absurd q.symm (mod_ne hz (show n.toNat < m.toNat by omega) (by omega))
   ·intro q; rw [q]
structure TRel (t:Tn) (c:Dc) (L:List UInt64):Prop where
 first:t.first=c.first
 sure:t.sure=c.sure
 made:t.made=c.made
 rc:t.rc=c.rc
 ct:t.ct=c.ct
 rk:t.rk=c.rk
 lf:t.lf=c.lf
 next:t.next=c.next
 w:WRel t.w c.size L
 gone:c.gone=true→t.send=[]
 keys:c.gone=false→t.send=c.send∧t.recv=c.recv∧t.send.length=32∧t.recv.length=32
theorem over_eq {t:Tn}{c:Dc}{L:List UInt64}(h:TRel t c L) (now:UInt64):overT now t=overD now c:=by
 unfold overT overD
 rw [h.made,h.lf]
 cases hg:c.gone with
 | true=>rw [h.gone hg]; rfl
 | false =>
  obtain ⟨_,_,h3,_⟩:=h.keys hg
  have:(t.send == [])=false:=by
   cases hs:t.send with
   | nil=>rw [hs] at h3; cases h3
   | cons a l=>rfl
  rw [this]
theorem wants_eq {t:Tn}{c:Dc}{L:List UInt64}(h:TRel t c L) (now:UInt64):wantsT now t=wantsD now c:=by
 unfold wantsT wantsD
 rw [over_eq h,h.first,h.rc,h.next,h.rk,h.made]
 cases overD now c <;> cases c.first <;> simp only [cond_true,cond_false]
theorem over_gone {now:UInt64}{c:Dc}(h:c.gone=true):overD now c=true:=by unfold overD; rw [h]; rfl
theorem seal_eq {t:Tn}{c:Dc}{L:List UInt64}(h:TRel t c L) (now:UInt64) (x:List UInt8):sealV now x t=sealDV now x c∧sealG now x t=sealDG now x c∧TRel (sealN now x t) (sealDN now x c) L:=by
 have ho:=over_eq h now
 cases hg:c.gone with
 | true =>
  have hd:=over_gone (now:=now) hg
  have g1:sealG now x t=false:=by unfold sealG; rw [ho,hd]; rfl
  have g2:sealDG now x c=false:=by unfold sealDG; rw [hd]; rfl
  refine ⟨?_,by rw [g1,g2],?_⟩
  ·unfold sealV sealDV sealE sealDE
   rw [g1,g2,ho,hd]; simp only [cond_true,cond_false]
  ·unfold sealN sealDN; rw [g1,g2]; exact h
 | false =>
  obtain ⟨k1,k2,k3,k4⟩:=h.keys hg
  have g:sealG now x t=sealDG now x c:=by unfold sealG sealDG; rw [ho,h.ct,h.next,h.sure,k1]
  refine ⟨?_,g,?_⟩
  ·unfold sealV sealDV sealE sealDE
   rw [g,ho,h.ct,h.next,h.sure,k1]
  ·unfold sealN sealDN
   rw [g]
   cases sealDG now x c with
   | false=>exact h
   | true =>
    refine ⟨h.first,h.sure,h.made,h.rc,h.ct,h.rk,h.lf,?_,h.w,h.gone,h.keys⟩
    show t.next+1=c.next+1
    rw [h.next]
theorem open_eq {t:Tn}{c:Dc}{L:List UInt64}(h:TRel t c L) (now n:UInt64) (x:List UInt8):openV now n x t=openDV now n x (c,L)∧openG now n x t=openDG now n x (c,L)∧TRel (openN now n x t) (openDN now n x (c,L)).1 (openDN now n x (c,L)).2:=by
 have ho:=over_eq h now
 have hm:=may_eq h.w n
 cases hg:c.gone with
 | true =>
  have hd:=over_gone (now:=now) hg
  have g1:openG now n x t=false:=by unfold openG; rw [ho,hd]; rfl
  have g2:openDG now n x (c,L)=false:=by unfold openDG; rw [hd]; rfl
  refine ⟨?_,by rw [g1,g2],?_⟩
  ·unfold openV openDV openE openDE
   rw [g1,g2,ho,hd]; simp only [cond_true,cond_false]
  ·unfold openN openDN; rw [g1,g2]; exact h
 | false =>
  obtain ⟨k1,k2,k3,k4⟩:=h.keys hg
  have g:openG now n x t=openDG now n x (c,L):=by unfold openG openDG; rw [ho,h.ct,hm,k2]
  refine ⟨?_,g,?_⟩
  ·unfold openV openDV openE openDE
   rw [g,ho,h.ct,hm,k2]
  ·unfold openN openDN
   rw [g]
   cases hq:openDG now n x (c,L) with
   | false=>exact h
   | true =>
    have h0:mayR n (c,L)=0:=by
     unfold openDG at hq
     simp only [Bool.and_eq_true,Bool.not_eq_true',bne_eq_false_iff_eq] at hq
     exact hq.2.2.1
    exact ⟨h.first,rfl,h.made,h.rc,h.ct,h.rk,h.lf,h.next,mark_rel h.w h0,h.gone,h.keys⟩
theorem wipe_rel {t:Tn}{c:Dc}{L:List UInt64}(h:TRel t c L):TRel (wipeT t) (goneD c) L:=
 ⟨h.first,h.sure,h.made,h.rc,h.ct,h.rk,h.lf,h.next,h.w,fun _=>rfl,fun hc=>by cases hc⟩
end Go.Proofs.Ytjdhndicgifnbaa.Tun
namespace Go.Proofs.Ytjdhndicgifnbaa.Tun
open Go Go.Eng Go.Proofs.Ytjdhndicgifnbaa
section
variable {k:Bool}{x y zo sl slm:AVal}{ex bb:HL}{t:Tn}{c:Dc}{st xb:List AVal}
theorem oSe_ok {now:UInt64}{z:List UInt8}:oSe (hG k x y zo sl slm ex t c st) (hG k x y zo sl slm ex (sealN now z t) c st) now z (sealV now z t)=true:=by
 refine decP_of ?_
 rw [methE_app (C:=clsT) (C2:=clsT) (ns:=[1,2,3,4]) (s:=t) (H:=hG k x y zo sl slm ex t c st) (tFind_at (t:=1) (w:=2) (b:=3) (a:=4) rfl rfl rfl rfl) rfl rfl]
 rfl
theorem oWi_ok:oWi (hG k x y zo sl slm ex t c st) (hG k x y zo sl slm ex (wipeT t) c st)=true:=by
 refine decP_of ?_
 rw [methE_app (C:=clsT) (C2:=clsT) (ns:=[1,2,3,4]) (s:=t) (H:=hG k x y zo sl slm ex t c st) (tFind_at (t:=1) (w:=2) (b:=3) (a:=4) rfl rfl rfl rfl) rfl rfl]
 rfl
theorem oSd_ok {now:UInt64}{z:List UInt8}{m:Nat}{q:Option Nat}(hb:nodupB [5,m]=true):oSd (hG k x y zo sl (slQ m q) ex t c st) (hG k x y zo sl (slQ m q) ex t (sealDN now z c) st) now z (sealDV now z c)=true:=by
 refine decP_of ?_
 have hf:atF 5 (decD 5) (aget (hG k x y zo sl (slQ m q) ex t c st))=some (match q with | none=>[5] | some _=>[5,m],(c,q)):=by
  unfold atF
  show decD 5 (.cells false (cD (slQ m q) c))=_
  exact decD_at 5 m c q
 unfold meD
 cases q with
 | none =>
  rw [effF_app (w:=0) (O:=obD1) (O2:=obD1) (H:=hG k x y zo sl (slQ m none) ex t c st) hf rfl rfl]
  rfl
 | some q =>
  rw [effF_app (w:=0) (O:=obD1) (O2:=obD1) (H:=hG k x y zo sl (slQ m (some q)) ex t c st) hf hb rfl]
  rfl
theorem oOp_ok {b:Nat}{now n:UInt64}{z:List UInt8}(hb:nodupB (b::[1,2,3,4])=true) (ho:okW t.w=true):oOp b (hX k x y zo sl slm ex bb t c st xb) (hX k x y zo sl slm ex bb (openN now n z t) c st xb) now n z (openV now n z t)=true:=by
 refine decP_of ?_
 unfold m20
 rw [methE_app (C:=clsT) (C2:=clsT) (ns:=[1,2,3,4]) (s:=t) (H:=hX k x y zo sl slm ex bb t c st xb) (tFind_at (t:=1) (w:=2) (b:=3) (a:=4) rfl rfl rfl rfl) hb ho]
 rfl
end
def mkX:List UInt64→HL
 | []=>[]
 | a::l=>[(8,.cells false ((a::l).map .u64))]
def soX (j:Nat):SL→HL
 | []=>[]
 | a::l=>[(j,.cells false (snC (a::l)))]
def bbX:Option (List AVal)→HL
 | none=>[]
 | some v=>[(608,.cells false v)]
section
variable {k:Bool}{x y zo sl:AVal}{so:SL}{ob:Option (List AVal)}{t:Tn}{c:Dc}{L:List UInt64}{st xb:List AVal}{now n:UInt64}{z:List UInt8}
theorem findD_X {j:Nat}:findD 5 (aget (hX k x y zo sl (slQ 8 (qL L)) (mkX L++soX j so) (bbX ob) t c st xb))=some (dNs 5 8 L,(c,L)):=by
 refine findD_at rfl fun a l e => ?_
 subst e
 rfl
theorem oOd_no {j b:Nat}(hb:nodupB [b,5,8]=true) (hb0:nodupB [b,5]=true) (hl:lenOk (c,L)=true) (hg:openDG now n z (c,L)=false) :
  oOd b (hX k x y zo sl (slQ 8 (qL L)) (mkX L++soX j so) (bbX ob) t c st xb) (hX k x y zo sl (slQ 8 (qL L)) (mkX L++soX j so) (bbX ob) t c st xb) now n z (openDV now n z (c,L))=true:=by
 refine decP_of ?_
 have es:srcO now n z (c,L)=List.range (kQ (qL L)):=by unfold srcO; rw [hg]; rfl
 have em:openDN now n z (c,L)=(c,L):=by unfold openDN; rw [hg]; rfl
 unfold meO
 have hf:=findD_X (k:=k) (x:=x) (y:=y) (zo:=zo) (sl:=sl) (so:=so) (ob:=ob) (t:=t) (c:=c) (L:=L) (st:=st) (xb:=xb) (j:=j)
 rw [effF_app (w:=1) (O:=obD) (O2:=obD) (H:=hX k x y zo sl (slQ 8 (qL L)) (mkX L++soX j so) (bbX ob) t c st xb) hf (by
  cases L with
  | nil=>exact hb0
  | cons a l=>exact hb) hl,es,em]
 cases L <;> rfl
end
end Go.Proofs.Ytjdhndicgifnbaa.Tun
namespace Go.Proofs.Ytjdhndicgifnbaa.Tun
open Go Go.Eng Go.Proofs.Ytjdhndicgifnbaa
section
variable {k:Bool}{x y zo sl:AVal}{so:SL}{ob:Option (List AVal)}{t:Tn}{c:Dc}{L:List UInt64}{st xb:List AVal}{now n:UInt64}{z:List UInt8}
def hY (b:Nat) (k:Bool) (x y zo sl:AVal) (ex:HL) (bb:HL) (t:Tn) (c:Dc) (q:Nat) (mk2 st xb:List AVal):HL:=hF k x y zo sl (.slice b 0 q 1) t c++(ex++((16,.cells false st)::(296,.cells false xb)::(bb++[(b,.cells false mk2)])))
theorem oOd_yes {b:Nat}(hbs:b=600 ∨ b=776 ∨ b=816 ∨ b=936) (hl:lenOk (c,L)=true) (hg:openDG now n z (c,L)=true) :
  oOd b (hX k x y zo sl (slQ 8 (qL L)) (mkX L++soX (8+e1 L) so) (bbX ob) t c st xb) (hY b k x y zo sl (soX (8+e1 L) so) (bbX ob) t (sureD c) (L.length+1) ((L++[n]).map .u64) st xb) now n z (openDV now n z (c,L))=true:=by
 refine decP_of ?_
 have es:srcO now n z (c,L)=[0,kQ (qL L)]:=by unfold srcO; rw [hg]; rfl
 have em:openDN now n z (c,L)=(sureD c,L++[n]):=by unfold openDN; rw [hg]; rfl
 unfold meO
 have hf:=findD_X (k:=k) (x:=x) (y:=y) (zo:=zo) (sl:=sl) (so:=so) (ob:=ob) (t:=t) (c:=c) (L:=L) (st:=st) (xb:=xb) (j:=8+e1 L)
 rw [effF_app (w:=1) (O:=obD) (O2:=obD) (H:=hX k x y zo sl (slQ 8 (qL L)) (mkX L++soX (8+e1 L) so) (bbX ob) t c st xb) hf (by
  rcases hbs with rfl | rfl | rfl | rfl <;> cases L <;> rfl) hl,es,em]
 cases L with
 | nil=>rcases hbs with rfl | rfl | rfl | rfl <;> cases so <;> cases ob <;> rfl
 | cons a l =>
  have hk:((a::l).length+1)=(a::l++[n]).length:=by simp
  rw [hk]
  rcases hbs with rfl | rfl | rfl | rfl <;> cases so <;> cases ob <;> rfl
end
end Go.Proofs.Ytjdhndicgifnbaa.Tun
namespace Go.Proofs.Ytjdhndicgifnbaa.Tun
open Go Go.Eng Go.Proofs.Ytjdhndicgifnbaa
structure Stp where
 d:Int
 a:UInt8
 s:List UInt8
 wh:Int
 n:Int
 now:UInt64
def Stp.C (q:Stp):List AVal:=stC q.d q.a q.s q.wh q.n q.now
structure Sx where
 t:Tn
 c:Dc
 L:List UInt64
 sk:SL
 so:SL
 g:Bool
 t2:Tn
 c2:Dc
 L2:List UInt64
 sk2:SL
def pcS (k:Bool) (ν:Nat→Nat) (i j:Nat) (sk so:SL):List AVal:=pK k (.ptr (ν 1) 0) (.ptr (ν 6) 0) (.ptr (ν 5) 0) (.ptr (ν 7) 0) (slS (ν i) sk) (slS (ν j) so)
def cV (pc:List AVal) (ν:Nat→Nat) (t:Tn) (c:Dc) (slm:AVal) (ext:Nat→List AVal):Nat→List AVal
 | 0=>pc
 | 1=>cT (ν 2) (ν 4) t
 | 2=>cW (ν 3) t.w
 | 3=>t.w.L.map .u64
 | 4=>[.u64 t.made]
 | 5=>cD slm c
 | i+6=>ext (i+6)
def kA (s:Sx):Nat:=8+e1 s.sk+e1 s.L+e1 s.so
def VA (k:Bool) (q:Stp) (sh:Bool):Vw Sx where
 k:=kA
 ix s:=[0,1,2,3,4,5]++cond sh (oneN 8 s.sk) []
 c ν s:=cV (pcS k ν 8 (8+e1 s.sk+e1 s.L) s.sk s.so) ν s.t s.c (slQ (ν (8+e1 s.sk)) (qL s.L)) fun _=>snC s.sk
 ix2 s:=cond s.g [0,1,2,3,4,5,kA s] ([0,1,2,3,4,5]++cond sh (oneN 8 s.sk) [])
 c2 ν s:=cV (pcS k ν (cond s.g (kA s) 8) (8+e1 s.sk+e1 s.L) s.sk2 s.so) ν s.t2 s.c2 (slQ (ν (8+e1 s.sk)) (qL s.L)) fun _=>snC s.sk2
 w:=1
 A ν s:=[.ptr (ν 0) 0,.agg q.C]
 val _ _:=.bool true
def kO (s:Sx):Nat:=8+e1 s.L+e1 s.so+e1 s.sk
def extO (i:Nat) (L:List UInt64) (so:SL) (j:Nat):List AVal:=cond (Nat.beq j i && !L.isEmpty) (L.map .u64) (snC so)
def VO (k:Bool) (q:Stp):Vw Sx where
 k:=kO
 ix s:=[0,1,2,3,4,5]++(oneN 8 s.L++oneN (8+e1 s.L) s.so)
 c ν s:=cV (pcS k ν (8+e1 s.L+e1 s.so) (8+e1 s.L) s.sk s.so) ν s.t s.c (slQ (ν 8) (qL s.L)) (extO 8 s.L s.so)
 ix2 s:=cond s.g ([0,1,2,3,4,5]++(oneN (8+e1 s.L) s.so++[kO s])) ([0,1,2,3,4,5]++(oneN 8 s.L++oneN (8+e1 s.L) s.so))
 c2 ν s:=cV (pcS k ν (8+e1 s.L+e1 s.so) (8+e1 s.L) s.sk s.so) ν s.t2 s.c2 (slQ (ν (cond s.g (kO s) 8)) (qL s.L2)) (extO (cond s.g (kO s) 8) s.L2 s.so)
 w:=1
 A ν s:=[.ptr (ν 0) 0,.agg q.C]
 val _ _:=.bool true
theorem rn_slS {ρ:Nat→Nat→Prop}{n n':Nat}{l:SL}(h:l ≠ []→ρ n n'):RN ρ (slS n l) (slS n' l):=by
 cases l with
 | nil=>exact .same rfl
 | cons a l=>exact .slice (h (by simp))
theorem rn_slQ {ρ:Nat→Nat→Prop}{n n':Nat}{L:List UInt64}(h:L ≠ []→ρ n n'):RN ρ (slQ n (qL L)) (slQ n' (qL L)):=by
 cases L with
 | nil=>exact .same rfl
 | cons a l=>exact .slice (h (by simp))
theorem rl_p {k:Bool}{ρ:Nat→Nat→Prop}{a a' b b' s s' d d' f f' u u':AVal}(h1:RN ρ a d) (h2:RN ρ a' d') (h3:RN ρ b f) (h4:RN ρ b' f') (h5:RN ρ s u) (h6:RN ρ s' u'):RL ρ (pK k a a' b b' s s') (pK k d d' f f' u u'):=by
 cases k
 ·exact .cons h1 (.cons h2 (.cons h3 (.cons h4 (.cons h5 (.cons h6 (.nil _))))))
 ·exact .cons h2 (.cons h1 (.cons h4 (.cons h3 (.cons h6 (.cons h5 (.nil _))))))
theorem rl_snC {ρ:Nat→Nat→Prop}(l:SL):RL ρ (snC l) (snC l):=by
 have:ltL 0 (snC l)=true:=by
  induction l with
  | nil=>rfl
  | cons a l ih=>exact ih
 exact .same this
theorem rl_cT {ρ:Nat→Nat→Prop}{w w' a a':Nat}(t:Tn) (h1:ρ w w') (h2:ρ a a'):RL ρ (cT w a t) (cT w' a' t):=
 .cons (.ptr h1) (.cons (.same rfl) (.cons (.same rfl) (.cons (.same rfl) (.cons (.same rfl) (.cons (.fnL (.cons (.ptr h2) (.nil _))) (.same rfl))))))
theorem rl_cW {ρ:Nat→Nat→Prop}{b b':Nat}(w:Wn) (h:ρ b b'):RL ρ (cW b w) (cW b' w):=.cons (.same rfl) (.cons (.slice h) (.same rfl))
theorem rl_cV {ρ:Nat→Nat→Prop}{pc pc':List AVal}{ν ν':Nat→Nat}{t:Tn}{c:Dc}{slm slm':AVal}{ext:Nat→List AVal}{n:Nat}(hn:8≤n) (hρ:∀ j,j < n→ρ (ν j) (ν' j)) (h0:RL ρ pc pc') (h5:RN ρ slm slm') (he:∀ i,RL ρ (ext i) (ext i)) (i:Nat):RL ρ (cV pc ν t c slm ext i) (cV pc' ν' t c slm' ext i):=by
 match i with
 | 0=>exact h0
 | 1=>exact rl_cT t (hρ 2 (by omega)) (hρ 4 (by omega))
 | 2=>exact rl_cW t.w (hρ 3 (by omega))
 | 3=>exact .same (ltL_u64 0 _)
 | 4=>exact .same rfl
 | 5=>exact relcD _ _ rfl (.cons h5 (.nil _))
 | i+6=>exact he _
theorem e1_pos {α:Type}{l:List α}(h:l ≠ []):e1 l=1:=by cases l <;> simp [e1] at *
theorem relVA (k:Bool) (q:Stp) (sh:Bool) (s:Sx) (hg:s.g=false→s.sk2=s.sk):(VA k q sh).Rel s:=by
 have hK:∀ (n:Nat),kA s≤n→8≤n:=fun n h=>by unfold kA at h; omega
 have kd:kA s=8+e1 s.sk+e1 s.L+e1 s.so:=rfl
 refine ⟨fun ρ ν ν' hρ i hi => ?_,fun ρ ν ν' hρ i hi => ?_,fun ρ ν ν' hρ => ?_,fun ρ ν ν' hρ=>.same rfl,fun i hi => ?_,?_,?_,fun j hj => ?_⟩
 ·have hρ:∀ j,j < kA s→ρ (ν j) (ν' j):=hρ
  exact rl_cV (hK _ (Nat.le_refl _)) hρ (rl_p (.ptr (hρ 1 (by omega))) (.ptr (hρ 6 (by omega))) (.ptr (hρ 5 (by omega))) (.ptr (hρ 7 (by omega))) (rn_slS fun h=>hρ _ (by have:=e1_pos h; omega)) (rn_slS fun h=>hρ _ (by have:=e1_pos h; omega))) (rn_slQ fun h=>hρ _ (by have:=e1_pos h; omega)) (fun _=>rl_snC _) i
 ·have hρ:∀ j,j < kA s+1→ρ (ν j) (ν' j):=hρ
  refine rl_cV (hK _ (Nat.le_succ _)) hρ (rl_p (.ptr (hρ 1 (by omega))) (.ptr (hρ 6 (by omega))) (.ptr (hρ 5 (by omega))) (.ptr (hρ 7 (by omega))) (rn_slS fun h => ?_) (rn_slS fun h=>hρ _ (by have:=e1_pos h; omega))) (rn_slQ fun h=>hρ _ (by have:=e1_pos h; omega)) (fun _=>rl_snC _) i
  cases hgg:s.g with
  | true=>exact hρ _ (Nat.lt_succ_self _)
  | false =>
   rw [hg hgg] at h
   exact hρ 8 (by have:=e1_pos h; omega)
 ·exact .cons (.ptr (hρ 0 (by show 0 < kA s; omega))) (.cons (.same rfl) (.nil _))
 ·show i < kA s
  have hi:i ∈ [0,1,2,3,4,5]++cond sh (oneN 8 s.sk) []:=hi
  rcases List.mem_append.1 hi with h | h
  ·have:i≤5:=by simp at h; omega
   omega
  ·cases sh with
   | false=>simp at h
   | true =>
    cases hs:s.sk with
    | nil=>rw [hs] at h; simp [oneN] at h
    | cons a l =>
     rw [hs] at h
     have:i=8:=by simpa [oneN] using h
     have:e1 s.sk=1:=by rw [hs]; rfl
     omega
 ·show ([0,1,2,3,4,5]++cond sh (oneN 8 s.sk) []).Nodup
  cases sh <;> cases s.sk <;> simp [oneN]
 ·show (cond s.g [0,1,2,3,4,5,kA s] ([0,1,2,3,4,5]++cond sh (oneN 8 s.sk) [])).Nodup
  cases s.g with
  | true =>
   simp only [cond_true]
   simp
   omega
  | false=>cases sh <;> cases s.sk <;> simp [oneN]
 ·have hj:j ∈ cond s.g [0,1,2,3,4,5,kA s] ([0,1,2,3,4,5]++cond sh (oneN 8 s.sk) []):=hj
  show j ∈ [0,1,2,3,4,5]++cond sh (oneN 8 s.sk) [] ∨ (kA s≤j∧j < kA s+1)
  cases hgg:s.g with
  | true =>
   rw [hgg] at hj
   simp only [cond_true] at hj
   have:j ∈ [0,1,2,3,4,5] ∨ j=kA s:=by simp at hj ⊢; omega
   rcases this with h | h
   ·exact .inl (List.mem_append.2 (.inl h))
   ·exact .inr (by omega)
  | false=>rw [hgg] at hj; exact .inl hj
theorem relVO (k:Bool) (q:Stp) (s:Sx) (hg:s.g=false→s.L2=s.L):(VO k q).Rel s:=by
 have hK:∀ (n:Nat),kO s≤n→8≤n:=fun n h=>by unfold kO at h; omega
 have kd:kO s=8+e1 s.L+e1 s.so+e1 s.sk:=rfl
 have rext:∀ {ρ:Nat→Nat→Prop} (i:Nat) (L:List UInt64) (j:Nat),RL ρ (extO i L s.so j) (extO i L s.so j):=fun i L j=>by
  unfold extO
  cases (Nat.beq j i && !L.isEmpty) with
  | true=>exact .same (ltL_u64 0 L)
  | false=>exact rl_snC _
 have hmem:∀ i,i ∈ [0,1,2,3,4,5]++(oneN 8 s.L++oneN (8+e1 s.L) s.so)→i < kO s:=fun i hi=>by
  rcases List.mem_append.1 hi with h | h
  ·have:i≤5:=by simp at h; omega
   omega
  ·rcases List.mem_append.1 h with h | h
   ·cases hs:s.L with
    | nil=>rw [hs] at h; simp [oneN] at h
    | cons a l =>
     rw [hs] at h
     have:i=8:=by simpa [oneN] using h
     have:e1 s.L=1:=by rw [hs]; rfl
     omega
   ·cases hs:s.so with
    | nil=>rw [hs] at h; simp [oneN] at h
    | cons a l =>
     rw [hs] at h
     have:i=8+e1 s.L:=by simpa [oneN] using h
     have:e1 s.so=1:=by rw [hs]; rfl
     omega
 have hnd:([0,1,2,3,4,5]++(oneN 8 s.L++oneN (8+e1 s.L) s.so)).Nodup:=by
  cases s.L <;> cases s.so <;> simp [oneN,e1]
 refine ⟨fun ρ ν ν' hρ i hi => ?_,fun ρ ν ν' hρ i hi => ?_,fun ρ ν ν' hρ => ?_,fun ρ ν ν' hρ=>.same rfl,hmem,hnd,?_,fun j hj => ?_⟩
 ·have hρ:∀ j,j < kO s→ρ (ν j) (ν' j):=hρ
  exact rl_cV (hK _ (Nat.le_refl _)) hρ (rl_p (.ptr (hρ 1 (by omega))) (.ptr (hρ 6 (by omega))) (.ptr (hρ 5 (by omega))) (.ptr (hρ 7 (by omega))) (rn_slS fun h=>hρ _ (by have:=e1_pos h; omega)) (rn_slS fun h=>hρ _ (by have:=e1_pos h; omega))) (rn_slQ fun h=>hρ _ (by have:=e1_pos h; omega)) (fun j=>rext _ _ j) i
 ·have hρ:∀ j,j < kO s+1→ρ (ν j) (ν' j):=hρ
  refine rl_cV (hK _ (Nat.le_succ _)) hρ (rl_p (.ptr (hρ 1 (by omega))) (.ptr (hρ 6 (by omega))) (.ptr (hρ 5 (by omega))) (.ptr (hρ 7 (by omega))) (rn_slS fun h=>hρ _ (by have:=e1_pos h; omega)) (rn_slS fun h=>hρ _ (by have:=e1_pos h; omega))) (rn_slQ fun h => ?_) (fun j=>rext _ _ j) i
  cases hgg:s.g with
  | true=>exact hρ _ (Nat.lt_succ_self _)
  | false =>
   rw [hg hgg] at h
   exact hρ 8 (by have:=e1_pos h; omega)
 ·exact .cons (.ptr (hρ 0 (by show 0 < kO s; omega))) (.cons (.same rfl) (.nil _))
 ·show (cond s.g ([0,1,2,3,4,5]++(oneN (8+e1 s.L) s.so++[kO s])) ([0,1,2,3,4,5]++(oneN 8 s.L++oneN (8+e1 s.L) s.so))).Nodup
  cases s.g with
  | true =>
   simp only [cond_true]
   rw [kd]
   cases s.L <;> cases s.so <;> cases s.sk <;> simp [oneN,e1]
  | false=>exact hnd
 ·have hj:j ∈ cond s.g ([0,1,2,3,4,5]++(oneN (8+e1 s.L) s.so++[kO s])) ([0,1,2,3,4,5]++(oneN 8 s.L++oneN (8+e1 s.L) s.so)):=hj
  show j ∈ [0,1,2,3,4,5]++(oneN 8 s.L++oneN (8+e1 s.L) s.so) ∨ (kO s≤j∧j < kO s+1)
  cases hgg:s.g with
  | true =>
   rw [hgg] at hj
   simp only [cond_true,List.mem_append,List.mem_singleton] at hj ⊢
   rcases hj with h | h | h
   ·exact .inl (.inl h)
   ·exact .inl (.inr (.inr h))
   ·exact .inr (by omega)
  | false=>rw [hgg] at hj; exact .inl hj
end Go.Proofs.Ytjdhndicgifnbaa.Tun
namespace Go.Proofs.Ytjdhndicgifnbaa.Tun
open Go Go.Eng Go.Proofs.Ytjdhndicgifnbaa
def fA (k:Bool) (p:Nat) (sx:Hv→Sx) (η:Nat→Option AObj):Option (List Nat × Sx):=
 match pFind k p η with
 | some (N,h)=>some (N.n8++(N.nk++(N.nm++N.no)),sx h)
 | none=>none
def fO (k:Bool) (p:Nat) (sx:Hv→Sx) (η:Nat→Option AObj):Option (List Nat × Sx):=
 match pFind k p η with
 | some (N,h)=>some (N.n8++(N.nm++(N.no++N.nk)),sx h)
 | none=>none
def Keeps (sx:Hv→Sx):Prop:=∀ h,(sx h).t=h.t∧(sx h).c=h.c∧(sx h).L=h.L∧(sx h).sk=h.sk∧(sx h).so=h.so
theorem list1 {l:List Nat}(h:l.length=1):∃ a,l=[a]:=List.length_eq_one_iff.1 h
theorem known_all {k:Bool}{p:Nat}{η:Nat→Option AObj}{N:Pn}{h:Hv}{xs:List AVal}(H:PfOk k p η N h){n:Nat}(hn:n ∈ N.n8++(N.nk++(N.nm++N.no))):Known η (.ptr p 0::xs) n:=by
 obtain ⟨⟨t,w,b,a,r,t',r',h8,h0,h1,h2,h3,h4,h5⟩,hm,hk,ho⟩:=H
 rw [h8] at hn
 rcases List.mem_append.1 hn with q | q
 ·simp at q
  rcases q with rfl | rfl | rfl | rfl | rfl | rfl | rfl | rfl
  ·exact .inl ⟨_,h0⟩
  ·exact .inl ⟨_,h1⟩
  ·exact .inl ⟨_,h2⟩
  ·exact .inl ⟨_,h3⟩
  ·exact .inl ⟨_,h4⟩
  ·exact .inl ⟨_,h5⟩
  ·refine .inr (.inl ⟨p,_,_,cond k 0 1,h0,.inr ⟨0,?_⟩⟩)
   cases k <;> rfl
  ·refine .inr (.inl ⟨p,_,_,cond k 2 3,h0,.inr ⟨0,?_⟩⟩)
   cases k <;> rfl
 ·rcases List.mem_append.1 q with q | q
  ·exact .inl ⟨_,hk.2 _ q⟩
  ·rcases List.mem_append.1 q with q | q
   ·exact .inl ⟨_,hm.2 _ q⟩
   ·exact .inl ⟨_,ho.2 _ q⟩
theorem fA_ok {k:Bool}{p:Nat}{q:Stp}{sh:Bool}{sx:Hv→Sx}(hs:Keeps sx){η:Nat→Option AObj}{ns:List Nat}{s:Sx}(hf:fA k p sx η=some (ns,s)) :
  ns.length=(VA k q sh).k s∧(∀ n,n ∈ ns→Known η [.ptr p 0,.agg q.C] n)∧(∀ base i,i ∈ (VA k q sh).ix s→η (ns.getD i 0)=some (.cells false ((VA k q sh).c (nmU2 ns base) s i)))∧∀ base,[.ptr p 0,.agg q.C]=(VA k q sh).A (nmU2 ns base) s:=by
 unfold fA at hf
 split at hf
 ·rename_i N h hp
  have H:=pFind_ok hp
  cases hf
  have hkn:=fun n hn=>known_all (xs:=[.agg q.C]) H (n:=n) hn
  obtain ⟨⟨t,w,b,a,r,t',r',h8,h0,h1,h2,h3,h4,h5⟩,hm,hk,ho⟩:=H
  obtain ⟨s1,s2,s3,s4,s5⟩:=hs h
  obtain ⟨n8,nm,nk,no⟩:=N
  obtain ⟨ht,hc,hL,hsk,hso⟩:=h
  simp only at h8 h0 h1 h2 h3 h4 h5 hm hk ho s1 s2 s3 s4 s5 hkn
  subst h8
  generalize sx _=S at *
  obtain ⟨St,Sc,SL',Ssk,Sso,g,t2,c2,L2,sk2⟩:=S
  simp only at s1 s2 s3 s4 s5
  subst s1 s2 s3 s4 s5
  have e1nil:∀ {α:Type},e1 ([]:List α)=0:=rfl
  have key:∀ (base:Nat) (i:Nat),i ∈ [0,1,2,3,4,5]++oneN 8 Ssk→η (([p,t,w,b,a,r,t',r']++(nk++(nm++no))).getD i 0)=some (.cells false ((VA k q true).c (nmU2 ([p,t,w,b,a,r,t',r']++(nk++(nm++no))) base) ⟨St,Sc,SL',Ssk,Sso,g,t2,c2,L2,sk2⟩ i)):=by
   intro base i hi
   cases Ssk with
   | nil =>
    have z1:nk=[]:=List.length_eq_zero_iff.1 hk.1
    subst z1
    have hi:i ∈ [0,1,2,3,4,5]:=by simpa [oneN] using hi
    cases SL' with
    | nil =>
     have z2:nm=[]:=List.length_eq_zero_iff.1 hm.1
     subst z2
     cases Sso with
     | nil =>
      have z3:no=[]:=List.length_eq_zero_iff.1 ho.1
      subst z3
      simp at hi
      rcases hi with rfl | rfl | rfl | rfl | rfl | rfl <;> assumption
     | cons o1 o2 =>
      obtain ⟨m3,rfl⟩:=list1 ho.1
      simp at hi
      rcases hi with rfl | rfl | rfl | rfl | rfl | rfl <;> assumption
    | cons l1 l2 =>
     obtain ⟨m2,rfl⟩:=list1 hm.1
     cases Sso with
     | nil =>
      have z3:no=[]:=List.length_eq_zero_iff.1 ho.1
      subst z3
      simp at hi
      rcases hi with rfl | rfl | rfl | rfl | rfl | rfl <;> assumption
     | cons o1 o2 =>
      obtain ⟨m3,rfl⟩:=list1 ho.1
      simp at hi
      rcases hi with rfl | rfl | rfl | rfl | rfl | rfl <;> assumption
   | cons k1 k2 =>
    obtain ⟨m1,rfl⟩:=list1 hk.1
    have h9:=hk.2 m1 (by simp)
    have hi:i ∈ [0,1,2,3,4,5,8]:=by simpa [oneN] using hi
    cases SL' with
    | nil =>
     have z2:nm=[]:=List.length_eq_zero_iff.1 hm.1
     subst z2
     cases Sso with
     | nil =>
      have z3:no=[]:=List.length_eq_zero_iff.1 ho.1
      subst z3
      simp at hi
      rcases hi with rfl | rfl | rfl | rfl | rfl | rfl | rfl <;> assumption
     | cons o1 o2 =>
      obtain ⟨m3,rfl⟩:=list1 ho.1
      simp at hi
      rcases hi with rfl | rfl | rfl | rfl | rfl | rfl | rfl <;> assumption
    | cons l1 l2 =>
     obtain ⟨m2,rfl⟩:=list1 hm.1
     cases Sso with
     | nil =>
      have z3:no=[]:=List.length_eq_zero_iff.1 ho.1
      subst z3
      simp at hi
      rcases hi with rfl | rfl | rfl | rfl | rfl | rfl | rfl <;> assumption
     | cons o1 o2 =>
      obtain ⟨m3,rfl⟩:=list1 ho.1
      simp at hi
      rcases hi with rfl | rfl | rfl | rfl | rfl | rfl | rfl <;> assumption
  refine ⟨?_,hkn,fun base i hi=>key base i ?_,fun base => ?_⟩
  ·show ([p,t,w,b,a,r,t',r']++(nk++(nm++no))).length=8+e1 Ssk+e1 SL' + e1 Sso
   rw [List.length_append,List.length_append,List.length_append,hk.1,hm.1,ho.1]
   simp
   omega
  ·have hi:i ∈ [0,1,2,3,4,5]++cond sh (oneN 8 Ssk) []:=hi
   cases sh with
   | true=>exact hi
   | false=>exact List.mem_append.2 (.inl (by simpa using hi))
  ·show _=[AVal.ptr (nmU2 ([p,t,w,b,a,r,t',r']++(nk++(nm++no))) base 0) 0,.agg q.C]
   rw [nmU2_lt (by simp)]
   rfl
 ·cases hf
end Go.Proofs.Ytjdhndicgifnbaa.Tun
namespace Go.Proofs.Ytjdhndicgifnbaa.Tun
open Go Go.Eng Go.Proofs.Ytjdhndicgifnbaa
theorem fO_ok {k:Bool}{p:Nat}{q:Stp}{sx:Hv→Sx}(hs:Keeps sx){η:Nat→Option AObj}{ns:List Nat}{s:Sx}(hf:fO k p sx η=some (ns,s)) :
  ns.length=(VO k q).k s∧(∀ n,n ∈ ns→Known η [.ptr p 0,.agg q.C] n)∧(∀ base i,i ∈ (VO k q).ix s→η (ns.getD i 0)=some (.cells false ((VO k q).c (nmU2 ns base) s i)))∧∀ base,[.ptr p 0,.agg q.C]=(VO k q).A (nmU2 ns base) s:=by
 unfold fO at hf
 split at hf
 ·rename_i N h hp
  have H:=pFind_ok hp
  cases hf
  have hkn:=fun n hn=>known_all (xs:=[.agg q.C]) H (n:=n) hn
  obtain ⟨⟨t,w,b,a,r,t',r',h8,h0,h1,h2,h3,h4,h5⟩,hm,hk,ho⟩:=H
  obtain ⟨s1,s2,s3,s4,s5⟩:=hs h
  obtain ⟨n8,nm,nk,no⟩:=N
  obtain ⟨ht,hc,hL,hsk,hso⟩:=h
  simp only at h8 h0 h1 h2 h3 h4 h5 hm hk ho s1 s2 s3 s4 s5 hkn
  subst h8
  generalize sx _=S at *
  obtain ⟨St,Sc,SL',Ssk,Sso,g,t2,c2,L2,sk2⟩:=S
  simp only at s1 s2 s3 s4 s5
  subst s1 s2 s3 s4 s5
  refine ⟨?_,fun n hn=>hkn n ?_,fun base i hi => ?_,fun base => ?_⟩
  ·show ([p,t,w,b,a,r,t',r']++(nm++(no++nk))).length=8+e1 SL' + e1 Sso+e1 Ssk
   rw [List.length_append,List.length_append,List.length_append,hk.1,hm.1,ho.1]
   simp
   omega
  ·simp only [List.mem_append] at hn ⊢
   rcases hn with h | h | h | h
   ·exact .inl h
   ·exact .inr (.inr (.inl h))
   ·exact .inr (.inr (.inr h))
   ·exact .inr (.inl h)
  ·have hj:i ∈ [0,1,2,3,4,5]++(oneN 8 SL' ++ oneN (8+e1 SL') Sso):=hi
   clear hi
   cases SL' with
   | nil =>
    have z2:nm=[]:=List.length_eq_zero_iff.1 hm.1
    subst z2
    cases Sso with
    | nil =>
     have z3:no=[]:=List.length_eq_zero_iff.1 ho.1
     subst z3
     cases Ssk with
     | nil =>
      have z1:nk=[]:=List.length_eq_zero_iff.1 hk.1
      subst z1
      have hi:i ∈ [0,1,2,3,4,5]:=by simpa [oneN,e1] using hj
      simp at hi
      rcases hi with rfl | rfl | rfl | rfl | rfl | rfl <;> assumption
     | cons k1 k2 =>
      obtain ⟨m1,rfl⟩:=list1 hk.1
      have hi:i ∈ [0,1,2,3,4,5]:=by simpa [oneN,e1] using hj
      simp at hi
      rcases hi with rfl | rfl | rfl | rfl | rfl | rfl <;> assumption
    | cons o1 o2 =>
     obtain ⟨m3,rfl⟩:=list1 ho.1
     have h10:=ho.2 m3 (by simp)
     cases Ssk with
     | nil =>
      have z1:nk=[]:=List.length_eq_zero_iff.1 hk.1
      subst z1
      have hi:i ∈ [0,1,2,3,4,5,8]:=by simpa [oneN,e1] using hj
      simp at hi
      rcases hi with rfl | rfl | rfl | rfl | rfl | rfl | rfl <;> assumption
     | cons k1 k2 =>
      obtain ⟨m1,rfl⟩:=list1 hk.1
      have hi:i ∈ [0,1,2,3,4,5,8]:=by simpa [oneN,e1] using hj
      simp at hi
      rcases hi with rfl | rfl | rfl | rfl | rfl | rfl | rfl <;> assumption
   | cons l1 l2 =>
    obtain ⟨m2,rfl⟩:=list1 hm.1
    have h9:=hm.2 m2 (by simp)
    cases Sso with
    | nil =>
     have z3:no=[]:=List.length_eq_zero_iff.1 ho.1
     subst z3
     cases Ssk with
     | nil =>
      have z1:nk=[]:=List.length_eq_zero_iff.1 hk.1
      subst z1
      have hi:i ∈ [0,1,2,3,4,5,8]:=by simpa [oneN,e1] using hj
      simp at hi
      rcases hi with rfl | rfl | rfl | rfl | rfl | rfl | rfl <;> assumption
     | cons k1 k2 =>
      obtain ⟨m1,rfl⟩:=list1 hk.1
      have hi:i ∈ [0,1,2,3,4,5,8]:=by simpa [oneN,e1] using hj
      simp at hi
      rcases hi with rfl | rfl | rfl | rfl | rfl | rfl | rfl <;> assumption
    | cons o1 o2 =>
     obtain ⟨m3,rfl⟩:=list1 ho.1
     have h10:=ho.2 m3 (by simp)
     cases Ssk with
     | nil =>
      have z1:nk=[]:=List.length_eq_zero_iff.1 hk.1
      subst z1
      have hi:i ∈ [0,1,2,3,4,5,8,9]:=by simpa [oneN,e1] using hj
      simp at hi
      rcases hi with rfl | rfl | rfl | rfl | rfl | rfl | rfl | rfl <;> assumption
     | cons k1 k2 =>
      obtain ⟨m1,rfl⟩:=list1 hk.1
      have hi:i ∈ [0,1,2,3,4,5,8,9]:=by simpa [oneN,e1] using hj
      simp at hi
      rcases hi with rfl | rfl | rfl | rfl | rfl | rfl | rfl | rfl <;> assumption
  ·show _=[AVal.ptr (nmU2 ([p,t,w,b,a,r,t',r']++(nm++(no++nk))) base 0) 0,.agg q.C]
   rw [nmU2_lt (by simp)]
   rfl
 ·cases hf
end Go.Proofs.Ytjdhndicgifnbaa.Tun
namespace Go.Proofs.Ytjdhndicgifnbaa.Tun
open Go Go.Eng Go.Proofs.Ytjdhndicgifnbaa
def sealT (q:Stp) (c:Dc):List UInt8:=(Ae.seF c.send (Ae.nonL c.next) [] q.s).1
def sealS (q:Stp) (h:Hv):Sx:=⟨h.t,h.c,h.L,h.sk,h.so,sealDG q.now q.s h.c,sealN q.now q.s h.t,sealDN q.now q.s h.c,h.L,cond (sealDG q.now q.s h.c) (h.sk++[(h.c.next,sealT q h.c)]) h.sk⟩
def wipeS (h:Hv):Sx:=⟨h.t,h.c,h.L,h.sk,h.so,false,wipeT h.t,goneD h.c,h.L,h.sk⟩
def restS (h:Hv):Sx:=⟨h.t,h.c,h.L,h.sk,h.so,false,h.t,h.c,h.L,h.sk⟩
theorem keeps_seal (q:Stp):Keeps (sealS q):=fun h=>⟨rfl,rfl,rfl,rfl,rfl⟩
theorem keeps_wipe:Keeps wipeS:=fun h=>⟨rfl,rfl,rfl,rfl,rfl⟩
theorem keeps_rest:Keeps restS:=fun h=>⟨rfl,rfl,rfl,rfl,rfl⟩
def AtK (q:Stp) (k:Bool):Prop:=((q.a &&& 1).toNat:Int)=kI k
theorem atO_ok {q:Stp}{k:Bool}(h:AtK q k):atO q.a k=true:=by
 unfold atO
 rw [h]
 simp [eqS]
theorem sealDV_t {q:Stp}{c:Dc}(h:sealDG q.now q.s c=true):sealDV q.now q.s c=.tup [.u64 c.next,.str (sealT q c),.int .i64 0]:=by
 unfold sealDV; rw [h]; rfl
theorem sealDV_f {q:Stp}{c:Dc}(h:sealDG q.now q.s c=false):sealDV q.now q.s c=.tup [.u64 0,.str [],.int .i64 (sealDE q.now q.s c)]:=by
 unfold sealDV; rw [h,cond_false]
theorem sealDE_ne {q:Stp}{c:Dc}(h:sealDG q.now q.s c=false):(!(sealDE q.now q.s c == 0))=true:=by
 unfold sealDG at h
 unfold sealDE
 cases h1:overD q.now c with
 | true=>rfl
 | false =>
  rw [h1] at h
  cases h2:decide (c.ct≤c.next) with
  | true=>rfl
  | false =>
   rw [h2] at h
   cases h3:c.sure with
   | false=>rfl
   | true =>
    rw [h3] at h
    simp only [Bool.not_false,Bool.true_and,Bool.not_eq_false',bne_iff_ne,ne_eq] at h
    simp only [cond_false,cond_true,Bool.not_eq_true',beq_eq_false_iff_ne,ne_eq]
    exact h
theorem appS_ok {sk:SL}(m:UInt64) (z:List UInt8) (h:sk.length < 1000000000):appS sk m z=true:=by
 unfold appS
 have hl:(snC sk).length=sk.length * 2:=by
  clear h
  induction sk with
  | nil=>rfl
  | cons a l ih =>
   have:snC (a::l)=.u64 a.1::.str a.2::snC l:=rfl
   rw [this]
   simp only [List.length_cons,ih]
   omega
 have e1:Nat.ble ((sk.length+1) * 24) 140737488355328=true:=Nat.ble_eq_true_of_le (by omega)
 have e2:Nat.ble (sk.length+1) 140737488355328=true:=Nat.ble_eq_true_of_le (by omega)
 have e3:Nat.ble (0+sk.length * 2) (snC sk).length=true:=Nat.ble_eq_true_of_le (by omega)
 rw [e1,e2,e3]
 rfl
theorem snC_app (sk:SL) (m:UInt64) (z:List UInt8):(snC sk).take (sk.length * 2)++[.u64 m,.str z]=snC (sk++[(m,z)]):=by
 have hl:(snC sk).length=sk.length * 2:=by
  induction sk with
  | nil=>rfl
  | cons a l ih =>
   have:snC (a::l)=.u64 a.1::.str a.2::snC l:=rfl
   rw [this]
   simp only [List.length_cons,ih]
   omega
 rw [List.take_of_length_le (by omega)]
 unfold snC
 rw [List.flatMap_append]
 rfl
theorem run_seal {k:Bool}{q:Stp}{t:Tn}{c:Dc}{L:List UInt64}{sk so:SL}(hR:TRel t c L) (hd:q.d=0) (ha:AtK q k) (hl:sk.length < 1000000000):RunG Try.prog csT 11 (VA k q true) (sealS q ⟨t,c,L,sk,so⟩):=by
 obtain ⟨hv,_,_⟩:=seal_eq hR q.now q.s
 have ho:=atO_ok ha
 have hd0:(q.d == 0)=true:=by rw [hd]; rfl
 cases hg:sealDG q.now q.s c with
 | true =>
  have hS:sealS q ⟨t,c,L,sk,so⟩=⟨t,c,L,sk,so,true,sealN q.now q.s t,sealDN q.now q.s c,L,sk++[(c.next,sealT q c)]⟩:=by unfold sealS; simp only [hg,cond_true]
  rw [hS]
  have hvd:=sealDV_t hg
  rw [hvd] at hv
  cases sk with
  | nil =>
   cases L with
   | nil =>
    cases so with
    | nil =>
     have o1':=(oSe_ok (k:=k) (x:=.ptr 6 0) (y:=.ptr 7 0) (zo:=.nilSlice) (sl:=.nilSlice) (slm:=(slQ 8 (qL []))) (ex:=[]) (t:=t) (c:=c) (st:=q.C) (now:=q.now) (z:=q.s))
     rw [hv] at o1'
     have o2':=(oSd_ok (k:=k) (x:=.ptr 6 0) (y:=.ptr 7 0) (zo:=.nilSlice) (sl:=.nilSlice) (m:=8) (q:=qL []) (ex:=[]) (t:=sealN q.now q.s t) (c:=c) (st:=q.C) (now:=q.now) (z:=q.s) rfl)
     rw [hvd] at o2'
     exact runG_ofR (nn:=mask 11) (F:=200) (fr:=16) gl [536] (ansR_of csT_ps (w11na k (.ptr 6 0) (.ptr 7 0) .nilSlice (slQ 8 (qL [])) t (sealN q.now q.s t) c (sealDN q.now q.s c) q.d q.wh q.n q.a q.s (sealT q c) q.now c.next 0) (allT_c (beq_self_eq_true _) (allT_c (beq_self_eq_true _) (allT_c rfl (allT_c o2' (allT_c o1' (allT_c hd0 (allT_c ho rfl)))))))) rfl rfl rfl rfl
    | cons o1 o2 =>
     have o1':=(oSe_ok (k:=k) (x:=.ptr 6 0) (y:=.ptr 7 0) (zo:=(slS 8 (o1::o2))) (sl:=.nilSlice) (slm:=(slQ 8 (qL []))) (ex:=[]) (t:=t) (c:=c) (st:=q.C) (now:=q.now) (z:=q.s))
     rw [hv] at o1'
     have o2':=(oSd_ok (k:=k) (x:=.ptr 6 0) (y:=.ptr 7 0) (zo:=(slS 8 (o1::o2))) (sl:=.nilSlice) (m:=8) (q:=qL []) (ex:=[]) (t:=sealN q.now q.s t) (c:=c) (st:=q.C) (now:=q.now) (z:=q.s) rfl)
     rw [hvd] at o2'
     exact runG_ofR (nn:=mask 11) (F:=200) (fr:=16) gl [536] (ansR_of csT_ps (w11na k (.ptr 6 0) (.ptr 7 0) (slS 8 (o1::o2)) (slQ 8 (qL [])) t (sealN q.now q.s t) c (sealDN q.now q.s c) q.d q.wh q.n q.a q.s (sealT q c) q.now c.next 0) (allT_c (beq_self_eq_true _) (allT_c (beq_self_eq_true _) (allT_c rfl (allT_c o2' (allT_c o1' (allT_c hd0 (allT_c ho rfl)))))))) rfl rfl rfl rfl
   | cons l1 l2 =>
    cases so with
    | nil =>
     have o1':=(oSe_ok (k:=k) (x:=.ptr 6 0) (y:=.ptr 7 0) (zo:=.nilSlice) (sl:=.nilSlice) (slm:=(slQ 8 (qL (l1::l2)))) (ex:=[]) (t:=t) (c:=c) (st:=q.C) (now:=q.now) (z:=q.s))
     rw [hv] at o1'
     have o2':=(oSd_ok (k:=k) (x:=.ptr 6 0) (y:=.ptr 7 0) (zo:=.nilSlice) (sl:=.nilSlice) (m:=8) (q:=qL (l1::l2)) (ex:=[]) (t:=sealN q.now q.s t) (c:=c) (st:=q.C) (now:=q.now) (z:=q.s) rfl)
     rw [hvd] at o2'
     exact runG_ofR (nn:=mask 11) (F:=200) (fr:=16) gl [536] (ansR_of csT_ps (w11na k (.ptr 6 0) (.ptr 7 0) .nilSlice (slQ 8 (qL (l1::l2))) t (sealN q.now q.s t) c (sealDN q.now q.s c) q.d q.wh q.n q.a q.s (sealT q c) q.now c.next 0) (allT_c (beq_self_eq_true _) (allT_c (beq_self_eq_true _) (allT_c rfl (allT_c o2' (allT_c o1' (allT_c hd0 (allT_c ho rfl)))))))) rfl rfl rfl rfl
    | cons o1 o2 =>
     have o1':=(oSe_ok (k:=k) (x:=.ptr 6 0) (y:=.ptr 7 0) (zo:=(slS 9 (o1::o2))) (sl:=.nilSlice) (slm:=(slQ 8 (qL (l1::l2)))) (ex:=[]) (t:=t) (c:=c) (st:=q.C) (now:=q.now) (z:=q.s))
     rw [hv] at o1'
     have o2':=(oSd_ok (k:=k) (x:=.ptr 6 0) (y:=.ptr 7 0) (zo:=(slS 9 (o1::o2))) (sl:=.nilSlice) (m:=8) (q:=qL (l1::l2)) (ex:=[]) (t:=sealN q.now q.s t) (c:=c) (st:=q.C) (now:=q.now) (z:=q.s) rfl)
     rw [hvd] at o2'
     exact runG_ofR (nn:=mask 11) (F:=200) (fr:=16) gl [536] (ansR_of csT_ps (w11na k (.ptr 6 0) (.ptr 7 0) (slS 9 (o1::o2)) (slQ 8 (qL (l1::l2))) t (sealN q.now q.s t) c (sealDN q.now q.s c) q.d q.wh q.n q.a q.s (sealT q c) q.now c.next 0) (allT_c (beq_self_eq_true _) (allT_c (beq_self_eq_true _) (allT_c rfl (allT_c o2' (allT_c o1' (allT_c hd0 (allT_c ho rfl)))))))) rfl rfl rfl rfl
  | cons k1 k2 =>
   cases L with
   | nil =>
    cases so with
    | nil =>
     have o1':=(oSe_ok (k:=k) (x:=.ptr 6 0) (y:=.ptr 7 0) (zo:=.nilSlice) (sl:=(.slice 8 0 (k1::k2).length 2)) (slm:=(slQ 9 (qL []))) (ex:=[(8,.cells false (snC (k1::k2)))]) (t:=t) (c:=c) (st:=q.C) (now:=q.now) (z:=q.s))
     rw [hv] at o1'
     have o2':=(oSd_ok (k:=k) (x:=.ptr 6 0) (y:=.ptr 7 0) (zo:=.nilSlice) (sl:=(.slice 8 0 (k1::k2).length 2)) (m:=9) (q:=qL []) (ex:=[(8,.cells false (snC (k1::k2)))]) (t:=sealN q.now q.s t) (c:=c) (st:=q.C) (now:=q.now) (z:=q.s) rfl)
     rw [hvd] at o2'
     have r:=ansR_of csT_ps (w11ma k (.ptr 6 0) (.ptr 7 0) .nilSlice (slQ 9 (qL [])) (k1::k2) t (sealN q.now q.s t) c (sealDN q.now q.s c) q.d q.wh q.n q.a q.s (sealT q c) q.now c.next 0) (allT_c (beq_self_eq_true _) (allT_c (beq_self_eq_true _) (allT_c (appS_ok _ _ hl) (allT_c rfl (allT_c o2' (allT_c o1' (allT_c hd0 (allT_c ho rfl))))))))
     rw [snC_app] at r
     have hk:(k1::k2).length+1=((k1::k2)++[(c.next,sealT q c)]).length:=by simp
     rw [hk] at r
     exact runG_ofR (nn:=mask 11) (F:=200) (fr:=16) gl [536] r rfl rfl rfl rfl
    | cons o1 o2 =>
     have o1':=(oSe_ok (k:=k) (x:=.ptr 6 0) (y:=.ptr 7 0) (zo:=(slS 9 (o1::o2))) (sl:=(.slice 8 0 (k1::k2).length 2)) (slm:=(slQ 9 (qL []))) (ex:=[(8,.cells false (snC (k1::k2)))]) (t:=t) (c:=c) (st:=q.C) (now:=q.now) (z:=q.s))
     rw [hv] at o1'
     have o2':=(oSd_ok (k:=k) (x:=.ptr 6 0) (y:=.ptr 7 0) (zo:=(slS 9 (o1::o2))) (sl:=(.slice 8 0 (k1::k2).length 2)) (m:=9) (q:=qL []) (ex:=[(8,.cells false (snC (k1::k2)))]) (t:=sealN q.now q.s t) (c:=c) (st:=q.C) (now:=q.now) (z:=q.s) rfl)
     rw [hvd] at o2'
     have r:=ansR_of csT_ps (w11ma k (.ptr 6 0) (.ptr 7 0) (slS 9 (o1::o2)) (slQ 9 (qL [])) (k1::k2) t (sealN q.now q.s t) c (sealDN q.now q.s c) q.d q.wh q.n q.a q.s (sealT q c) q.now c.next 0) (allT_c (beq_self_eq_true _) (allT_c (beq_self_eq_true _) (allT_c (appS_ok _ _ hl) (allT_c rfl (allT_c o2' (allT_c o1' (allT_c hd0 (allT_c ho rfl))))))))
     rw [snC_app] at r
     have hk:(k1::k2).length+1=((k1::k2)++[(c.next,sealT q c)]).length:=by simp
     rw [hk] at r
     exact runG_ofR (nn:=mask 11) (F:=200) (fr:=16) gl [536] r rfl rfl rfl rfl
   | cons l1 l2 =>
    cases so with
    | nil =>
     have o1':=(oSe_ok (k:=k) (x:=.ptr 6 0) (y:=.ptr 7 0) (zo:=.nilSlice) (sl:=(.slice 8 0 (k1::k2).length 2)) (slm:=(slQ 9 (qL (l1::l2)))) (ex:=[(8,.cells false (snC (k1::k2)))]) (t:=t) (c:=c) (st:=q.C) (now:=q.now) (z:=q.s))
     rw [hv] at o1'
     have o2':=(oSd_ok (k:=k) (x:=.ptr 6 0) (y:=.ptr 7 0) (zo:=.nilSlice) (sl:=(.slice 8 0 (k1::k2).length 2)) (m:=9) (q:=qL (l1::l2)) (ex:=[(8,.cells false (snC (k1::k2)))]) (t:=sealN q.now q.s t) (c:=c) (st:=q.C) (now:=q.now) (z:=q.s) rfl)
     rw [hvd] at o2'
     have r:=ansR_of csT_ps (w11ma k (.ptr 6 0) (.ptr 7 0) .nilSlice (slQ 9 (qL (l1::l2))) (k1::k2) t (sealN q.now q.s t) c (sealDN q.now q.s c) q.d q.wh q.n q.a q.s (sealT q c) q.now c.next 0) (allT_c (beq_self_eq_true _) (allT_c (beq_self_eq_true _) (allT_c (appS_ok _ _ hl) (allT_c rfl (allT_c o2' (allT_c o1' (allT_c hd0 (allT_c ho rfl))))))))
     rw [snC_app] at r
     have hk:(k1::k2).length+1=((k1::k2)++[(c.next,sealT q c)]).length:=by simp
     rw [hk] at r
     exact runG_ofR (nn:=mask 11) (F:=200) (fr:=16) gl [536] r rfl rfl rfl rfl
    | cons o1 o2 =>
     have o1':=(oSe_ok (k:=k) (x:=.ptr 6 0) (y:=.ptr 7 0) (zo:=(slS 10 (o1::o2))) (sl:=(.slice 8 0 (k1::k2).length 2)) (slm:=(slQ 9 (qL (l1::l2)))) (ex:=[(8,.cells false (snC (k1::k2)))]) (t:=t) (c:=c) (st:=q.C) (now:=q.now) (z:=q.s))
     rw [hv] at o1'
     have o2':=(oSd_ok (k:=k) (x:=.ptr 6 0) (y:=.ptr 7 0) (zo:=(slS 10 (o1::o2))) (sl:=(.slice 8 0 (k1::k2).length 2)) (m:=9) (q:=qL (l1::l2)) (ex:=[(8,.cells false (snC (k1::k2)))]) (t:=sealN q.now q.s t) (c:=c) (st:=q.C) (now:=q.now) (z:=q.s) rfl)
     rw [hvd] at o2'
     have r:=ansR_of csT_ps (w11ma k (.ptr 6 0) (.ptr 7 0) (slS 10 (o1::o2)) (slQ 9 (qL (l1::l2))) (k1::k2) t (sealN q.now q.s t) c (sealDN q.now q.s c) q.d q.wh q.n q.a q.s (sealT q c) q.now c.next 0) (allT_c (beq_self_eq_true _) (allT_c (beq_self_eq_true _) (allT_c (appS_ok _ _ hl) (allT_c rfl (allT_c o2' (allT_c o1' (allT_c hd0 (allT_c ho rfl))))))))
     rw [snC_app] at r
     have hk:(k1::k2).length+1=((k1::k2)++[(c.next,sealT q c)]).length:=by simp
     rw [hk] at r
     exact runG_ofR (nn:=mask 11) (F:=200) (fr:=16) gl [536] r rfl rfl rfl rfl
 | false =>
  have hS:sealS q ⟨t,c,L,sk,so⟩=⟨t,c,L,sk,so,false,sealN q.now q.s t,sealDN q.now q.s c,L,sk⟩:=by unfold sealS; simp only [hg,cond_false]
  rw [hS]
  have hvd:=sealDV_f hg
  rw [hvd] at hv
  cases sk with
  | nil =>
   cases L with
   | nil =>
    cases so with
    | nil =>
     have o1':=(oSe_ok (k:=k) (x:=.ptr 6 0) (y:=.ptr 7 0) (zo:=.nilSlice) (sl:=.nilSlice) (slm:=(slQ 8 (qL []))) (ex:=[]) (t:=t) (c:=c) (st:=q.C) (now:=q.now) (z:=q.s))
     rw [hv] at o1'
     have o2':=(oSd_ok (k:=k) (x:=.ptr 6 0) (y:=.ptr 7 0) (zo:=.nilSlice) (sl:=.nilSlice) (m:=8) (q:=qL []) (ex:=[]) (t:=sealN q.now q.s t) (c:=c) (st:=q.C) (now:=q.now) (z:=q.s) rfl)
     rw [hvd] at o2'
     have r:=ansR_of csT_ps (w11nb k (.ptr 6 0) (.ptr 7 0) .nilSlice (slQ 8 (qL [])) t (sealN q.now q.s t) c (sealDN q.now q.s c) q.d q.wh q.n q.a q.s [] q.now 0 (sealDE q.now q.s c)) (allT_c (beq_self_eq_true _) (allT_c (beq_self_eq_true _) (allT_c (sealDE_ne hg) (allT_c o2' (allT_c o1' (allT_c hd0 (allT_c ho rfl)))))))
     rw [beq_self_eq_true] at r
     exact runG_ofR (nn:=mask 11) (F:=200) (fr:=16) gl [536] r rfl rfl rfl rfl
    | cons o1 o2 =>
     have o1':=(oSe_ok (k:=k) (x:=.ptr 6 0) (y:=.ptr 7 0) (zo:=(slS 8 (o1::o2))) (sl:=.nilSlice) (slm:=(slQ 8 (qL []))) (ex:=[]) (t:=t) (c:=c) (st:=q.C) (now:=q.now) (z:=q.s))
     rw [hv] at o1'
     have o2':=(oSd_ok (k:=k) (x:=.ptr 6 0) (y:=.ptr 7 0) (zo:=(slS 8 (o1::o2))) (sl:=.nilSlice) (m:=8) (q:=qL []) (ex:=[]) (t:=sealN q.now q.s t) (c:=c) (st:=q.C) (now:=q.now) (z:=q.s) rfl)
     rw [hvd] at o2'
     have r:=ansR_of csT_ps (w11nb k (.ptr 6 0) (.ptr 7 0) (slS 8 (o1::o2)) (slQ 8 (qL [])) t (sealN q.now q.s t) c (sealDN q.now q.s c) q.d q.wh q.n q.a q.s [] q.now 0 (sealDE q.now q.s c)) (allT_c (beq_self_eq_true _) (allT_c (beq_self_eq_true _) (allT_c (sealDE_ne hg) (allT_c o2' (allT_c o1' (allT_c hd0 (allT_c ho rfl)))))))
     rw [beq_self_eq_true] at r
     exact runG_ofR (nn:=mask 11) (F:=200) (fr:=16) gl [536] r rfl rfl rfl rfl
   | cons l1 l2 =>
    cases so with
    | nil =>
     have o1':=(oSe_ok (k:=k) (x:=.ptr 6 0) (y:=.ptr 7 0) (zo:=.nilSlice) (sl:=.nilSlice) (slm:=(slQ 8 (qL (l1::l2)))) (ex:=[]) (t:=t) (c:=c) (st:=q.C) (now:=q.now) (z:=q.s))
     rw [hv] at o1'
     have o2':=(oSd_ok (k:=k) (x:=.ptr 6 0) (y:=.ptr 7 0) (zo:=.nilSlice) (sl:=.nilSlice) (m:=8) (q:=qL (l1::l2)) (ex:=[]) (t:=sealN q.now q.s t) (c:=c) (st:=q.C) (now:=q.now) (z:=q.s) rfl)
     rw [hvd] at o2'
     have r:=ansR_of csT_ps (w11nb k (.ptr 6 0) (.ptr 7 0) .nilSlice (slQ 8 (qL (l1::l2))) t (sealN q.now q.s t) c (sealDN q.now q.s c) q.d q.wh q.n q.a q.s [] q.now 0 (sealDE q.now q.s c)) (allT_c (beq_self_eq_true _) (allT_c (beq_self_eq_true _) (allT_c (sealDE_ne hg) (allT_c o2' (allT_c o1' (allT_c hd0 (allT_c ho rfl)))))))
     rw [beq_self_eq_true] at r
     exact runG_ofR (nn:=mask 11) (F:=200) (fr:=16) gl [536] r rfl rfl rfl rfl
    | cons o1 o2 =>
     have o1':=(oSe_ok (k:=k) (x:=.ptr 6 0) (y:=.ptr 7 0) (zo:=(slS 9 (o1::o2))) (sl:=.nilSlice) (slm:=(slQ 8 (qL (l1::l2)))) (ex:=[]) (t:=t) (c:=c) (st:=q.C) (now:=q.now) (z:=q.s))
     rw [hv] at o1'
     have o2':=(oSd_ok (k:=k) (x:=.ptr 6 0) (y:=.ptr 7 0) (zo:=(slS 9 (o1::o2))) (sl:=.nilSlice) (m:=8) (q:=qL (l1::l2)) (ex:=[]) (t:=sealN q.now q.s t) (c:=c) (st:=q.C) (now:=q.now) (z:=q.s) rfl)
     rw [hvd] at o2'
     have r:=ansR_of csT_ps (w11nb k (.ptr 6 0) (.ptr 7 0) (slS 9 (o1::o2)) (slQ 8 (qL (l1::l2))) t (sealN q.now q.s t) c (sealDN q.now q.s c) q.d q.wh q.n q.a q.s [] q.now 0 (sealDE q.now q.s c)) (allT_c (beq_self_eq_true _) (allT_c (beq_self_eq_true _) (allT_c (sealDE_ne hg) (allT_c o2' (allT_c o1' (allT_c hd0 (allT_c ho rfl)))))))
     rw [beq_self_eq_true] at r
     exact runG_ofR (nn:=mask 11) (F:=200) (fr:=16) gl [536] r rfl rfl rfl rfl
  | cons k1 k2 =>
   cases L with
   | nil =>
    cases so with
    | nil =>
     have o1':=(oSe_ok (k:=k) (x:=.ptr 6 0) (y:=.ptr 7 0) (zo:=.nilSlice) (sl:=(.slice 8 0 (k1::k2).length 2)) (slm:=(slQ 9 (qL []))) (ex:=[(8,.cells false (snC (k1::k2)))]) (t:=t) (c:=c) (st:=q.C) (now:=q.now) (z:=q.s))
     rw [hv] at o1'
     have o2':=(oSd_ok (k:=k) (x:=.ptr 6 0) (y:=.ptr 7 0) (zo:=.nilSlice) (sl:=(.slice 8 0 (k1::k2).length 2)) (m:=9) (q:=qL []) (ex:=[(8,.cells false (snC (k1::k2)))]) (t:=sealN q.now q.s t) (c:=c) (st:=q.C) (now:=q.now) (z:=q.s) rfl)
     rw [hvd] at o2'
     have r:=ansR_of csT_ps (w11mb k (.ptr 6 0) (.ptr 7 0) .nilSlice (slQ 9 (qL [])) (k1::k2) t (sealN q.now q.s t) c (sealDN q.now q.s c) q.d q.wh q.n q.a q.s [] q.now 0 (sealDE q.now q.s c)) (allT_c (beq_self_eq_true _) (allT_c (beq_self_eq_true _) (allT_c (sealDE_ne hg) (allT_c o2' (allT_c o1' (allT_c hd0 (allT_c ho rfl)))))))
     rw [beq_self_eq_true] at r
     exact runG_ofR (nn:=mask 11) (F:=200) (fr:=16) gl [536] r rfl rfl rfl rfl
    | cons o1 o2 =>
     have o1':=(oSe_ok (k:=k) (x:=.ptr 6 0) (y:=.ptr 7 0) (zo:=(slS 9 (o1::o2))) (sl:=(.slice 8 0 (k1::k2).length 2)) (slm:=(slQ 9 (qL []))) (ex:=[(8,.cells false (snC (k1::k2)))]) (t:=t) (c:=c) (st:=q.C) (now:=q.now) (z:=q.s))
     rw [hv] at o1'
     have o2':=(oSd_ok (k:=k) (x:=.ptr 6 0) (y:=.ptr 7 0) (zo:=(slS 9 (o1::o2))) (sl:=(.slice 8 0 (k1::k2).length 2)) (m:=9) (q:=qL []) (ex:=[(8,.cells false (snC (k1::k2)))]) (t:=sealN q.now q.s t) (c:=c) (st:=q.C) (now:=q.now) (z:=q.s) rfl)
     rw [hvd] at o2'
     have r:=ansR_of csT_ps (w11mb k (.ptr 6 0) (.ptr 7 0) (slS 9 (o1::o2)) (slQ 9 (qL [])) (k1::k2) t (sealN q.now q.s t) c (sealDN q.now q.s c) q.d q.wh q.n q.a q.s [] q.now 0 (sealDE q.now q.s c)) (allT_c (beq_self_eq_true _) (allT_c (beq_self_eq_true _) (allT_c (sealDE_ne hg) (allT_c o2' (allT_c o1' (allT_c hd0 (allT_c ho rfl)))))))
     rw [beq_self_eq_true] at r
     exact runG_ofR (nn:=mask 11) (F:=200) (fr:=16) gl [536] r rfl rfl rfl rfl
   | cons l1 l2 =>
    cases so with
    | nil =>
     have o1':=(oSe_ok (k:=k) (x:=.ptr 6 0) (y:=.ptr 7 0) (zo:=.nilSlice) (sl:=(.slice 8 0 (k1::k2).length 2)) (slm:=(slQ 9 (qL (l1::l2)))) (ex:=[(8,.cells false (snC (k1::k2)))]) (t:=t) (c:=c) (st:=q.C) (now:=q.now) (z:=q.s))
     rw [hv] at o1'
     have o2':=(oSd_ok (k:=k) (x:=.ptr 6 0) (y:=.ptr 7 0) (zo:=.nilSlice) (sl:=(.slice 8 0 (k1::k2).length 2)) (m:=9) (q:=qL (l1::l2)) (ex:=[(8,.cells false (snC (k1::k2)))]) (t:=sealN q.now q.s t) (c:=c) (st:=q.C) (now:=q.now) (z:=q.s) rfl)
     rw [hvd] at o2'
     have r:=ansR_of csT_ps (w11mb k (.ptr 6 0) (.ptr 7 0) .nilSlice (slQ 9 (qL (l1::l2))) (k1::k2) t (sealN q.now q.s t) c (sealDN q.now q.s c) q.d q.wh q.n q.a q.s [] q.now 0 (sealDE q.now q.s c)) (allT_c (beq_self_eq_true _) (allT_c (beq_self_eq_true _) (allT_c (sealDE_ne hg) (allT_c o2' (allT_c o1' (allT_c hd0 (allT_c ho rfl)))))))
     rw [beq_self_eq_true] at r
     exact runG_ofR (nn:=mask 11) (F:=200) (fr:=16) gl [536] r rfl rfl rfl rfl
    | cons o1 o2 =>
     have o1':=(oSe_ok (k:=k) (x:=.ptr 6 0) (y:=.ptr 7 0) (zo:=(slS 10 (o1::o2))) (sl:=(.slice 8 0 (k1::k2).length 2)) (slm:=(slQ 9 (qL (l1::l2)))) (ex:=[(8,.cells false (snC (k1::k2)))]) (t:=t) (c:=c) (st:=q.C) (now:=q.now) (z:=q.s))
     rw [hv] at o1'
     have o2':=(oSd_ok (k:=k) (x:=.ptr 6 0) (y:=.ptr 7 0) (zo:=(slS 10 (o1::o2))) (sl:=(.slice 8 0 (k1::k2).length 2)) (m:=9) (q:=qL (l1::l2)) (ex:=[(8,.cells false (snC (k1::k2)))]) (t:=sealN q.now q.s t) (c:=c) (st:=q.C) (now:=q.now) (z:=q.s) rfl)
     rw [hvd] at o2'
     have r:=ansR_of csT_ps (w11mb k (.ptr 6 0) (.ptr 7 0) (slS 10 (o1::o2)) (slQ 9 (qL (l1::l2))) (k1::k2) t (sealN q.now q.s t) c (sealDN q.now q.s c) q.d q.wh q.n q.a q.s [] q.now 0 (sealDE q.now q.s c)) (allT_c (beq_self_eq_true _) (allT_c (beq_self_eq_true _) (allT_c (sealDE_ne hg) (allT_c o2' (allT_c o1' (allT_c hd0 (allT_c ho rfl)))))))
     rw [beq_self_eq_true] at r
     exact runG_ofR (nn:=mask 11) (F:=200) (fr:=16) gl [536] r rfl rfl rfl rfl
theorem run_wipe {k:Bool}{q:Stp}{t:Tn}{c:Dc}{L:List UInt64}{sk so:SL}(hd:q.d=5) (ha:AtK q k):RunG Try.prog csT 11 (VA k q false) (wipeS ⟨t,c,L,sk,so⟩):=by
 have ho:=atO_ok ha
 have d1:(!(q.d == 0))=true:=by rw [hd]; rfl
 have d2:(!(q.d == 4))=true:=by rw [hd]; rfl
 have d3:(q.d == 5)=true:=by rw [hd]; rfl
 cases sk with
 | nil =>
  cases L with
  | nil =>
   cases so with
   | nil =>
    exact runG_ofR (nn:=mask 11) (F:=200) (fr:=16) gl [536] (ansR_of csT_ps (w11w k (.ptr 6 0) (.ptr 7 0) .nilSlice .nilSlice (slQ 8 (qL [])) t (wipeT t) c q.d q.wh q.n q.a q.s q.now) (allT_c oWi_ok (allT_c d3 (allT_c d2 (allT_c d1 (allT_c ho rfl)))))) rfl rfl rfl rfl
   | cons o1 o2 =>
    exact runG_ofR (nn:=mask 11) (F:=200) (fr:=16) gl [536] (ansR_of csT_ps (w11w k (.ptr 6 0) (.ptr 7 0) (slS 8 (o1::o2)) .nilSlice (slQ 8 (qL [])) t (wipeT t) c q.d q.wh q.n q.a q.s q.now) (allT_c oWi_ok (allT_c d3 (allT_c d2 (allT_c d1 (allT_c ho rfl)))))) rfl rfl rfl rfl
  | cons l1 l2 =>
   cases so with
   | nil =>
    exact runG_ofR (nn:=mask 11) (F:=200) (fr:=16) gl [536] (ansR_of csT_ps (w11w k (.ptr 6 0) (.ptr 7 0) .nilSlice .nilSlice (slQ 8 (qL (l1::l2))) t (wipeT t) c q.d q.wh q.n q.a q.s q.now) (allT_c oWi_ok (allT_c d3 (allT_c d2 (allT_c d1 (allT_c ho rfl)))))) rfl rfl rfl rfl
   | cons o1 o2 =>
    exact runG_ofR (nn:=mask 11) (F:=200) (fr:=16) gl [536] (ansR_of csT_ps (w11w k (.ptr 6 0) (.ptr 7 0) (slS 9 (o1::o2)) .nilSlice (slQ 8 (qL (l1::l2))) t (wipeT t) c q.d q.wh q.n q.a q.s q.now) (allT_c oWi_ok (allT_c d3 (allT_c d2 (allT_c d1 (allT_c ho rfl)))))) rfl rfl rfl rfl
 | cons k1 k2 =>
  cases L with
  | nil =>
   cases so with
   | nil =>
    exact runG_ofR (nn:=mask 11) (F:=200) (fr:=16) gl [536] (ansR_of csT_ps (w11w k (.ptr 6 0) (.ptr 7 0) .nilSlice (slS 8 (k1::k2)) (slQ 9 (qL [])) t (wipeT t) c q.d q.wh q.n q.a q.s q.now) (allT_c oWi_ok (allT_c d3 (allT_c d2 (allT_c d1 (allT_c ho rfl)))))) rfl rfl rfl rfl
   | cons o1 o2 =>
    exact runG_ofR (nn:=mask 11) (F:=200) (fr:=16) gl [536] (ansR_of csT_ps (w11w k (.ptr 6 0) (.ptr 7 0) (slS 9 (o1::o2)) (slS 8 (k1::k2)) (slQ 9 (qL [])) t (wipeT t) c q.d q.wh q.n q.a q.s q.now) (allT_c oWi_ok (allT_c d3 (allT_c d2 (allT_c d1 (allT_c ho rfl)))))) rfl rfl rfl rfl
  | cons l1 l2 =>
   cases so with
   | nil =>
    exact runG_ofR (nn:=mask 11) (F:=200) (fr:=16) gl [536] (ansR_of csT_ps (w11w k (.ptr 6 0) (.ptr 7 0) .nilSlice (slS 8 (k1::k2)) (slQ 9 (qL (l1::l2))) t (wipeT t) c q.d q.wh q.n q.a q.s q.now) (allT_c oWi_ok (allT_c d3 (allT_c d2 (allT_c d1 (allT_c ho rfl)))))) rfl rfl rfl rfl
   | cons o1 o2 =>
    exact runG_ofR (nn:=mask 11) (F:=200) (fr:=16) gl [536] (ansR_of csT_ps (w11w k (.ptr 6 0) (.ptr 7 0) (slS 10 (o1::o2)) (slS 8 (k1::k2)) (slQ 9 (qL (l1::l2))) t (wipeT t) c q.d q.wh q.n q.a q.s q.now) (allT_c oWi_ok (allT_c d3 (allT_c d2 (allT_c d1 (allT_c ho rfl)))))) rfl rfl rfl rfl
theorem run_rest {k:Bool}{q:Stp}{t:Tn}{c:Dc}{L:List UInt64}{sk so:SL}(hd:q.d=4) (ha:AtK q k):RunG Try.prog csT 11 (VA k q false) (restS ⟨t,c,L,sk,so⟩):=by
 have ho:=atO_ok ha
 have d1:(!(q.d == 0))=true:=by rw [hd]; rfl
 have d2:(q.d == 4)=true:=by rw [hd]; rfl
 cases sk with
 | nil =>
  cases L with
  | nil =>
   cases so with
   | nil =>
    exact runG_ofR (nn:=mask 11) (F:=200) (fr:=16) gl [536] (ansR_of csT_ps (w11f k (.ptr 6 0) (.ptr 7 0) .nilSlice .nilSlice (slQ 8 (qL [])) t c q.d q.wh q.n q.a q.s q.now) (allT_c d2 (allT_c d1 (allT_c ho rfl)))) rfl rfl rfl rfl
   | cons o1 o2 =>
    exact runG_ofR (nn:=mask 11) (F:=200) (fr:=16) gl [536] (ansR_of csT_ps (w11f k (.ptr 6 0) (.ptr 7 0) (slS 8 (o1::o2)) .nilSlice (slQ 8 (qL [])) t c q.d q.wh q.n q.a q.s q.now) (allT_c d2 (allT_c d1 (allT_c ho rfl)))) rfl rfl rfl rfl
  | cons l1 l2 =>
   cases so with
   | nil =>
    exact runG_ofR (nn:=mask 11) (F:=200) (fr:=16) gl [536] (ansR_of csT_ps (w11f k (.ptr 6 0) (.ptr 7 0) .nilSlice .nilSlice (slQ 8 (qL (l1::l2))) t c q.d q.wh q.n q.a q.s q.now) (allT_c d2 (allT_c d1 (allT_c ho rfl)))) rfl rfl rfl rfl
   | cons o1 o2 =>
    exact runG_ofR (nn:=mask 11) (F:=200) (fr:=16) gl [536] (ansR_of csT_ps (w11f k (.ptr 6 0) (.ptr 7 0) (slS 9 (o1::o2)) .nilSlice (slQ 8 (qL (l1::l2))) t c q.d q.wh q.n q.a q.s q.now) (allT_c d2 (allT_c d1 (allT_c ho rfl)))) rfl rfl rfl rfl
 | cons k1 k2 =>
  cases L with
  | nil =>
   cases so with
   | nil =>
    exact runG_ofR (nn:=mask 11) (F:=200) (fr:=16) gl [536] (ansR_of csT_ps (w11f k (.ptr 6 0) (.ptr 7 0) .nilSlice (slS 8 (k1::k2)) (slQ 9 (qL [])) t c q.d q.wh q.n q.a q.s q.now) (allT_c d2 (allT_c d1 (allT_c ho rfl)))) rfl rfl rfl rfl
   | cons o1 o2 =>
    exact runG_ofR (nn:=mask 11) (F:=200) (fr:=16) gl [536] (ansR_of csT_ps (w11f k (.ptr 6 0) (.ptr 7 0) (slS 9 (o1::o2)) (slS 8 (k1::k2)) (slQ 9 (qL [])) t c q.d q.wh q.n q.a q.s q.now) (allT_c d2 (allT_c d1 (allT_c ho rfl)))) rfl rfl rfl rfl
  | cons l1 l2 =>
   cases so with
   | nil =>
    exact runG_ofR (nn:=mask 11) (F:=200) (fr:=16) gl [536] (ansR_of csT_ps (w11f k (.ptr 6 0) (.ptr 7 0) .nilSlice (slS 8 (k1::k2)) (slQ 9 (qL (l1::l2))) t c q.d q.wh q.n q.a q.s q.now) (allT_c d2 (allT_c d1 (allT_c ho rfl)))) rfl rfl rfl rfl
   | cons o1 o2 =>
    exact runG_ofR (nn:=mask 11) (F:=200) (fr:=16) gl [536] (ansR_of csT_ps (w11f k (.ptr 6 0) (.ptr 7 0) (slS 10 (o1::o2)) (slS 8 (k1::k2)) (slQ 9 (qL (l1::l2))) t c q.d q.wh q.n q.a q.s q.now) (allT_c d2 (allT_c d1 (allT_c ho rfl)))) rfl rfl rfl rfl
end Go.Proofs.Ytjdhndicgifnbaa.Tun
namespace Go.Proofs.Ytjdhndicgifnbaa.Tun
open Go Go.Eng Go.Proofs.Ytjdhndicgifnbaa
theorem bI_nat (x:Int):∃ m:Nat,bI x=(m:Int):=by
 refine ⟨BitVec.toNat ((BitVec.ofInt (IntKind.bits .i64) x) &&& (BitVec.ofInt (IntKind.bits .i64) 65535)),?_⟩
 unfold bI
 have h:BitVec.toNat ((BitVec.ofInt (IntKind.bits .i64) x) &&& (BitVec.ofInt (IntKind.bits .i64) 65535))≤65535:=by
  rw [BitVec.toNat_and]
  exact Nat.le_trans Nat.and_le_right (by decide)
 exact wrap_small (by omega) (by omega)
def idxI (x:Int) (len:Nat):Nat:=(Int.tmod (bI x) (len:Int)).toNat
theorem idxI_lt {x:Int}{len:Nat}(h:0 < len):idxI x len < len∧rmO x len (idxI x len)=true:=by
 obtain ⟨m,hm⟩:=bI_nat x
 have e:Int.tmod (bI x) (len:Int)=((m % len:Nat):Int):=by
  rw [hm,Int.tmod_eq_emod_of_nonneg (by omega)]
  rfl
 unfold idxI rmO
 rw [e]
 refine ⟨?_,?_⟩
 ·rw [Int.toNat_natCast]; exact Nat.mod_lt _ h
 ·rw [Int.toNat_natCast]; simp [eqS]
theorem inO_ok {i n:Nat}(h:i < n):inO i n=true:=inI h
theorem snC_drop:∀ (so:SL) (i:Nat) (x:UInt64 × List UInt8),so[i]? = some x→((snC so).drop (i * 2)).take 2=[.u64 x.1,.str x.2]∧i * 2+2≤(snC so).length
 | [],i,x,h=>by simp at h
 | a::l,0,x,h=>by
  simp at h
  subst h
  refine ⟨rfl,?_⟩
  show 0 * 2+2≤(.u64 a.1::.str a.2::snC l).length
  simp
 | a::l,i+1,x,h=>by
  obtain ⟨h1,h2⟩:=snC_drop l i x (by simpa using h)
  have e:snC (a::l)=.u64 a.1::.str a.2::snC l:=rfl
  rw [e,show (i+1) * 2=i * 2+2 by omega]
  refine ⟨?_,by simp only [List.length_cons]; omega⟩
  rw [← h1]
  rfl
theorem rowO_ok {so:SL}{i:Nat}{x:UInt64 × List UInt8}(h:so[i]? = some x):rowO so i x.1 x.2=true:=by
 obtain ⟨h1,h2⟩:=snC_drop so i x h
 unfold rowO isAtL
 rw [Int.toNat_natCast,Nat.zero_add]
 have e1:Nat.ble (i * 2+[AVal.u64 x.1,.str x.2].length) (snC so).length=true:=Nat.ble_eq_true_of_le h2
 have e2:((snC so).drop (i * 2)).take [AVal.u64 x.1,.str x.2].length=[.u64 x.1,.str x.2]:=h1
 rw [e1,e2]
 simp [eqL,eqS]
theorem strAt_map' (L:List UInt8):strAt (L.map .u8) 0 L.length L=true:=by
 unfold strAt
 rw [List.drop_zero,List.take_of_length_le (by simp)]
 have:bytesA (L.map .u8)=some L:=by
  induction L with
  | nil=>rfl
  | cons a l ih=>rw [List.map_cons]; unfold bytesA; rw [ih]
 rw [this]
 simp
def turnL (c1:List UInt8) (j:Nat):List UInt8:=c1.set j (c1.getD j 0+1)
theorem turC_eq {c1:List UInt8}{j:Nat}(h:j < c1.length):turC c1 j (c1.getD j 0)=(turnL c1 j).map .u8:=by
 unfold turC turnL
 exact putA_u8 c1 h _
theorem isAt_u8' {c1:List UInt8}{j:Nat}(h:j < c1.length):isAt (c1.map .u8) (0+(Int.toNat (j:Int)) * 1) (.u8 (c1.getD j 0))=true:=by
 refine isAt_of (v:=.u8 (c1.getD j 0)) ?_ (by simp [eqS])
 rw [Int.toNat_natCast,show 0+j * 1=j by omega,List.getElem?_map,List.getD_eq_getElem?_getD,List.getElem?_eq_getElem h]
 rfl
end Go.Proofs.Ytjdhndicgifnbaa.Tun
