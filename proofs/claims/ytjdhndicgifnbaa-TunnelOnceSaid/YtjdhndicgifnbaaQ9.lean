/- Texts TAPv6, TAPq1, TAPq2, TAe0, TAe1, TAe2, TAe3, TAe4, TAe5, TACi7, TAe6, TAe7, Tt1, Tt2, Tt3, Tt4, Tt5, Tt6: what they show that this claim uses. -/
import Derived.Test.YtjdhndicgifnbaaQ8
import Derived.Test.YtjdhndicgifnbaaQ5
import Derived.Test.YtjdhndicgifnbaaQ7
set_option maxRecDepth 100000
set_option maxHeartbeats 1000000
set_option linter.unusedVariables false
set_option linter.unusedSimpArgs false
namespace Go.Proofs.Ytjdhndicgifnbaa.Pol
open Go Go.Eng Go.Poly
def pN (p:List UInt8) (i:Nat):Nat:=if i=p.length then 1 else if i < p.length then (p.getD i 0).toNat else 0
def rN (kf:Nat→UInt8) (i:Nat):Nat:=if i < 16 then (mk kf i).toNat else 0
theorem A5_n {h x:Nat→UInt64}(hh:∀ i,i < 5→nt h i < 67108869) (hx:∀ i,i < 5→nt x i < 67108864):∀ k,k≤5→∀ i,i < 5→nt (A5 h x k) i=if i < k then nt h i+nt x i else nt h i
 | 0,_,i,_=>by rw [if_neg (by omega)]; rfl
 | k+1,hk,i,hi=>by
  have ih:=A5_n hh hx k (by omega)
  show nt (updF (A5 h x k) k (A5 h x k k+x k)) i=_
  rw [nt_updF]
  have e:=ih k (by omega)
  rw [if_neg (by omega)] at e
  have e':(A5 h x k k).toNat=nt h k:=e
  have h1:=hh k (by omega)
  have h2:=hx k (by omega)
  by_cases c:i=k
  ·subst c
   rw [if_pos rfl,if_pos (by omega),add_n (by rw [e']; unfold nt at *; omega),e']; rfl
  ·rw [if_neg c,ih i hi]
   by_cases d:i < k
   ·rw [if_pos d,if_pos (by omega)]
   ·rw [if_neg d,if_neg (by omega)]
theorem beq_d (a b:Nat):Nat.beq a b=decide (a=b):=by
 cases h:Nat.beq a b with
 | true=>rw [decide_eq_true (Nat.eq_of_beq_eq_true h)]
 | false=>rw [decide_eq_false fun e=>by subst e; simp [Nat.beq_refl] at h]
theorem blt_d (a b:Nat):Nat.blt a b=decide (a < b):=by
 cases h:Nat.blt a b with
 | true=>exact (decide_eq_true (show a < b from Nat.le_of_ble_eq_true h)).symm
 | false=>rw [decide_eq_false fun e=>by rw [show Nat.blt a b=true from Nat.ble_eq_true_of_le e] at h; cases h]
theorem ble_d (a b:Nat):Nat.ble a b=decide (a≤b):=by
 cases h:Nat.ble a b with
 | true=>rw [decide_eq_true (Nat.le_of_ble_eq_true h)]
 | false=>rw [decide_eq_false fun e=>by rw [Nat.ble_eq_true_of_le e] at h; cases h]
theorem pK_gB {s:List UInt8}{k:Nat}(hk:k < nC s) (i:Nat):gB (((s.map AVal.u8).drop (16 * k)).take (mC s k)) i=(pK s k).getD i 0:=by
 have e:((s.map AVal.u8).drop (16 * k)).take (mC s k)=(pK s k).map AVal.u8:=by
  unfold pK
  rw [List.drop_take,List.map_take,List.map_drop,Nat.add_sub_cancel_left]
 rw [e,gB_map]
theorem xK_n {s:List UInt8}{k:Nat}(hk:k < nC s):(∀ i,nt (xK θr s k) i < 67108864)∧V5 (xK θr s k)=vN 256 (pN (pK s k)) 17:=by
 obtain ⟨h1,h2,h3,h4⟩:=mC_bnd hk
 have hpl:=pK_len hk
 obtain ⟨a,b⟩:=ofN_ok (gB (((s.map AVal.u8).drop (16 * k)).take (mC s k))) (m:=mC s k) (n:=mC s k) h4
 refine ⟨a,?_⟩
 show V5 (ofN _ _ _ 17)=_
 rw [b]
 refine vN_congr fun i hi => ?_
 unfold bN pN bt
 rw [pK_gB hk,beq_d,blt_d,blt_d,hpl,decide_eq_true h3]
 simp only [Bool.true_and]
 by_cases c:i=mC s k
 ·rw [if_pos c,decide_eq_true c]; rfl
 ·rw [if_neg c,decide_eq_false c,cond_false]
  by_cases d:i < mC s k
  ·rw [if_pos d,decide_eq_true d,cond_true,UInt8.toNat_toUInt64]
  ·rw [if_neg d,decide_eq_false d]; rfl
theorem rK_n (kf:Nat→UInt8):(∀ i,nt (rK θr kf) i < 67108864)∧V5 (rK θr kf)=vN 256 (rN kf) 16:=by
 obtain ⟨a,b⟩:=ofN_ok (gB (cellsB 16 (mk kf))) (m:=16) (n:=0) (by omega)
 refine ⟨a,?_⟩
 show V5 (ofN (gB (cellsB 16 (mk kf))) 16 0 17)=_
 rw [b]
 have h16:bN (gB (cellsB 16 (mk kf))) 16 0 16=0:=rfl
 show vN 256 _ 16+bN (gB (cellsB 16 (mk kf))) 16 0 16 * 256 ^ 16=_
 rw [h16,Nat.zero_mul,Nat.add_zero]
 refine vN_congr fun i hi => ?_
 unfold bN rN bt
 rw [gB_cellsB,blt_d,blt_d,if_pos hi,decide_eq_true hi]
 show ((nB 16 (mk kf) i).toUInt64).toNat=_
 rw [UInt8.toNat_toUInt64]
 unfold nB
 rw [if_pos hi]
theorem stepK_ok {kf:Nat→UInt8}{h x:Nat→UInt64}(hh:N5 (nt h)) (hx:∀ i,i < 5→nt x i < 67108864):N5 (nt (stepK θr kf h x))∧V5 (stepK θr kf h x) % Pp=(V5 h+V5 x) * V5 (rK θr kf) % Pp:=by
 have hA:=A5_n (N5_lt hh) hx 5 (by omega)
 have hA5:∀ i,i < 5→nt (nU 5 (A5 h x 5)) i=nt h i+nt x i:=fun i hi=>by rw [nt_nU _ _ i hi,hA i hi,if_pos hi]
 have hl:∀ i,i < 5→nt (nU 5 (A5 h x 5)) i < M62:=fun i hi=>by
  rw [hA5 i hi]
  have:=N5_lt hh i hi
  have:=hx i hi
  unfold M62
  omega
 obtain ⟨c1,c2,_⟩:=carF_ok hl
 have d1:∀ i,i < 5→nt (nU 5 (carF (nU 5 (A5 h x 5)))) i < 134217728:=fun i hi=>by
  rw [nt_nU _ _ i hi]
  have:=N5_lt c1 i hi
  omega
 have d2:∀ i,i < 5→nt (nU 5 (rK θr kf)) i < 134217728:=fun i hi=>by
  rw [nt_nU _ _ i hi]
  have:=(rK_n kf).1 i
  omega
 obtain ⟨e1,e2⟩:=mulF_ok d1 d2
 have e:stepK θr kf h x=mulF (nU 5 (carF (nU 5 (A5 h x 5)))) (nU 5 (rK θr kf)):=by
  unfold stepK
  rw [gU_cellsU,gU_cellsU,gU_cellsU]; rfl
 rw [e]
 refine ⟨e1,?_⟩
 rw [e2,V5_nU,V5_nU]
 refine mod_mul ?_ rfl
 rw [c2]
 have:V5 (nU 5 (A5 h x 5))=V5 h+V5 x:=by
  unfold V5
  rw [← vN_add]
  exact vN_congr hA5
 rw [this]
theorem mk8_n (kf:Nat→UInt8) (i:Nat):nt (mk8 kf) i=rN kf i:=by
 unfold nt mk8 rN mk
 rw [ble_d]
 by_cases h:i < 16
 ·rw [if_pos h,decide_eq_false (by omega),cond_false]
  cases (Nat.beq i 3 || (Nat.beq i 7 || (Nat.beq i 11 || Nat.beq i 15))) with
  | true =>
   simp only [cond_true]
   rw [UInt64.toNat_and,UInt8.toNat_and,UInt8.toNat_toUInt64]; rfl
  | false =>
   simp only [cond_false]
   cases (Nat.beq i 4 || (Nat.beq i 8 || Nat.beq i 12)) with
   | true =>
    simp only [cond_true]
    rw [UInt64.toNat_and,UInt8.toNat_and,UInt8.toNat_toUInt64]; rfl
   | false =>
    simp only [cond_false]
    rw [UInt8.toNat_toUInt64]
 ·rw [if_neg h,decide_eq_true (by omega)]; rfl
theorem rN_lt (kf:Nat→UInt8) (i:Nat):rN kf i < 256:=by
 unfold rN
 split
 ·exact (mk kf i).toNat_lt
 ·omega
theorem vN_18z {t:Nat→Nat}(h16:t 16=0) (h17:t 17=0):vN 256 t 18=vN 256 t 16:=by
 rw [vN_18,h16,h17]
 generalize 256 ^ 16=p
 generalize 256 ^ 17=q
 omega
theorem rN_high (kf:Nat→UInt8){i:Nat}(h:16≤i):rN kf i=0:=by unfold rN; rw [if_neg (by omega)]
theorem lt_130 {v:Nat}(h:v < 256 ^ 16):v < 2 ^ 130:=by omega
theorem V18_mk8 (kf:Nat→UInt8):C18 (nt (mk8 kf))∧V18 (mk8 kf)=vN 256 (rN kf) 16:=by
 have e:V18 (mk8 kf)=vN 256 (rN kf) 16:=by
  unfold V18
  rw [vN_congr (x:=nt (mk8 kf)) (y:=rN kf) fun i _=>mk8_n kf i,vN_18z (rN_high kf (by omega)) (rN_high kf (by omega))]
 refine ⟨⟨fun i _=>by rw [mk8_n]; exact rN_lt kf i,?_⟩,e⟩
 show V18 (mk8 kf) < 2 ^ 130
 rw [e]
 exact lt_130 (vN_lt (b:=256) (by omega) (x:=rN kf) (n:=16) fun i _=>rN_lt kf i)
theorem B8_n {h:Nat→UInt64}{p:List UInt8}(hh:∀ i,nt h i < 256 ∨ 18≤i):∀ k,k≤17→∀ i,nt (B8 h p k) i=if i < k then nt h i+(p.getD i 0).toNat else nt h i
 | 0,_,i=>by rw [if_neg (by omega)]; rfl
 | k+1,hk,i=>by
  have ih:=B8_n (p:=p) hh k (by omega)
  show nt (updF (B8 h p k) k (B8 h p k k+(p.getD k 0).toUInt64)) i=_
  rw [nt_updF]
  have e:=ih k
  rw [if_neg (by omega)] at e
  have e':(B8 h p k k).toNat=nt h k:=e
  have h1:nt h k < 256:=by
   rcases hh k with h1 | h1
   ·exact h1
   ·omega
  have h2:=(p.getD k 0).toNat_lt
  by_cases c:i=k
  ·subst c
   rw [if_pos rfl,if_pos (by omega),add_n (by rw [e',UInt8.toNat_toUInt64]; omega),e',UInt8.toNat_toUInt64]
  ·rw [if_neg c,ih i]
   by_cases d:i < k
   ·rw [if_pos d,if_pos (by omega)]
   ·rw [if_neg d,if_neg (by omega)]
theorem oneD_n {h:Nat→UInt64}{p:List UInt8}(hC:C18 (nt h)) (hp:p.length≤16):(∀ i,i < 18→nt (oneD h p) i≤4096)∧V18 (oneD h p)=V18 h+vN 256 (pN p) 17:=by
 have hh:∀ i,nt h i < 256 ∨ 18≤i:=fun i=>by
  by_cases c:i < 18
  ·exact .inl (hC.1 i c)
  ·exact .inr (by omega)
 have hB:=B8_n (p:=p) hh p.length (by omega)
 have e:∀ i,i < 18→nt (oneD h p) i=nt h i+pN p i:=fun i hi=>by
  unfold oneD
  rw [nt_updF]
  unfold pN
  have hl:=hC.1 i hi
  by_cases c:i=p.length
  ·rw [if_pos c,if_pos c]
   have e2:=hB p.length
   rw [if_neg (by omega)] at e2
   have e3:(B8 h p p.length p.length).toNat=nt h p.length:=e2
   have e1:(1:UInt64).toNat=1:=rfl
   rw [add_n (by rw [e3,e1,← c]; omega),e3,e1,c]
  ·rw [if_neg c,if_neg c,hB i]
   by_cases d:i < p.length
   ·rw [if_pos d,if_pos d]
   ·rw [if_neg d,if_neg d,Nat.add_zero]
 refine ⟨fun i hi => ?_,?_⟩
 ·rw [e i hi]
  have:=hC.1 i hi
  have h2:=(p.getD i 0).toNat_lt
  unfold pN
  split
  ·omega
  ·split <;> omega
 ·unfold V18
  rw [vN_congr e,vN_add]
  congr 1
  have h17:pN p 17=0:=by unfold pN; rw [if_neg (by omega),if_neg (by omega)]
  rw [vN_18b,h17,Nat.zero_mul,Nat.add_zero]
theorem stepD_ok {kf:Nat→UInt8}{h:Nat→UInt64}{p:List UInt8}(hh:C18 (nt h)) (hp:p.length≤16):C18 (nt (stepD θr kf h p))∧V18 (stepD θr kf h p) % Pp=(V18 h+vN 256 (pN p) 17) * vN 256 (rN kf) 16 % Pp:=by
 obtain ⟨a1,a2⟩:=oneD_n hh hp
 have b1:∀ i,i < 18→nt (nU 18 (oneD h p)) i≤4096:=fun i hi=>by rw [nt_nU _ _ i hi]; exact a1 i hi
 obtain ⟨c1,c2⟩:=carR_ok b1
 obtain ⟨r1,r2⟩:=V18_mk8 kf
 have d1:C18 (nt (nU 18 (carR (nU 18 (oneD h p))))):=C18_congr (nt_nU _ 18) c1
 have d2:C18 (nt (nU 18 (mk8 kf))):=C18_congr (nt_nU _ 18) r1
 obtain ⟨e1,e2⟩:=mulRF_ok d1 d2
 have e:stepD θr kf h p=mulRF (nU 18 (carR (nU 18 (oneD h p)))) (nU 18 (mk8 kf)):=by
  unfold stepD
  rw [gU_cellsU,gU_cellsU,gU_cellsU]; rfl
 rw [e]
 refine ⟨e1,?_⟩
 rw [e2,V18_nU,V18_nU,r2]
 refine mod_mul ?_ rfl
 rw [c2,V18_nU,a2]
theorem both_h (kf:Nat→UInt8) (s:List UInt8):∀ k,k≤nC s→N5 (nt (hK θr kf s k))∧C18 (nt (hD θr kf s k))∧V5 (hK θr kf s k) % Pp=V18 (hD θr kf s k) % Pp
 | 0,_=>by
  have z5:∀ i,nt (hK θr kf s 0) i=0:=fun i=>rfl
  have z18:∀ i,nt (hD θr kf s 0) i=0:=fun i=>rfl
  have v18:vN 256 (nt (hD θr kf s 0)) 18=0:=vN_zero 256 fun i _=>z18 i
  have v5:vN B26 (nt (hK θr kf s 0)) 5=0:=vN_zero B26 fun i _=>z5 i
  refine ⟨⟨by rw [z5]; omega,fun i _ _=>by rw [z5]; unfold B26; omega⟩,⟨fun i _=>by rw [z18]; omega,by rw [v18]; omega⟩,?_⟩
  unfold V5 V18
  rw [v18,v5]
 | k+1,hk=>by
  obtain ⟨h1,h2,h3⟩:=both_h kf s k (by omega)
  have hkN:k < nC s:=by omega
  obtain ⟨x1,x2⟩:=xK_n hkN
  have hp:=pK_len hkN
  have hm:=(mC_bnd hkN).2.2.2
  obtain ⟨a1,a2⟩:=stepK_ok (kf:=kf) h1 fun i _=>x1 i
  obtain ⟨b1,b2⟩:=stepD_ok (kf:=kf) (p:=pK s k) h2 (by omega)
  refine ⟨a1,b1,?_⟩
  show V5 (stepK θr kf (hK θr kf s k) (xK θr s k)) % Pp=V18 (stepD θr kf (hD θr kf s k) (pK s k)) % Pp
  rw [a2,b2,x2,(rK_n kf).2]
  exact mod_mul (mod_add h3 rfl) rfl
def endD (kf:Nat→UInt8) (s:List UInt8):Nat→UInt64:=wholeF (gU (cellsU 18 (hD θr kf s (nC s))))
theorem both_end (kf:Nat→UInt8) (s:List UInt8):∀ i,i < 16→(xw (endK θr kf s) i &&& 255)=endD kf s i:=fun i hi=>by
 obtain ⟨h1,h2,h3⟩:=both_h kf s (nC s) (Nat.le_refl _)
 have a0:∀ i,i < 5→nt (nU 5 (hK θr kf s (nC s))) i < M62:=fun i hi=>by rw [nt_nU _ _ i hi]; exact N5_62 h1 i hi
 obtain ⟨a1,a2⟩:=redF_ok a0
 have b0:∀ i,i < 18→nt (nU 18 (hD θr kf s (nC s))) i≤4096:=fun i hi=>by rw [nt_nU _ _ i hi]; have:=h2.1 i hi; omega
 obtain ⟨b1,b2⟩:=wholeF_ok b0
 have e1:endK θr kf s=redF (nU 5 (hK θr kf s (nC s))):=by unfold endK; rw [gU_cellsU]; rfl
 have e2:endD kf s=wholeF (nU 18 (hD θr kf s (nC s))):=by unfold endD; rw [gU_cellsU]
 have e3:V5 (endK θr kf s)=V18 (endD kf s):=by rw [e1,e2,a2,b2,V5_nU,V18_nU,h3]
 apply UInt64.toNat_inj.1
 rw [← e1] at a1
 rw [← e2] at b1
 rw [xw_n a1 i hi,e3]
 exact vN_digit (b:=256) (by omega) (x:=nt (endD kf s)) (n:=18) b1.1 (by omega)
theorem c1_d1 (kf:Nat→UInt8) (s:List UInt8) (c:UInt64){i:Nat}(hi:i < 16):c1 (endK θr kf s) kf c i=d1 (endD kf s) kf c i:=by
 unfold c1 d1
 rw [both_end kf s i hi,UInt64.add_comm]
theorem cN_dN (kf:Nat→UInt8) (s:List UInt8):∀ i,i≤16→cN (endK θr kf s) kf i=dN (endD kf s) kf i
 | 0,_=>rfl
 | i+1,h=>by
  show shr_u64 (c1 _ kf _ i) 8=shr_u64 (d1 _ kf _ i) 8
  rw [cN_dN kf s i (by omega),c1_d1 kf s _ (by omega)]
theorem tN_uN (kf:Nat→UInt8) (s:List UInt8):∀ i,i≤16→tN (endK θr kf s) kf i=uN (endD kf s) kf i
 | 0,_=>rfl
 | i+1,h=>by
  show updF _ i (c1 _ kf _ i).toUInt8=updF _ i (d1 _ kf _ i).toUInt8
  rw [tN_uN kf s i (by omega),cN_dN kf s i (by omega),c1_d1 kf s _ (by omega)]
theorem tag_eq (kf:Nat→UInt8) (s:List UInt8):tagF θr kf s=docF θr kf s:=by
 show (List.range 16).map (tN (endK θr kf s) kf 16)=(List.range 16).map (uN (endD kf s) kf 16)
 rw [tN_uN kf s 16 (Nat.le_refl _)]
end Go.Proofs.Ytjdhndicgifnbaa.Pol
namespace Go.Proofs.Ytjdhndicgifnbaa.Pol
open Go Go.Eng
noncomputable def p9:List Code:=pieces (bodyOf Try.f65)
noncomputable def L9:Code:=loopOf (p9.getD 3 .skip)
def T9 (a b:List UInt8) (x:UInt8) (m i:Nat):TL:=[(0,.str a),(1,.str b),(4,.bool false),(5,.u8 x),(11,.int .i64 (m:Int)),(12,.int .i64 (i:Int))]
def S9 (a b:List UInt8) (x:UInt8) (m i:Nat):SA:=⟨T9 a b x m i,[],64⟩
section
variable (a b:List UInt8) (x x0:UInt8) (m i j F:Nat)
theorem p9_3:(pieces (bodyOf Try.f65))[3]? = some (.block 0 (.loop L9)):=by kernel_rfl
theorem w9a:segO (evSO Try.prog noPS noCS [200011] Try.f65.ntmps (mask 65) (F+100) 0 ((pieces (bodyOf Try.f65)).take 3) ⟨startT [.str a,.str b] 0,[],0⟩ ⟨[],[.int .i64 (m:Int)],[]⟩)=some (S9 a b 0 m 0,[eqS (.int .i64 (if (b.length:Int) < (a.length:Int) then (b.length:Int) else (a.length:Int))) (.int .i64 (m:Int))]):=by kernel_rfl
theorem w9r:roundO2 Try.prog noPS noCS [13,18,21,200012] [true] [.int .i64 (j:Int)] Try.f65.ntmps (mask 65) F 0 L9 (S9 a b x0 m 0) (S9 a b x m i)=some (S9 a b (x ||| (a.getD (i:Int).toNat 0 ^^^ b.getD (i:Int).toNat 0)) m j,[eqS (.int .i64 (IntKind.wrap .i64 ((i:Int)+1))) (.int .i64 (j:Int)),decide (0≤(i:Int)) && decide ((i:Int) < (b.length:Int)),decide (0≤(i:Int)) && decide ((i:Int) < (a.length:Int)),decide ((i:Int) < (m:Int))]):=by kernel_rfl
theorem w9x:evSO Try.prog noPS noCS [13] Try.f65.ntmps (mask 65) F 0 [L9] (S9 a b x m i) ⟨[false],[],[]⟩=some (.exit 0,⟨T9 a b x m i++[(13,.bool false)],[],72⟩,⟨[],[],[!(decide ((i:Int) < (m:Int)))]⟩):=by kernel_rfl
theorem w9t:ansF Try.prog Try.f65 (evSO Try.prog noPS noCS [26] Try.f65.ntmps (mask 65) F 0 ((pieces (bodyOf Try.f65)).drop 4) ⟨T9 a b x m i++[(13,.bool false)],[],72⟩ ⟨[true],[],[]⟩)=some (.bool ((a.length:Int) == (b.length:Int)),[x == 0]):=by kernel_rfl
theorem w9f:ansF Try.prog Try.f65 (evSO Try.prog noPS noCS [26] Try.f65.ntmps (mask 65) F 0 ((pieces (bodyOf Try.f65)).drop 4) ⟨T9 a b x m i++[(13,.bool false)],[],72⟩ ⟨[false],[],[]⟩)=some (.bool false,[!(x == 0)]):=by kernel_rfl
theorem ok9:okS Try.prog (S9 a b x m i)=true:=by kernel_rfl
end
def xr (a b:List UInt8):Nat→UInt8
 | 0=>0
 | i+1=>xr a b i ||| (a.getD i 0 ^^^ b.getD i 0)
theorem or_z {x y:UInt8}:(x ||| y)=0 ↔ x=0∧y=0:=by
 constructor
 ·intro h
  have h1:=congrArg UInt8.toNat h
  rw [UInt8.toNat_or] at h1
  have h2:x.toNat ||| y.toNat=0:=h1
  exact ⟨UInt8.toNat_inj.1 (Nat.or_eq_zero_iff.1 h2).1,UInt8.toNat_inj.1 (Nat.or_eq_zero_iff.1 h2).2⟩
 ·rintro ⟨rfl,rfl⟩; rfl
theorem xor_z {x y:UInt8}:(x ^^^ y)=0 ↔ x=y:=UInt8.xor_eq_zero_iff
theorem xr_z (a b:List UInt8):∀ n,xr a b n=0 ↔ ∀ i,i < n→a.getD i 0=b.getD i 0
 | 0=>⟨fun _ i h=>by omega,fun _=>rfl⟩
 | n+1=>by
  show (xr a b n ||| _)=0 ↔ _
  rw [or_z,xr_z a b n,xor_z]
  constructor
  ·rintro ⟨h1,h2⟩ i hi
   by_cases e:i=n
   ·subst e; exact h2
   ·exact h1 i (by omega)
  ·intro h
   exact ⟨fun i hi=>h i (by omega),h n (by omega)⟩
theorem same_val (a b:List UInt8):(cond (xr a b (min a.length b.length) == 0) ((a.length:Int) == (b.length:Int)) false)=(a == b):=by
 by_cases hl:a.length=b.length
 ·have e:((a.length:Int) == (b.length:Int))=true:=by rw [hl]; simp
  rw [e]
  have hm:min a.length b.length=a.length:=by omega
  by_cases hx:xr a b (min a.length b.length)=0
  ·have:a=b:=by
    apply List.ext_getElem hl
    intro i h1 h2
    have:=(xr_z a b _).1 hx i (by omega)
    rw [List.getD_eq_getElem?_getD,List.getD_eq_getElem?_getD,List.getElem?_eq_getElem h1,List.getElem?_eq_getElem h2] at this
    exact this
   rw [hx,this]; simp
  ·have:a ≠ b:=by
    intro h
    subst h
    exact hx ((xr_z a a _).2 fun i _=>rfl)
   have e1:(xr a b (min a.length b.length) == 0)=false:=by simp [hx]
   have e2:(a == b)=false:=by simp [this]
   rw [e1,e2]; rfl
 ·have:a ≠ b:=fun h=>hl (by rw [h])
  have e:((a.length:Int) == (b.length:Int))=false:=by simp; omega
  have e2:(a == b)=false:=by simp [this]
  rw [e,e2]
  cases (xr a b (min a.length b.length) == 0) <;> rfl
theorem run9 (a b:List UInt8) (hs:a.length < 1000000000000):(run1 Try.prog noCS (mask 65) (a.length+100+100) 65 [.str a,.str b] [] Try.prog.globals.size).map (·.1)=some (.bool (a == b)):=by
 rw [gl]
 obtain ⟨m,hm⟩:∃ m,m=min a.length b.length:=⟨_,rfl⟩
 have hp:=segO_pre (noPS_ok _) (w9a a b m (a.length+100)) (by
  have:eqS (.int .i64 (if (b.length:Int) < (a.length:Int) then (b.length:Int) else (a.length:Int))) (.int .i64 (m:Int))=true:=eqI (by split <;> omega)
  simp only [allT,this,cond_true])
 have hr:∀ i,i < m→roundA (evC Try.prog noCS Try.f65.ntmps (mask 65) (a.length+100+100) 0 L9) (headA Try.prog 0 (S9 a b (xr a b 0) m 0)) (S9 a b (xr a b i) m i)=some (S9 a b (xr a b (i+1)) m (i+1)):=fun i hi=>by
  have q:=w9r a b (xr a b i) 0 m i (i+1) (a.length+100+100)
  rw [Int.toNat_natCast] at q
  refine roundO2_ok (noPS_ok _) q ?_ (ok9 ..)
  have o1:eqS (.int .i64 (IntKind.wrap .i64 ((i:Int)+1))) (.int .i64 ((i+1:Nat):Int))=true:=eqS_i64 (by rw [wrapI _ (by omega) (by omega)]; omega)
  have o2:(decide (0≤(i:Int)) && decide ((i:Int) < (b.length:Int)))=true:=by simp only [Bool.and_eq_true,decide_eq_true_eq]; omega
  have o3:(decide (0≤(i:Int)) && decide ((i:Int) < (a.length:Int)))=true:=by simp only [Bool.and_eq_true,decide_eq_true_eq]; omega
  have o4:decide ((i:Int) < (m:Int))=true:=decide_eq_true (by omega)
  simp only [allT,o1,o2,o3,o4,cond_true]
 have hx:=(evSO_ok (noPS_ok _) _ _ _ _ _ _ (w9x a b (xr a b m) m m (a.length+100+100)) (by simp [allT])).1
 rw [evS_one] at hx
 have hv:=same_val a b
 rw [← hm] at hv
 have ht:finV Try.prog Try.f65 (evS Try.prog noCS Try.f65.ntmps (mask 65) (a.length+100+100) 0 ((pieces (bodyOf Try.f65)).drop 4) ⟨T9 a b (xr a b m) m m++[(13,.bool false)],[],72⟩)=some (.bool (a == b)):=by
  cases hc:(xr a b m == 0) <;> rw [hc] at hv <;> simp only [cond_true,cond_false] at hv <;> rw [← hv]
  ·exact (ansF_ok2 (noPS_ok _) (w9f a b (xr a b m) m m _) (by rw [hc]; rfl)).1
  ·exact (ansF_ok2 (noPS_ok _) (w9t a b (xr a b m) m m _) (by rw [hc]; rfl)).1
 exact run_loop (fn:=Try.f65) (c:=bodyOf Try.f65) (by kernel_rfl) (by kernel_rfl) (by kernel_rfl) 3 p9_3 (fun i=>S9 a b (xr a b i) m i) m hp hr hx (by omega) ht
theorem call9 (a b:List UInt8) (hs:a.length < 1000000000000):CallOk Try.prog 65 [.str a,.str b] (.pure (.bool (a == b))):=callOk_val (noCS_ok _) hmix (run9 a b hs) rfl rfl
end Go.Proofs.Ytjdhndicgifnbaa.Pol
namespace Go.Proofs.Ytjdhndicgifnbaa.Pol
open Go Go.Eng Go.Poly
def kfOf (k:List UInt8) (i:Nat):UInt8:=k.getD i 0
theorem keyL_of {k:List UInt8}(h:k.length=32):keyL (kfOf k)=k:=by
 unfold keyL
 apply List.ext_getElem
 ·simp [h]
 ·intro i h1 h2
  rw [List.getElem_map,List.getElem_range]
  unfold kfOf
  rw [List.getD_eq_getElem?_getD,List.getElem?_eq_getElem h2]; rfl
def tvR (k s:List UInt8):List UInt8:=cond (Nat.beq k.length 32) (tagF θr (kfOf k) s) []
def trR (k:List UInt8):Int:=cond (Nat.beq k.length 32) 0 2
def shR (s:List UInt8):Bool:=Nat.ble s.length 1000000
def smR (a b:List UInt8):Bool:=a == b
structure Fz where
 tv:List UInt8→List UInt8→List UInt8
 tr:List UInt8→Int
 sm:List UInt8→List UInt8→Bool
 sh:List UInt8→Bool
theorem call7 (k s:List UInt8) (h:shR s=true):CallOk Try.prog 77 [.str k,.str s] (.pure (.tup [.str (tvR k s),.int .i64 (trR k)])):=by
 have hs:=Nat.le_of_ble_eq_true h
 unfold tvR trR
 by_cases hk:k.length=32
 ·rw [hk,show Nat.beq 32 32=true by rfl,cond_true,cond_true]
  have:=callOk7 nq_ok (kfOf k) s (by omega)
  rw [keyL_of hk] at this
  exact this
 ·have hb:Nat.beq k.length 32=false:=by rw [beq_d,decide_eq_false hk]
  rw [hb,cond_false,cond_false]
  refine callOk_val nq_ok hmix (ansO_run (noPS_ok _) (run7n θr k s) ?_) rfl rfl
  have:((k.length:Int) != 32)=true:=by simp only [bne_iff_ne,ne_eq]; omega
  simp only [allT,this,cond_true]
theorem call8 (k s:List UInt8) (h:shR s=true):CallOk Try.prog 80 [.str k,.str s] (.pure (.tup [.str (tvR k s),.int .i64 (trR k)])):=by
 have hs:=Nat.le_of_ble_eq_true h
 unfold tvR trR
 by_cases hk:k.length=32
 ·rw [hk,show Nat.beq 32 32=true by rfl,cond_true,cond_true]
  have:=callOk8 nq_ok (kfOf k) s (by omega)
  rw [keyL_of hk,← tag_eq] at this
  exact this
 ·have hb:Nat.beq k.length 32=false:=by rw [beq_d,decide_eq_false hk]
  rw [hb,cond_false,cond_false]
  refine callOk_val nq_ok hmix (ansO_run (noPS_ok _) (run8n θr k s) ?_) rfl rfl
  have:((k.length:Int) != 32)=true:=by simp only [bne_iff_ne,ne_eq]; omega
  simp only [allT,this,cond_true]
theorem tag_len (kf:Nat→UInt8) (s:List UInt8):(tagF θr kf s).length=16:=by unfold tagF; simp
end Go.Proofs.Ytjdhndicgifnbaa.Pol
namespace Go.Proofs.Ytjdhndicgifnbaa.Ae
open Go Go.Eng Go.Proofs.Ytjdhndicgifnbaa
abbrev mask:=Pol.mask
theorem hmix:Try.prog.follows .mixedOrders=true:=Pol.hmix
theorem gl:Try.prog.globals.size=0:=Pol.gl
def two (off:Nat):AObj→Option AVal
 | .cells _ c=>match c[off]?,c[off+1]? with
  | some (.str a),some (.str b)=>cond (Nat.ble a.length 200000 && Nat.ble b.length 200000) (some (.str (Bld.padT a b))) none
  | _,_=>none
def g25:List AVal→Option EffA
 | [.slice n off 2 1]=>some (.read n (two off))
 | _=>none
theorem g25_ok:CSOk Try.prog (csOne 78 g25):=csOne_ok fun args e he=>by
 unfold g25 at he
 split at he
 ·rename_i n off
  cases he
  intro σ args' H w base v H' hl hg hH happ hfree
  simp only [EffA.app] at happ
  cases hn:aget H n with
  | none=>rw [hn] at happ; cases happ
  | some ob =>
   rw [hn] at happ
   simp only at happ
   cases hv:two off ob with
   | none=>rw [hv] at happ; cases happ
   | some u =>
    rw [hv] at happ
    simp only [Option.some.injEq,Prod.mk.injEq] at happ
    obtain ⟨rfl,rfl⟩:=happ
    obtain ⟨ro,c⟩:=ob
    unfold two at hv
    simp only at hv
    split at hv
    ·rename_i a b h0 h1
     cases hb:(Nat.ble a.length 200000 && Nat.ble b.length 200000) <;> rw [hb] at hv <;> simp only [cond_true,cond_false] at hv
     ·cases hv
     ·cases hv
      rw [Bool.and_eq_true] at hb
      obtain ⟨x,rfl,hx⟩:=LR.inv1 hl
      cases hx with
      | @slice _ _ _ _ p o cap hp ho hc hs =>
       have hoo:o=p.sh+off:=by
        rcases ho with h | h
        ·cases h
        ·exact h
       subst hoo
       obtain ⟨q,hq,hor⟩:=hH.obj n _ hn
       rw [hp] at hq
       cases hq
       obtain ⟨c',t,fz,e1,e2,e3,_⟩:=hor
       obtain ⟨u0,i0,r0⟩:=e3 off _ h0
       obtain ⟨u1,i1,r1⟩:=e3 (off+1) _ h1
       cases r0
       cases r1
       have hlt:p.blk < w.heap.size:=(Array.getElem?_eq_some_iff.1 e1).1
       have sz:∀ l:List UInt8,(⟨l.toArray⟩:ByteArray).size=l.length:=fun l=>by show l.toArray.size=_; simp
       refine (Bld.padded_calls ⟨a.toArray⟩ ⟨b.toArray⟩ (by rw [sz]; exact Nat.le_of_ble_eq_true hb.1) (by rw [sz]; exact Nat.le_of_ble_eq_true hb.2) p.blk (p.sh+off) cap w (by rw [cell_at e1]; exact i0) (by rw [cell_at e1]; exact i1) hlt).mono fun r w' ⟨hr,hf⟩ => ?_
       have keep:∀ b,b < w.heap.size→w'.heap[b]? = w.heap[b]?:=fun b hb=>hf.block b hb (by intro e; cases e)
       refine ⟨σ,_,hr,?_,⟨fun m o hm => ?_,hH.inj⟩,⟨Sig.le_refl σ,hf.size,hf.os,hf.output,hf.tape,fun b hb hno=>⟨keep b hb,hno⟩⟩,Only.refl _ _⟩
       ·have e:(⟨a.toArray⟩:ByteArray).data.toList=a:=by simp
        have e':(⟨b.toArray⟩:ByteArray).data.toList=b:=by simp
        rw [e,e']
        exact .str _
       ·obtain ⟨q,hq,ho⟩:=hH.obj m o hm
        exact ⟨q,hq,ho.mono (Sig.le_refl σ) (keep _ ho.lt)⟩
    ·cases hv
 ·cases he
theorem run20 (n:UInt64):(run1 Try.prog noCS (mask 72) 100 72 [.u64 n] [] Try.prog.globals.size).map (·.1)=some (.str (Bld.eightL n)):=by kernel_rfl
def g8 (e:UInt64→List UInt8):List AVal→Option EffA
 | [.u64 n]=>some (.pure (.str (e n)))
 | _=>none
theorem g19_ok:CSOk Try.prog (csOne 62 (g8 Bld.eightL)):=csOne_ok fun args e he=>by
 unfold g8 at he
 split at he
 ·cases he; exact callOk_val (noCS_ok _) hmix (Bld.run19 _) rfl rfl
 ·cases he
theorem g20_ok:CSOk Try.prog (csOne 72 (g8 Bld.eightL)):=csOne_ok fun args e he=>by
 unfold g8 at he
 split at he
 ·cases he; exact callOk_val (noCS_ok _) hmix (run20 _) rfl rfl
 ·cases he
end Go.Proofs.Ytjdhndicgifnbaa.Ae
namespace Go.Proofs.Ytjdhndicgifnbaa.Ae
open Go Go.Eng Go.Proofs.Ytjdhndicgifnbaa
structure Fl where
 may:List UInt8→List UInt8→Bool
 tv:List UInt8→List UInt8→UInt32→List UInt8→List UInt8
 tr:List UInt8→List UInt8→UInt32→List UInt8→Int
 bv:List UInt8→List UInt8→UInt32→List UInt8
 br:List UInt8→List UInt8→Int
 pg:List UInt8→List UInt8→List UInt8
 pr:List UInt8→Int
 sm:List UInt8→List UInt8→Bool
 sh:List UInt8→Bool
 ei:UInt64→List UInt8
def bvR (k n:List UInt8) (c:UInt32):List UInt8:=cond (Cha.may k n) (Cha.blkL Cha.realFb k n c) []
def brR (k n:List UInt8):Int:=cond (Cha.may k n) 0 2
def realFl:Fl:=⟨Cha.may,Cha.tvR,Cha.trR,bvR,brR,Pol.tvR,Pol.trR,Pol.smR,Pol.shR,Bld.eightL⟩
def gMay (φ:Fl):List AVal→Option EffA
 | [.str a,.str b]=>some (.pure (.bool (φ.may a b)))
 | _=>none
def gBlk (φ:Fl):List AVal→Option EffA
 | [.str a,.str b,.u32 c]=>some (.pure (.tup [.str (φ.bv a b c),.int .i64 (φ.br a b)]))
 | _=>none
def pTurn (φ:Fl):List AVal→Option (EffA × Bool)
 | [.str a,.str b,.u32 c,.str s]=>some (.pure (.tup [.str (φ.tv a b c s),.int .i64 (φ.tr a b c s)]),φ.sh s)
 | _=>none
def pBlk (φ:Fl):List AVal→Option (EffA × Bool)
 | [.str a,.str b,.u32 c]=>some (.pure (.str (φ.bv a b c)),φ.may a b)
 | _=>none
def pTag (φ:Fl):List AVal→Option (EffA × Bool)
 | [.str k,.str s]=>some (.pure (.tup [.str (φ.pg k s),.int .i64 (φ.pr k)]),φ.sh s)
 | _=>none
def pSame (φ:Fl):List AVal→Option (EffA × Bool)
 | [.str a,.str b]=>some (.pure (.bool (φ.sm a b)),φ.sh a)
 | _=>none
theorem sh_short {s:List UInt8}(h:Pol.shR s=true):Cha.shortB s=true:=Nat.ble_eq_true_of_le (by have:=Nat.le_of_ble_eq_true h; omega)
theorem may15:CSOk Try.prog (csOne 69 (gMay realFl)):=csOne_ok fun args e he=>by
 unfold gMay at he
 split at he
 ·cases he; exact Cha.k8_ok 69 _ _ rfl
 ·cases he
theorem may21:CSOk Try.prog (csOne 74 (gMay realFl)):=csOne_ok fun args e he=>by
 unfold gMay at he
 split at he
 ·cases he; exact Cha.k12_ok 74 _ _ rfl
 ·cases he
theorem blk23:CSOk Try.prog (csOne 76 (gBlk realFl)):=csOne_ok fun args e he=>by
 unfold gBlk at he
 split at he
 ·rename_i a b c
  cases he
  have hg:=Cha.k7_ok 76 [.str a,.str b,.u32 c] _ rfl
  have e0:Cha.realFb.may a b=Cha.may a b:=rfl
  rw [e0] at hg
  show CallOk Try.prog 76 _ (.pure (.tup [.str (bvR a b c),.int .i64 (brR a b)]))
  unfold bvR brR
  cases hm:Cha.may a b <;> rw [hm] at hg <;> exact hg
 ·cases he
theorem turn13:CSOk Try.prog (csP (psOne 60 (pTurn realFl))):=csP_one fun args v he=>by
 unfold pTurn at he
 split at he
 ·rename_i a b c s
  simp only [Option.some.injEq,Prod.mk.injEq] at he
  obtain ⟨rfl,h⟩:=he
  exact Cha.call10 a b s c (sh_short h)
 ·cases he
theorem turn16:CSOk Try.prog (csP (psOne 70 (pTurn realFl))):=csP_one fun args v he=>by
 unfold pTurn at he
 split at he
 ·rename_i a b c s
  simp only [Option.some.injEq,Prod.mk.injEq] at he
  obtain ⟨rfl,h⟩:=he
  exact Cha.call11 a b s c (sh_short h)
 ·cases he
theorem blk26:CSOk Try.prog (csP (psOne 79 (pBlk realFl))):=csP_one fun args v he=>by
 unfold pBlk at he
 split at he
 ·rename_i a b c
  simp only [Option.some.injEq,Prod.mk.injEq] at he
  obtain ⟨rfl,h⟩:=he
  have hm:Cha.may a b=true:=h
  have hg:=Cha.k9_ok 79 [.str a,.str b,.u32 c] _ (show cond (Cha.may a b) _ _=_ by rw [hm]; rfl)
  show CallOk Try.prog 79 _ (.pure (.str (bvR a b c)))
  unfold bvR
  rw [hm]
  exact hg
 ·cases he
theorem tag24:CSOk Try.prog (csP (psOne 77 (pTag realFl))):=csP_one fun args v he=>by
 unfold pTag at he
 split at he
 ·rename_i k s
  simp only [Option.some.injEq,Prod.mk.injEq] at he
  obtain ⟨rfl,h⟩:=he
  exact Pol.call7 k s h
 ·cases he
theorem tag27:CSOk Try.prog (csP (psOne 80 (pTag realFl))):=csP_one fun args v he=>by
 unfold pTag at he
 split at he
 ·rename_i k s
  simp only [Option.some.injEq,Prod.mk.injEq] at he
  obtain ⟨rfl,h⟩:=he
  exact Pol.call8 k s h
 ·cases he
theorem same18:CSOk Try.prog (csP (psOne 65 (pSame realFl))):=csP_one fun args v he=>by
 unfold pSame at he
 split at he
 ·rename_i a b
  simp only [Option.some.injEq,Prod.mk.injEq] at he
  obtain ⟨rfl,h⟩:=he
  exact Pol.call9 a b (by have:a.length≤1000000:=Nat.le_of_ble_eq_true h; omega)
 ·cases he
def psl (φ:Fl):PS:=psAlt (psOne 60 (pTurn φ)) (psAlt (psOne 70 (pTurn φ)) (psAlt (psOne 79 (pBlk φ)) (psAlt (psOne 77 (pTag φ)) (psAlt (psOne 80 (pTag φ)) (psOne 65 (pSame φ))))))
theorem psl_ok:CSOk Try.prog (csP (psl realFl)):=csP_alt turn13 (csP_alt turn16 (csP_alt blk26 (csP_alt tag24 (csP_alt tag27 same18))))
def chl (φ:Fl):CS:=csAlt (csOne 69 (gMay φ)) (csAlt (csOne 74 (gMay φ)) (csAlt (csOne 76 (gBlk φ)) (csAlt (csOne 78 g25) (csAlt (csOne 62 (g8 φ.ei)) (csOne 72 (g8 φ.ei))))))
theorem chl_ok:CSOk Try.prog (chl realFl):=csAlt_ok may15 (csAlt_ok may21 (csAlt_ok blk23 (csAlt_ok g25_ok (csAlt_ok g19_ok g20_ok))))
def nl (φ:Fl):CS:=csAlt (csP (psl φ)) (chl φ)
theorem nl_ok:CSOk Try.prog (nl realFl):=csAlt_ok psl_ok chl_ok
theorem nl_ps (φ:Fl):PSOk (psl φ) (nl φ):=csP_ok
end Go.Proofs.Ytjdhndicgifnbaa.Ae
namespace Go.Proofs.Ytjdhndicgifnbaa.Ae
open Go Go.Eng Go.Proofs.Ytjdhndicgifnbaa
theorem w28 (s:List UInt8) (m:Nat):ansO (run1O Try.prog noPS noCS [7,8,9,200007] [] [.int .i64 (m:Int),.str (List.replicate m 0)] (mask 81) 100 81 [.str s] [] Try.prog.globals.size)=some (.str (List.replicate m 0),
 [strAt (zrow [.u8 0] ((m:Int).toNat * 1)) 0 (m:Int).toNat (List.replicate m 0),(((decide (0≤(m:Int)) && decide ((m:Int)≤(m:Int))) && decide (((1:Nat):Int) * (m:Int)≤281474976710656)) && decide ((m:Int)≤281474976710656)),eqS (.int .i64 (Int.tmod (IntKind.wrap .i64 (16 - (Int.tmod (s.length:Int) 16))) 16)) (.int .i64 (m:Int)),true]):=by kernel_rfl
theorem pad_val (n:Nat):Int.tmod (IntKind.wrap .i64 (16 - (Int.tmod (n:Int) 16))) 16=(((16 - n % 16) % 16:Nat):Int):=by
 have e:Int.tmod (n:Int) 16=((n % 16:Nat):Int):=(Int.ofNat_tmod n 16).symm
 rw [e,wrapI _ (by omega) (by omega)]
 have e2:(16:Int) - ((n % 16:Nat):Int)=((16 - n % 16:Nat):Int):=by omega
 rw [e2]
 exact (Int.ofNat_tmod (16 - n % 16) 16).symm
theorem bytesA_rep:∀ (m:Nat),bytesA (List.replicate m (.u8 0))=some (List.replicate m 0)
 | 0=>rfl
 | m+1=>by rw [List.replicate_succ,List.replicate_succ,bytesA,bytesA_rep m]
theorem run28 (s:List UInt8):(run1 Try.prog noCS (mask 81) 100 81 [.str s] [] Try.prog.globals.size).map (·.1)=some (.str (Bld.padL s.length)):=by
 have h16:(16 - s.length % 16) % 16 < 16:=Nat.mod_lt _ (by omega)
 have q:=w28 s ((16 - s.length % 16) % 16)
 rw [pad_val] at q
 obtain ⟨m,hm⟩:∃ m,m=(16 - s.length % 16) % 16:=⟨_,rfl⟩
 rw [← hm] at q h16
 have r:=ansO_run (noPS_ok _) q (by
  have o1:strAt (zrow [.u8 0] ((m:Int).toNat * 1)) 0 (m:Int).toNat (List.replicate m 0)=true:=by
   rw [Int.toNat_natCast,Nat.mul_one]
   show strAt (List.replicate m (.u8 0)) 0 m (List.replicate m 0)=true
   unfold strAt
   rw [List.drop_zero,List.length_replicate,List.take_of_length_le (by simp),bytesA_rep]
   simp
  have o2:(((decide (0≤(m:Int)) && decide ((m:Int)≤(m:Int))) && decide (((1:Nat):Int) * (m:Int)≤281474976710656)) && decide ((m:Int)≤281474976710656))=true:=by simp; omega
  have o3:eqS (.int .i64 (m:Int)) (.int .i64 (m:Int))=true:=by simp [eqS]
  simp only [allT,o1,o2,o3,cond_true])
 rw [hm] at r
 exact r
def gPad (f:Nat→List UInt8):List AVal→Option EffA
 | [.str s]=>some (.pure (.str (f s.length)))
 | _=>none
theorem pad28:CSOk Try.prog (csOne 81 (gPad Bld.padL)):=csOne_ok fun args e he=>by
 unfold gPad at he
 split at he
 ·cases he; exact callOk_val (noCS_ok _) hmix (run28 _) rfl rfl
 ·cases he
def nm (φ:Fl) (f:Nat→List UInt8):CS:=csAlt (csP (psl φ)) (csAlt (csOne 81 (gPad f)) (chl φ))
theorem nm_ok:CSOk Try.prog (nm realFl Bld.padL):=csAlt_ok psl_ok (csAlt_ok pad28 chl_ok)
theorem nm_ps (φ:Fl) (f:Nat→List UInt8):PSOk (psl φ) (nm φ f):=csP_ok
end Go.Proofs.Ytjdhndicgifnbaa.Ae
namespace Go.Proofs.Ytjdhndicgifnbaa.Ae
open Go Go.Eng Go.Proofs.Ytjdhndicgifnbaa
def k0 (b:List UInt8):List UInt8:=(b.take (Int.toNat 32)).drop (Int.toNat 0)
theorem w14t (φ:Fl) (k n a c d:List UInt8):ansO (run1O Try.prog (psl φ) (nl φ) [19,22,300026,27] [true] [.str d,.tup []] (mask 61) 100 61 [.str k,.str n,.str a,.str c] [] Try.prog.globals.size)=some (.tup [.str [],.int .i64 (φ.br k n)],[φ.br k n != 0]):=by kernel_rfl
theorem w14f (φ:Fl) (k n a c d:List UInt8):ansO (run1O Try.prog (psl φ) (nl φ) [19,22,300026,27] [false] [.str d,.tup []] (mask 61) 100 61 [.str k,.str n,.str a,.str c] [] Try.prog.globals.size)=some (.tup [.str (φ.pg (k0 (φ.bv k n 0)) d),.int .i64 (φ.pr (k0 (φ.bv k n 0)))],
 [φ.sh d,decP ((EffA.read 128 (two 0)).app 136 [(128,.cells false [.str a,.str c])]=some (.str d,[(128,.cells false [.str a,.str c])])),decide ((0:Int)≤0) && (decide ((0:Int)≤32) && decide ((32:Int)≤((φ.bv k n 0).length:Int))),!(φ.br k n != 0)]):=by kernel_rfl
def doc (φ:Fl) (f:Nat→List UInt8) (a c:List UInt8):List UInt8:=((((a++f a.length)++c)++f c.length)++φ.ei (UInt64.ofInt (a.length:Int)))++φ.ei (UInt64.ofInt (c.length:Int))
theorem w17 (φ:Fl) (k n a c:List UInt8) (f:Nat→List UInt8):ansO (run1O Try.prog (psl φ) (nm φ f) [14,15,19,21,24,29,34,35] [] [] (mask 71) 100 71 [.str k,.str n,.str a,.str c] [] Try.prog.globals.size)=some (.str (φ.pg (k0 (φ.bv k n 0)) (doc φ f a c)),
  [φ.sh (doc φ f a c),Nat.ble (((((a++f a.length)++c)++f c.length)++φ.ei (UInt64.ofInt (a.length:Int))).length+(φ.ei (UInt64.ofInt (c.length:Int))).length) 9223372036854775807,Nat.ble ((((a++f a.length)++c)++f c.length).length+(φ.ei (UInt64.ofInt (a.length:Int))).length) 9223372036854775807,
   Nat.ble (((a++f a.length)++c).length+(f c.length).length) 9223372036854775807,Nat.ble ((a++f a.length).length+c.length) 9223372036854775807,Nat.ble (a.length+(f a.length).length) 9223372036854775807,decide ((0:Int)≤0) && (decide ((0:Int)≤32) && decide ((32:Int)≤((φ.bv k n 0).length:Int))),φ.may k n]):=by kernel_rfl
theorem ofInt64 (n:Nat):UInt64.ofInt (n:Int)=UInt64.ofNat n:=by
 apply UInt64.toNat_inj.1
 unfold UInt64.ofInt
 rw [UInt64.toNat_ofNat',UInt64.toNat_ofNat']
 omega
theorem padL_len (n:Nat):(Bld.padL n).length < 16:=by
 unfold Bld.padL
 rw [List.length_replicate]
 exact Nat.mod_lt _ (by omega)
theorem doc_eq (a c:List UInt8):doc realFl Bld.padL a c=Bld.padT a c:=by
 unfold doc Bld.padT
 rw [ofInt64,ofInt64,List.append_assoc (a++Bld.padL a.length++c++Bld.padL c.length)]
 rfl
theorem padT_len (a c:List UInt8):(Bld.padT a c).length≤a.length+c.length+46:=by
 have:=padL_len a.length
 have:=padL_len c.length
 unfold Bld.padT
 simp only [List.length_append,Bld.eight_len]
 omega
def tagA (k n a c:List UInt8):List UInt8:=Pol.tvR (k0 (bvR k n 0)) (Bld.padT a c)
theorem bv_len {k n:List UInt8}(h:Cha.may k n=true):(bvR k n 0).length=64:=by
 unfold bvR
 rw [h]
 exact Cha.blkL_len _ _ _ _
theorem k0_len {k n:List UInt8}(h:Cha.may k n=true):(k0 (bvR k n 0)).length=32:=by
 unfold k0
 rw [List.length_drop,List.length_take,bv_len h]
 rfl
theorem pr0 {k n:List UInt8}(h:Cha.may k n=true):Pol.trR (k0 (bvR k n 0))=0:=by
 unfold Pol.trR
 rw [k0_len h]; rfl
theorem call14 (k n a c:List UInt8) (ha:a.length≤200000) (hc:c.length≤200000):CallOk Try.prog 61 [.str k,.str n,.str a,.str c] (.pure (.tup [.str (cond (Cha.may k n) (tagA k n a c) []),.int .i64 (brR k n)])):=by
 cases hm:Cha.may k n with
 | false =>
  have hb:(realFl.br k n != 0)=true:=by show (brR k n != 0)=true; unfold brR; rw [hm]; rfl
  exact callOk_val nl_ok hmix (ansO_run (nl_ps _) (w14t realFl k n a c []) (by simp only [allT,hb,cond_true])) rfl rfl
 | true =>
  have hb:(realFl.br k n != 0)=false:=by show (brR k n != 0)=false; unfold brR; rw [hm]; rfl
  have hl:(decide ((0:Int)≤0) && (decide ((0:Int)≤32) && decide ((32:Int)≤((realFl.bv k n 0).length:Int))))=true:=by
   have:(realFl.bv k n 0).length=64:=bv_len hm
   rw [this]; rfl
  have hs:realFl.sh (Bld.padT a c)=true:=Nat.ble_eq_true_of_le (by have:=padT_len a c; omega)
  have hd:decP ((EffA.read 128 (two 0)).app 136 [(128,.cells false [.str a,.str c])]=some (.str (Bld.padT a c),[(128,.cells false [.str a,.str c])]))=true:=decP_of (by
   have e1:Nat.ble a.length 200000=true:=Nat.ble_eq_true_of_le ha
   have e2:Nat.ble c.length 200000=true:=Nat.ble_eq_true_of_le hc
   simp [EffA.app,aget,two,e1,e2])
  have r:=callOk_val nl_ok hmix (ansO_run (nl_ps _) (w14f realFl k n a c (Bld.padT a c)) (by simp only [allT,hb,hl,hs,hd,Bool.not_false,cond_true])) rfl rfl
  have e1:realFl.pr (k0 (realFl.bv k n 0))=0:=pr0 hm
  rw [e1] at r
  have e2:brR k n=0:=by unfold brR; rw [hm]; rfl
  rw [e2]
  exact r
theorem call17 (k n a c:List UInt8) (hm:Cha.may k n=true) (ha:a.length≤200000) (hc:c.length≤200000):CallOk Try.prog 71 [.str k,.str n,.str a,.str c] (.pure (.str (tagA k n a c))):=by
 have hl:(decide ((0:Int)≤0) && (decide ((0:Int)≤32) && decide ((32:Int)≤((realFl.bv k n 0).length:Int))))=true:=by
  have:(realFl.bv k n 0).length=64:=bv_len hm
  rw [this]; rfl
 have hs:realFl.sh (doc realFl Bld.padL a c)=true:=by
  rw [doc_eq]
  exact Nat.ble_eq_true_of_le (by have:=padT_len a c; omega)
 have l1:=padL_len a.length
 have l2:=padL_len c.length
 have e8:∀ x,(realFl.ei x).length=8:=fun x=>Bld.eight_len x
 have r:=callOk_val nm_ok hmix (ansO_run (nm_ps _ _) (w17 realFl k n a c Bld.padL) (by
  have o:∀ x,x≤9223372036854775807→Nat.ble x 9223372036854775807=true:=fun x h=>Nat.ble_eq_true_of_le h
  have hm':realFl.may k n=true:=hm
  rw [o _ (by simp only [List.length_append,e8]; omega),o _ (by simp only [List.length_append,e8]; omega),o _ (by simp only [List.length_append]; omega),o _ (by simp only [List.length_append]; omega),o _ (by omega)]
  simp only [allT,hl,hs,hm',cond_true])) rfl rfl
 rw [doc_eq] at r
 exact r
end Go.Proofs.Ytjdhndicgifnbaa.Ae
namespace Go.Proofs.Ytjdhndicgifnbaa.Ae
open Go Go.Eng Go.Proofs.Ytjdhndicgifnbaa
structure Fm where
 may:List UInt8→List UInt8→Bool
 tv:List UInt8→List UInt8→UInt32→List UInt8→List UInt8
 tr:List UInt8→List UInt8→UInt32→List UInt8→Int
 tg:List UInt8→List UInt8→List UInt8→List UInt8→List UInt8
 br:List UInt8→List UInt8→Int
 sm:List UInt8→List UInt8→Bool
 sh:List UInt8→Bool
def shS (s:List UInt8):Bool:=Nat.ble s.length 200000
def tgR (k n a c:List UInt8):List UInt8:=cond (Cha.may k n) (tagA k n a c) []
def realFm:Fm:=⟨Cha.may,Cha.tvR,Cha.trR,tgR,brR,Pol.smR,shS⟩
def hMay (φ:Fm):List AVal→Option EffA
 | [.str a,.str b]=>some (.pure (.bool (φ.may a b)))
 | _=>none
def qTurn (φ:Fm):List AVal→Option (EffA × Bool)
 | [.str a,.str b,.u32 c,.str s]=>some (.pure (.tup [.str (φ.tv a b c s),.int .i64 (φ.tr a b c s)]),φ.sh s)
 | _=>none
def qTag (φ:Fm):List AVal→Option (EffA × Bool)
 | [.str k,.str n,.str a,.str c]=>some (.pure (.tup [.str (φ.tg k n a c),.int .i64 (φ.br k n)]),φ.sh a && φ.sh c)
 | _=>none
def qDoc (φ:Fm):List AVal→Option (EffA × Bool)
 | [.str k,.str n,.str a,.str c]=>some (.pure (.str (φ.tg k n a c)),φ.may k n && (φ.sh a && φ.sh c))
 | _=>none
def qSame (φ:Fm):List AVal→Option (EffA × Bool)
 | [.str a,.str b]=>some (.pure (.bool (φ.sm a b)),φ.sh a)
 | _=>none
theorem shS_R {s:List UInt8}(h:shS s=true):Pol.shR s=true:=Nat.ble_eq_true_of_le (by have:=Nat.le_of_ble_eq_true h; omega)
theorem hmay15:CSOk Try.prog (csOne 69 (hMay realFm)):=csOne_ok fun args e he=>by
 unfold hMay at he
 split at he
 ·cases he; exact Cha.k8_ok 69 _ _ rfl
 ·cases he
theorem qturn13:CSOk Try.prog (csP (psOne 60 (qTurn realFm))):=csP_one fun args v he=>by
 unfold qTurn at he
 split at he
 ·rename_i a b c s
  simp only [Option.some.injEq,Prod.mk.injEq] at he
  obtain ⟨rfl,h⟩:=he
  exact Cha.call10 a b s c (sh_short (shS_R h))
 ·cases he
theorem qturn16:CSOk Try.prog (csP (psOne 70 (qTurn realFm))):=csP_one fun args v he=>by
 unfold qTurn at he
 split at he
 ·rename_i a b c s
  simp only [Option.some.injEq,Prod.mk.injEq] at he
  obtain ⟨rfl,h⟩:=he
  exact Cha.call11 a b s c (sh_short (shS_R h))
 ·cases he
theorem qtag14:CSOk Try.prog (csP (psOne 61 (qTag realFm))):=csP_one fun args v he=>by
 unfold qTag at he
 split at he
 ·rename_i k n a c
  simp only [Option.some.injEq,Prod.mk.injEq] at he
  obtain ⟨rfl,h⟩:=he
  rw [Bool.and_eq_true] at h
  exact call14 k n a c (Nat.le_of_ble_eq_true h.1) (Nat.le_of_ble_eq_true h.2)
 ·cases he
theorem qdoc17:CSOk Try.prog (csP (psOne 71 (qDoc realFm))):=csP_one fun args v he=>by
 unfold qDoc at he
 split at he
 ·rename_i k n a c
  simp only [Option.some.injEq,Prod.mk.injEq] at he
  obtain ⟨rfl,h⟩:=he
  rw [Bool.and_eq_true,Bool.and_eq_true] at h
  have hm:Cha.may k n=true:=h.1
  have e:realFm.tg k n a c=tagA k n a c:=by show tgR k n a c=_; unfold tgR; rw [hm]; rfl
  rw [e]
  exact call17 k n a c hm (Nat.le_of_ble_eq_true h.2.1) (Nat.le_of_ble_eq_true h.2.2)
 ·cases he
theorem qsame18:CSOk Try.prog (csP (psOne 65 (qSame realFm))):=csP_one fun args v he=>by
 unfold qSame at he
 split at he
 ·rename_i a b
  simp only [Option.some.injEq,Prod.mk.injEq] at he
  obtain ⟨rfl,h⟩:=he
  exact Pol.call9 a b (by have:=Nat.le_of_ble_eq_true h; omega)
 ·cases he
def psm (φ:Fm):PS:=psAlt (psOne 60 (qTurn φ)) (psAlt (psOne 70 (qTurn φ)) (psAlt (psOne 61 (qTag φ)) (psAlt (psOne 71 (qDoc φ)) (psOne 65 (qSame φ)))))
theorem psm_ok:CSOk Try.prog (csP (psm realFm)):=csP_alt qturn13 (csP_alt qturn16 (csP_alt qtag14 (csP_alt qdoc17 qsame18)))
def nn (φ:Fm):CS:=csAlt (csP (psm φ)) (csOne 69 (hMay φ))
theorem nn_ok:CSOk Try.prog (nn realFm):=csAlt_ok psm_ok hmay15
theorem nn_ps (φ:Fm):PSOk (psm φ) (nn φ):=csP_ok
end Go.Proofs.Ytjdhndicgifnbaa.Ae
namespace Go.Proofs.Ytjdhndicgifnbaa.Ae
open Go Go.Eng Go.Proofs.Ytjdhndicgifnbaa
def tk (s:List UInt8) (z:Int):List UInt8:=(s.take z.toNat).drop (Int.toNat 0)
def dr (s:List UInt8) (z:Int):List UInt8:=(s.take (s.length:Int).toNat).drop z.toNat
def i1 (s:List UInt8) (z:Int):Bool:=decide ((0:Int)≤0) && (decide (0≤z) && decide (z≤(s.length:Int)))
def i2 (s:List UInt8) (z:Int):Bool:=decide (0≤z) && (decide (z≤(s.length:Int)) && decide ((s.length:Int)≤(s.length:Int)))
def zq (s:List UInt8) (z:Int):Bool:=eqS (.int .i64 (IntKind.wrap .i64 ((s.length:Int) - 16))) (.int .i64 z)
section
variable (φ:Fm) (k n a s:List UInt8) (z:Int)
theorem w7a:ansO (run1O Try.prog (psm φ) (nn φ) [19,23,27,31,37,45,50] [true] [] (mask 38) 100 38 [.str k,.str n,.str a,.str s] [] Try.prog.globals.size)=some (.tup [.str [],.int .i64 (φ.tr k n 1 [])],[φ.tr k n 1 [] != 0,φ.sh []]):=by kernel_rfl
theorem w7b:ansO (run1O Try.prog (psm φ) (nn φ) [19,23,27,31,37,45,50] [false,true] [] (mask 38) 100 38 [.str k,.str n,.str a,.str s] [] Try.prog.globals.size)=some (.tup [.str [],.int .i64 4],[decide ((65536:Int) < (a.length:Int)),!(φ.tr k n 1 [] != 0),φ.sh []]):=by kernel_rfl
theorem w7c:ansO (run1O Try.prog (psm φ) (nn φ) [19,23,27,31,37,45,50] [false,false,true] [] (mask 38) 100 38 [.str k,.str n,.str a,.str s] [] Try.prog.globals.size)=some (.tup [.str [],.int .i64 4],[decide ((65536:Int) < (s.length:Int)),!(decide ((65536:Int) < (a.length:Int))),!(φ.tr k n 1 [] != 0),φ.sh []]):=by kernel_rfl
theorem w7d:ansO (run1O Try.prog (psm φ) (nn φ) [19,23,27,31,37,45,50] [false,false,false] [] (mask 38) 100 38 [.str k,.str n,.str a,.str s] [] Try.prog.globals.size)=some (.tup [.str (φ.tv k n 1 s++φ.tg k n a (φ.tv k n 1 s)),.int .i64 (φ.br k n)],[Nat.ble ((φ.tv k n 1 s).length+(φ.tg k n a (φ.tv k n 1 s)).length) 9223372036854775807,φ.sh a && φ.sh (φ.tv k n 1 s),φ.sh s,!(decide ((65536:Int) < (s.length:Int))),!(decide ((65536:Int) < (a.length:Int))),!(φ.tr k n 1 [] != 0),φ.sh []]):=by kernel_rfl
theorem w8a:ansO (run1O Try.prog (psm φ) (nn φ) [14,18,22,28,36,37] [false] [] (mask 55) 100 55 [.str k,.str n,.str a,.str s] [] Try.prog.globals.size)=some (.tup [.str [],.int .i64 2],[!(φ.may k n)]):=by kernel_rfl
theorem w8b:ansO (run1O Try.prog (psm φ) (nn φ) [14,18,22,28,36,37] [true,true] [] (mask 55) 100 55 [.str k,.str n,.str a,.str s] [] Try.prog.globals.size)=some (.tup [.str [],.int .i64 4],[decide ((65536:Int) < (a.length:Int)),φ.may k n]):=by kernel_rfl
theorem w8c:ansO (run1O Try.prog (psm φ) (nn φ) [14,18,22,28,36,37] [true,false,true] [] (mask 55) 100 55 [.str k,.str n,.str a,.str s] [] Try.prog.globals.size)=some (.tup [.str [],.int .i64 4],[decide ((65536:Int) < (s.length:Int)),!(decide ((65536:Int) < (a.length:Int))),φ.may k n]):=by kernel_rfl
theorem w8d:ansO (run1O Try.prog (psm φ) (nn φ) [14,18,22,28,36,37] [true,false,false] [] (mask 55) 100 55 [.str k,.str n,.str a,.str s] [] Try.prog.globals.size)=some (.tup [.str (φ.tv k n 1 s++φ.tg k n a (φ.tv k n 1 s)),.int .i64 0],[Nat.ble ((φ.tv k n 1 s).length+(φ.tg k n a (φ.tv k n 1 s)).length) 9223372036854775807,φ.may k n && (φ.sh a && φ.sh (φ.tv k n 1 s)),φ.sh s,!(decide ((65536:Int) < (s.length:Int))),!(decide ((65536:Int) < (a.length:Int))),φ.may k n]):=by kernel_rfl
def sy9:List Nat:=[18,22,30,33,37,44,45,49,54,55,62,63,200012]
theorem w9a:ansO (run1O Try.prog (psm φ) (nn φ) sy9 [true] [.int .i64 z] (mask 41) 100 41 [.str k,.str n,.str a,.str s] [] Try.prog.globals.size)=some (.tup [.str [],.int .i64 (φ.tr k n 1 [])],[φ.tr k n 1 [] != 0,φ.sh []]):=by kernel_rfl
theorem w9b:ansO (run1O Try.prog (psm φ) (nn φ) sy9 [false,true] [.int .i64 z] (mask 41) 100 41 [.str k,.str n,.str a,.str s] [] Try.prog.globals.size)=some (.tup [.str [],.int .i64 4],[decide ((65536:Int) < (a.length:Int)),zq s z,!(φ.tr k n 1 [] != 0),φ.sh []]):=by kernel_rfl
theorem w9c:ansO (run1O Try.prog (psm φ) (nn φ) sy9 [false,false,true] [.int .i64 z] (mask 41) 100 41 [.str k,.str n,.str a,.str s] [] Try.prog.globals.size)=some (.tup [.str [],.int .i64 4],[decide ((65536:Int) < z),!(decide ((65536:Int) < (a.length:Int))),zq s z,!(φ.tr k n 1 [] != 0),φ.sh []]):=by kernel_rfl
theorem w9d:ansO (run1O Try.prog (psm φ) (nn φ) sy9 [false,false,false,true] [.int .i64 z] (mask 41) 100 41 [.str k,.str n,.str a,.str s] [] Try.prog.globals.size)=some (.tup [.str [],.int .i64 100],[decide (z < 0),!(decide ((65536:Int) < z)),!(decide ((65536:Int) < (a.length:Int))),zq s z,!(φ.tr k n 1 [] != 0),φ.sh []]):=by kernel_rfl
theorem w9e:ansO (run1O Try.prog (psm φ) (nn φ) sy9 [false,false,false,false,false,true] [.int .i64 z] (mask 41) 100 41 [.str k,.str n,.str a,.str s] [] Try.prog.globals.size)=some (.tup [.str (φ.tv k n 1 (tk s z)),.int .i64 (φ.tr k n 1 (tk s z))],[φ.sh (tk s z),i1 s z,φ.sm (φ.tg k n a (tk s z)) (dr s z),φ.sh (φ.tg k n a (tk s z)),i2 s z,!(φ.br k n != 0),φ.sh a && φ.sh (tk s z),i1 s z,!(decide (z < 0)),!(decide ((65536:Int) < z)),!(decide ((65536:Int) < (a.length:Int))),zq s z,!(φ.tr k n 1 [] != 0),φ.sh []]):=by kernel_rfl
theorem w9f:ansO (run1O Try.prog (psm φ) (nn φ) sy9 [false,false,false,false,false,false] [.int .i64 z] (mask 41) 100 41 [.str k,.str n,.str a,.str s] [] Try.prog.globals.size)=some (.tup [.str [],.int .i64 100],[!(φ.sm (φ.tg k n a (tk s z)) (dr s z)),φ.sh (φ.tg k n a (tk s z)),i2 s z,!(φ.br k n != 0),φ.sh a && φ.sh (tk s z),i1 s z,!(decide (z < 0)),!(decide ((65536:Int) < z)),!(decide ((65536:Int) < (a.length:Int))),zq s z,!(φ.tr k n 1 [] != 0),φ.sh []]):=by kernel_rfl
end
end Go.Proofs.Ytjdhndicgifnbaa.Ae
namespace Go.Proofs.Ytjdhndicgifnbaa.Cha
open Go Go.Eng Go.Cha
def trn (k n:List UInt8) (c:UInt32) (s:List UInt8):List UInt8:=turnTo (tb k n c) s s.length
theorem trn_len (k n:List UInt8) (c:UInt32) (s:List UInt8):(trn k n c s).length=s.length:=turnTo_len _ _ _
theorem trn_get (k n:List UInt8) (c:UInt32) (s:List UInt8){j:Nat}(h:j < s.length):(trn k n c s)[j]? = some (s.getD j 0 ^^^ tb k n c j):=by
 unfold trn
 rw [turnTo_get _ _ _ _ h,if_pos h]
theorem xor_back (a b:UInt8):(a ^^^ b) ^^^ b=a:=by
 apply UInt8.toBitVec_inj.1
 simp [BitVec.xor_assoc]
theorem trn_back (k n:List UInt8) (c:UInt32) (s:List UInt8):trn k n c (trn k n c s)=s:=by
 apply List.ext_getElem?
 intro j
 by_cases h:j < s.length
 ·rw [trn_get _ _ _ _ (by rw [trn_len]; exact h),List.getD_eq_getElem?_getD,trn_get _ _ _ _ h]
  show some ((s.getD j 0 ^^^ tb k n c j) ^^^ tb k n c j)=s[j]?
  rw [xor_back,List.getD_eq_getElem?_getD,List.getElem?_eq_getElem h]; rfl
 ·rw [List.getElem?_eq_none (by rw [trn_len,trn_len]; omega),List.getElem?_eq_none (by omega)]
theorem over_nat (c:UInt32){m:Nat}(h:m < 1099511627776):over c m=decide (4294967296 < c.toNat+(m+63) / 64):=by
 unfold over
 rw [wrapI _ (by omega) (by omega)]
 have e:UInt64.ofInt ((m:Int)+63)=UInt64.ofNat (m+63):=by
  rw [show ((m:Int)+63)=((m+63:Nat):Int) by omega,ofInt_nat]
 rw [e]
 have hc:=c.toNat_lt
 refine decide_eq_decide.2 ?_
 rw [UInt64.lt_iff_toNat_lt,UInt64.toNat_add,UInt64.toNat_div,UInt32.toNat_toUInt64,UInt64.toNat_ofNat',UInt64.toNat_ofNat',UInt64.toNat_ofNat']
 rw [show Int.toNat 64=64 from rfl,show Int.toNat 4294967296=4294967296 from rfl]
 simp only [Nat.reducePow] at *
 rw [Nat.mod_eq_of_lt (show m+63 < 18446744073709551616 by omega),Nat.mod_eq_of_lt (show 64 < 18446744073709551616 by omega),Nat.mod_eq_of_lt (show 4294967296 < 18446744073709551616 by omega)]
 rw [Nat.mod_eq_of_lt (by omega)]
end Go.Proofs.Ytjdhndicgifnbaa.Cha
namespace Go.Proofs.Ytjdhndicgifnbaa.Ae
open Go Go.Eng Go.Proofs.Ytjdhndicgifnbaa
section
variable (φ:Fm) (k n a s:List UInt8) (z:Int)
def sy10:List Nat:=[15,19,23,27,32,37,42,43,48,200031,200041]
theorem w10a:ansO (run1O Try.prog (psm φ) (nn φ) sy10 [false] [.int .i64 z,.int .i64 z] (mask 58) 100 58 [.str k,.str n,.str a,.str s] [] Try.prog.globals.size)=some (.tup [.str [],.int .i64 2],[!(φ.may k n)]):=by kernel_rfl
theorem w10b:ansO (run1O Try.prog (psm φ) (nn φ) sy10 [true,true] [.int .i64 z,.int .i64 z] (mask 58) 100 58 [.str k,.str n,.str a,.str s] [] Try.prog.globals.size)=some (.tup [.str [],.int .i64 4],[decide ((65536:Int) < (a.length:Int)),φ.may k n]):=by kernel_rfl
theorem w10c:ansO (run1O Try.prog (psm φ) (nn φ) sy10 [true,false,true] [.int .i64 z,.int .i64 z] (mask 58) 100 58 [.str k,.str n,.str a,.str s] [] Try.prog.globals.size)=some (.tup [.str [],.int .i64 4],[decide ((65552:Int) < (s.length:Int)),!(decide ((65536:Int) < (a.length:Int))),φ.may k n]):=by kernel_rfl
theorem w10d:ansO (run1O Try.prog (psm φ) (nn φ) sy10 [true,false,false,true] [.int .i64 z,.int .i64 z] (mask 58) 100 58 [.str k,.str n,.str a,.str s] [] Try.prog.globals.size)=some (.tup [.str [],.int .i64 100],[decide ((s.length:Int) < 16),!(decide ((65552:Int) < (s.length:Int))),!(decide ((65536:Int) < (a.length:Int))),φ.may k n]):=by kernel_rfl
theorem w10e:ansO (run1O Try.prog (psm φ) (nn φ) sy10 [true,false,false,false,true] [.int .i64 z,.int .i64 z] (mask 58) 100 58 [.str k,.str n,.str a,.str s] [] Try.prog.globals.size)=some (.tup [.str [],.int .i64 100],[!(φ.tg k n a (tk s z) == dr s z),i2 s z,zq s z,φ.may k n && (φ.sh a && φ.sh (tk s z)),i1 s z,zq s z,!(decide ((s.length:Int) < 16)),!(decide ((65552:Int) < (s.length:Int))),!(decide ((65536:Int) < (a.length:Int))),φ.may k n]):=by kernel_rfl
theorem w10f:ansO (run1O Try.prog (psm φ) (nn φ) sy10 [true,false,false,false,false] [.int .i64 z,.int .i64 z] (mask 58) 100 58 [.str k,.str n,.str a,.str s] [] Try.prog.globals.size)=some (.tup [.str (φ.tv k n 1 (tk s z)),.int .i64 0],[φ.sh (tk s z),!!(φ.tg k n a (tk s z) == dr s z),i2 s z,zq s z,φ.may k n && (φ.sh a && φ.sh (tk s z)),i1 s z,zq s z,!(decide ((s.length:Int) < 16)),!(decide ((65552:Int) < (s.length:Int))),!(decide ((65536:Int) < (a.length:Int))),φ.may k n]):=by kernel_rfl
end
def ct (k n s:List UInt8):List UInt8:=Cha.trn k n 1 s
def seF (k n a s:List UInt8):List UInt8 × Int:=cond (Cha.may k n) (if 65536 < a.length ∨ 65536 < s.length then ([],4) else (ct k n s++tagA k n a (ct k n s),0)) ([],2)
def opF (k n a s:List UInt8):List UInt8 × Int:=cond (Cha.may k n) (if 65536 < a.length ∨ 65552 < s.length then ([],4) else if s.length < 16 then ([],100) else if tagA k n a (s.take (s.length - 16))=s.drop (s.length - 16) then (ct k n (s.take (s.length - 16)),0) else ([],100)) ([],2)
theorem over1 {m:Nat}(h:m≤65552):Cha.over 1 m=false:=by
 rw [Cha.over_nat 1 (by omega)]
 refine decide_eq_false ?_
 have:(1:UInt32).toNat=1:=rfl
 omega
theorem tv1 {k n s:List UInt8}(hm:Cha.may k n=true) (h:s.length≤65552):Cha.tvR k n 1 s=ct k n s∧Cha.trR k n 1 s=0:=by
 unfold Cha.tvR Cha.trR
 rw [hm,over1 h]
 exact ⟨rfl,rfl⟩
theorem tag_len {k n a c:List UInt8}(hm:Cha.may k n=true):(tagA k n a c).length=16:=by
 unfold tagA Pol.tvR
 rw [k0_len hm]
 exact Pol.tag_len _ _
theorem tg1 {k n:List UInt8}(hm:Cha.may k n=true) (a c:List UInt8):realFm.tg k n a c=tagA k n a c:=by
 show tgR k n a c=_
 unfold tgR
 rw [hm]; rfl
theorem ct_len (k n s:List UInt8):(ct k n s).length=s.length:=Cha.trn_len _ _ _ _
theorem tr_no {k n s:List UInt8}(hm:Cha.may k n=false):Cha.trR k n 1 s=2:=by
 unfold Cha.trR
 rw [hm]; rfl
theorem br1 {k n:List UInt8}(hm:Cha.may k n=true):realFm.br k n=0:=by
 show brR k n=0
 unfold brR
 rw [hm]; rfl
theorem sh0:realFm.sh []=true:=rfl
theorem shle {s:List UInt8}(h:s.length≤200000):realFm.sh s=true:=Nat.ble_eq_true_of_le h
theorem call7 (k n a s:List UInt8):CallOk Try.prog 38 [.str k,.str n,.str a,.str s] (.pure (.tup [.str (seF k n a s).1,.int .i64 (seF k n a s).2])):=by
 unfold seF
 cases hm:Cha.may k n with
 | false =>
  have e:realFm.tr k n 1 []=2:=tr_no hm
  have r:=callOk_val nn_ok hmix (ansO_run (nn_ps _) (w7a realFm k n a s) (by rw [e]; rfl)) rfl rfl
  rw [e] at r
  exact r
 | true =>
  have e0:(realFm.tr k n 1 [] != 0)=false:=by
   have:realFm.tr k n 1 []=0:=(tv1 hm (by show 0≤65552; omega)).2
   rw [this]; rfl
  rw [cond_true]
  by_cases ha:65536 < a.length
  ·rw [if_pos (.inl ha)]
   exact callOk_val nn_ok hmix (ansO_run (nn_ps _) (w7b realFm k n a s) (by simp only [allT,e0,sh0,decide_eq_true (show (65536:Int) < (a.length:Int) by omega),Bool.not_false,cond_true])) rfl rfl
  ·have e1:=decide_eq_false (show ¬ ((65536:Int) < (a.length:Int)) by omega)
   by_cases hs:65536 < s.length
   ·rw [if_pos (.inr hs)]
    exact callOk_val nn_ok hmix (ansO_run (nn_ps _) (w7c realFm k n a s) (by simp only [allT,e0,sh0,e1,decide_eq_true (show (65536:Int) < (s.length:Int) by omega),Bool.not_false,cond_true])) rfl rfl
   ·rw [if_neg (by omega)]
    have e2:=decide_eq_false (show ¬ ((65536:Int) < (s.length:Int)) by omega)
    have t1:realFm.tv k n 1 s=ct k n s:=(tv1 hm (by omega)).1
    have q:=w7d realFm k n a s
    rw [t1,tg1 hm,br1 hm] at q
    exact callOk_val nn_ok hmix (ansO_run (nn_ps _) q (by
     have o1:Nat.ble ((ct k n s).length+(tagA k n a (ct k n s)).length) 9223372036854775807=true:=Nat.ble_eq_true_of_le (by rw [ct_len,tag_len hm]; omega)
     simp only [allT,e0,sh0,e1,e2,o1,shle (show a.length≤200000 by omega),shle (show s.length≤200000 by omega),shle (show (ct k n s).length≤200000 by rw [ct_len]; omega),Bool.and_self,Bool.not_false,cond_true])) rfl rfl
theorem call8 (k n a s:List UInt8):CallOk Try.prog 55 [.str k,.str n,.str a,.str s] (.pure (.tup [.str (seF k n a s).1,.int .i64 (seF k n a s).2])):=by
 unfold seF
 cases hm:Cha.may k n with
 | false =>
  have e:realFm.may k n=false:=hm
  exact callOk_val nn_ok hmix (ansO_run (nn_ps _) (w8a realFm k n a s) (by rw [e]; rfl)) rfl rfl
 | true =>
  have e0:realFm.may k n=true:=hm
  rw [cond_true]
  by_cases ha:65536 < a.length
  ·rw [if_pos (.inl ha)]
   exact callOk_val nn_ok hmix (ansO_run (nn_ps _) (w8b realFm k n a s) (by simp only [allT,e0,decide_eq_true (show (65536:Int) < (a.length:Int) by omega),Bool.not_false,cond_true])) rfl rfl
  ·have e1:=decide_eq_false (show ¬ ((65536:Int) < (a.length:Int)) by omega)
   by_cases hs:65536 < s.length
   ·rw [if_pos (.inr hs)]
    exact callOk_val nn_ok hmix (ansO_run (nn_ps _) (w8c realFm k n a s) (by simp only [allT,e0,e1,decide_eq_true (show (65536:Int) < (s.length:Int) by omega),Bool.not_false,cond_true])) rfl rfl
   ·rw [if_neg (by omega)]
    have e2:=decide_eq_false (show ¬ ((65536:Int) < (s.length:Int)) by omega)
    have t1:realFm.tv k n 1 s=ct k n s:=(tv1 hm (by omega)).1
    have q:=w8d realFm k n a s
    rw [t1,tg1 hm] at q
    exact callOk_val nn_ok hmix (ansO_run (nn_ps _) q (by
     have o1:Nat.ble ((ct k n s).length+(tagA k n a (ct k n s)).length) 9223372036854775807=true:=Nat.ble_eq_true_of_le (by rw [ct_len,tag_len hm]; omega)
     simp only [allT,e0,e1,e2,o1,shle (show a.length≤200000 by omega),shle (show s.length≤200000 by omega),shle (show (ct k n s).length≤200000 by rw [ct_len]; omega),Bool.and_self,Bool.not_false,cond_true])) rfl rfl
theorem tk_eq (s:List UInt8) (m:Nat):tk s (m:Int)=s.take m:=by unfold tk; rw [Int.toNat_natCast]; rfl
theorem dr_eq (s:List UInt8) (m:Nat):dr s (m:Int)=s.drop m:=by unfold dr; rw [Int.toNat_natCast,Int.toNat_natCast,List.take_length]
theorem zq_ok {s:List UInt8}(h:s.length≤9223372036854775807){z:Int}(hz:(s.length:Int) - 16=z):zq s z=true:=by
 unfold zq
 rw [wrapI _ (by omega) (by omega),hz]
 simp [eqS]
theorem call9 (k n a s:List UInt8) (hl:s.length≤9223372036854775807):CallOk Try.prog 41 [.str k,.str n,.str a,.str s] (.pure (.tup [.str (opF k n a s).1,.int .i64 (opF k n a s).2])):=by
 unfold opF
 obtain ⟨z,hz⟩:∃ z,(s.length:Int) - 16=z:=⟨_,rfl⟩
 have hq:=zq_ok hl hz
 cases hm:Cha.may k n with
 | false =>
  have e:realFm.tr k n 1 []=2:=tr_no hm
  have r:=callOk_val nn_ok hmix (ansO_run (nn_ps _) (w9a realFm k n a s z) (by rw [e]; rfl)) rfl rfl
  rw [e] at r
  exact r
 | true =>
  have e0:(realFm.tr k n 1 [] != 0)=false:=by
   have:realFm.tr k n 1 []=0:=(tv1 hm (by show 0≤65552; omega)).2
   rw [this]; rfl
  rw [cond_true]
  by_cases ha:65536 < a.length
  ·rw [if_pos (.inl ha)]
   exact callOk_val nn_ok hmix (ansO_run (nn_ps _) (w9b realFm k n a s z) (by simp only [allT,e0,sh0,hq,decide_eq_true (show (65536:Int) < (a.length:Int) by omega),Bool.not_false,cond_true])) rfl rfl
  have e1:=decide_eq_false (show ¬ ((65536:Int) < (a.length:Int)) by omega)
  by_cases hs:65552 < s.length
  ·rw [if_pos (.inr hs)]
   exact callOk_val nn_ok hmix (ansO_run (nn_ps _) (w9c realFm k n a s z) (by simp only [allT,e0,sh0,e1,hq,decide_eq_true (show (65536:Int) < z by omega),Bool.not_false,cond_true])) rfl rfl
  rw [if_neg (by omega)]
  have e2:=decide_eq_false (show ¬ ((65536:Int) < z) by omega)
  by_cases h16:s.length < 16
  ·rw [if_pos h16]
   exact callOk_val nn_ok hmix (ansO_run (nn_ps _) (w9d realFm k n a s z) (by simp only [allT,e0,sh0,e1,e2,hq,decide_eq_true (show z < 0 by omega),Bool.not_false,cond_true])) rfl rfl
  rw [if_neg h16]
  have e3:=decide_eq_false (show ¬ (z < 0) by omega)
  have hzm:z=((s.length - 16:Nat):Int):=by omega
  have hi1:i1 s z=true:=by unfold i1; simp only [Bool.and_eq_true,decide_eq_true_eq]; omega
  have hi2:i2 s z=true:=by unfold i2; simp only [Bool.and_eq_true,decide_eq_true_eq]; omega
  have htk:tk s z=s.take (s.length - 16):=by rw [hzm]; exact tk_eq _ _
  have hdr:dr s z=s.drop (s.length - 16):=by rw [hzm]; exact dr_eq _ _
  have hlt:(s.take (s.length - 16)).length≤65552:=by rw [List.length_take]; omega
  have eb:(realFm.br k n != 0)=false:=by rw [br1 hm]; rfl
  have ht:=tv1 hm hlt
  have ht1:realFm.tv k n 1 (s.take (s.length - 16))=ct k n (s.take (s.length - 16)):=ht.1
  have ht2:realFm.tr k n 1 (s.take (s.length - 16))=0:=ht.2
  have st:realFm.sh (tagA k n a (s.take (s.length - 16)))=true:=shle (by rw [tag_len hm]; omega)
  by_cases he:tagA k n a (s.take (s.length - 16))=s.drop (s.length - 16)
  ·rw [if_pos he]
   have q:=w9e realFm k n a s z
   rw [htk,hdr,tg1 hm,ht1,ht2] at q
   exact callOk_val nn_ok hmix (ansO_run (nn_ps _) q (by
    have hsm:realFm.sm (tagA k n a (s.take (s.length - 16))) (s.drop (s.length - 16))=true:=by show (_ == _)=true; rw [he]; simp
    simp only [allT,e0,sh0,e1,e2,e3,hq,hi1,hi2,eb,hsm,st,shle (show a.length≤200000 by omega),shle (show (s.take (s.length - 16)).length≤200000 by omega),Bool.and_self,Bool.not_false,cond_true])) rfl rfl
  ·rw [if_neg he]
   have q:=w9f realFm k n a s z
   rw [htk,hdr,tg1 hm] at q
   exact callOk_val nn_ok hmix (ansO_run (nn_ps _) q (by
    have hsm:realFm.sm (tagA k n a (s.take (s.length - 16))) (s.drop (s.length - 16))=false:=by show (_ == _)=false; simp [he]
    simp only [allT,e0,sh0,e1,e2,e3,hq,hi1,hi2,eb,hsm,st,shle (show a.length≤200000 by omega),shle (show (s.take (s.length - 16)).length≤200000 by omega),Bool.and_self,Bool.not_false,cond_true])) rfl rfl
theorem call10 (k n a s:List UInt8) (hl:s.length≤9223372036854775807):CallOk Try.prog 58 [.str k,.str n,.str a,.str s] (.pure (.tup [.str (opF k n a s).1,.int .i64 (opF k n a s).2])):=by
 unfold opF
 obtain ⟨z,hz⟩:∃ z,(s.length:Int) - 16=z:=⟨_,rfl⟩
 have hq:=zq_ok hl hz
 cases hm:Cha.may k n with
 | false =>
  have e:realFm.may k n=false:=hm
  exact callOk_val nn_ok hmix (ansO_run (nn_ps _) (w10a realFm k n a s z) (by rw [e]; rfl)) rfl rfl
 | true =>
  have e0:realFm.may k n=true:=hm
  rw [cond_true]
  by_cases ha:65536 < a.length
  ·rw [if_pos (.inl ha)]
   exact callOk_val nn_ok hmix (ansO_run (nn_ps _) (w10b realFm k n a s z) (by simp only [allT,e0,decide_eq_true (show (65536:Int) < (a.length:Int) by omega),Bool.not_false,cond_true])) rfl rfl
  have e1:=decide_eq_false (show ¬ ((65536:Int) < (a.length:Int)) by omega)
  by_cases hs:65552 < s.length
  ·rw [if_pos (.inr hs)]
   exact callOk_val nn_ok hmix (ansO_run (nn_ps _) (w10c realFm k n a s z) (by simp only [allT,e0,e1,decide_eq_true (show (65552:Int) < (s.length:Int) by omega),Bool.not_false,cond_true])) rfl rfl
  rw [if_neg (by omega)]
  have e2:=decide_eq_false (show ¬ ((65552:Int) < (s.length:Int)) by omega)
  by_cases h16:s.length < 16
  ·rw [if_pos h16]
   exact callOk_val nn_ok hmix (ansO_run (nn_ps _) (w10d realFm k n a s z) (by simp only [allT,e0,e1,e2,decide_eq_true (show (s.length:Int) < 16 by omega),Bool.not_false,cond_true])) rfl rfl
  rw [if_neg h16]
  have e3:=decide_eq_false (show ¬ ((s.length:Int) < 16) by omega)
  have hzm:z=((s.length - 16:Nat):Int):=by omega
  have hi1:i1 s z=true:=by unfold i1; simp only [Bool.and_eq_true,decide_eq_true_eq]; omega
  have hi2:i2 s z=true:=by unfold i2; simp only [Bool.and_eq_true,decide_eq_true_eq]; omega
  have htk:tk s z=s.take (s.length - 16):=by rw [hzm]; exact tk_eq _ _
  have hdr:dr s z=s.drop (s.length - 16):=by rw [hzm]; exact dr_eq _ _
  have hlt:(s.take (s.length - 16)).length≤65552:=by rw [List.length_take]; omega
  have ht:=tv1 hm hlt
  have ht1:realFm.tv k n 1 (s.take (s.length - 16))=ct k n (s.take (s.length - 16)):=ht.1
  by_cases he:tagA k n a (s.take (s.length - 16))=s.drop (s.length - 16)
  ·rw [if_pos he]
   have q:=w10f realFm k n a s z
   rw [htk,hdr,tg1 hm,ht1] at q
   exact callOk_val nn_ok hmix (ansO_run (nn_ps _) q (by
    have hsm:(tagA k n a (s.take (s.length - 16)) == s.drop (s.length - 16))=true:=by rw [he]; simp
    simp only [allT,e0,e1,e2,e3,hq,hi1,hi2,hsm,shle (show a.length≤200000 by omega),shle (show (s.take (s.length - 16)).length≤200000 by omega),Bool.and_self,Bool.not_false,Bool.not_true,cond_true])) rfl rfl
  ·rw [if_neg he]
   have q:=w10e realFm k n a s z
   rw [htk,hdr,tg1 hm] at q
   exact callOk_val nn_ok hmix (ansO_run (nn_ps _) q (by
    have hsm:(tagA k n a (s.take (s.length - 16)) == s.drop (s.length - 16))=false:=by simp [he]
    simp only [allT,e0,e1,e2,e3,hq,hi1,hi2,hsm,shle (show a.length≤200000 by omega),shle (show (s.take (s.length - 16)).length≤200000 by omega),Bool.and_self,Bool.not_false,cond_true])) rfl rfl
end Go.Proofs.Ytjdhndicgifnbaa.Ae
namespace Go.Proofs.Ytjdhndicgifnbaa.Ae
open Go Go.Eng Go.Proofs.Ytjdhndicgifnbaa
def nonL (n:UInt64):List UInt8:=[0,0,0,0]++Bld.eightL n
def cs8:CS:=csAlt (csOne 62 (g8 Bld.eightL)) (csOne 72 (g8 Bld.eightL))
theorem cs8_ok:CSOk Try.prog cs8:=csAlt_ok g19_ok g20_ok
theorem run11 (n:UInt64):(run1 Try.prog cs8 (mask 39) 100 39 [.u64 n] [] Try.prog.globals.size).map (·.1)=some (.str (nonL n)):=by kernel_rfl
theorem run12 (n:UInt64):(run1 Try.prog cs8 (mask 56) 100 56 [.u64 n] [] Try.prog.globals.size).map (·.1)=some (.str (nonL n)):=by kernel_rfl
theorem g11_ok:CSOk Try.prog (csOne 39 (g8 nonL)):=csOne_ok fun args e he=>by
 unfold g8 at he
 split at he
 ·cases he; exact callOk_val cs8_ok hmix (run11 _) rfl rfl
 ·cases he
theorem g12_ok:CSOk Try.prog (csOne 56 (g8 nonL)):=csOne_ok fun args e he=>by
 unfold g8 at he
 split at he
 ·cases he; exact callOk_val cs8_ok hmix (run12 _) rfl rfl
 ·cases he
structure Fn where
 sv:List UInt8→List UInt8→List UInt8→List UInt8→List UInt8
 sr:List UInt8→List UInt8→List UInt8→List UInt8→Int
 ov:List UInt8→List UInt8→List UInt8→List UInt8→List UInt8
 wr:List UInt8→List UInt8→List UInt8→List UInt8→Int
 sl:List UInt8→Bool
def slR (s:List UInt8):Bool:=Nat.ble s.length 9223372036854775807
def realFn:Fn:=⟨fun k n a s=>(seF k n a s).1,fun k n a s=>(seF k n a s).2,fun k n a s=>(opF k n a s).1,fun k n a s=>(opF k n a s).2,slR⟩
def hSeal (φ:Fn):List AVal→Option EffA
 | [.str k,.str n,.str a,.str s]=>some (.pure (.tup [.str (φ.sv k n a s),.int .i64 (φ.sr k n a s)]))
 | _=>none
def qOpen (φ:Fn):List AVal→Option (EffA × Bool)
 | [.str k,.str n,.str a,.str s]=>some (.pure (.tup [.str (φ.ov k n a s),.int .i64 (φ.wr k n a s)]),φ.sl s)
 | _=>none
theorem seal7:CSOk Try.prog (csOne 38 (hSeal realFn)):=csOne_ok fun args e he=>by
 unfold hSeal at he
 split at he
 ·cases he; exact call7 _ _ _ _
 ·cases he
theorem seal8:CSOk Try.prog (csOne 55 (hSeal realFn)):=csOne_ok fun args e he=>by
 unfold hSeal at he
 split at he
 ·cases he; exact call8 _ _ _ _
 ·cases he
theorem open9:CSOk Try.prog (csP (psOne 41 (qOpen realFn))):=csP_one fun args v he=>by
 unfold qOpen at he
 split at he
 ·rename_i a b c s
  simp only [Option.some.injEq,Prod.mk.injEq] at he
  obtain ⟨rfl,h⟩:=he
  exact call9 a b c s (Nat.le_of_ble_eq_true h)
 ·cases he
theorem open10:CSOk Try.prog (csP (psOne 58 (qOpen realFn))):=csP_one fun args v he=>by
 unfold qOpen at he
 split at he
 ·rename_i a b c s
  simp only [Option.some.injEq,Prod.mk.injEq] at he
  obtain ⟨rfl,h⟩:=he
  exact call10 a b c s (Nat.le_of_ble_eq_true h)
 ·cases he
def psn (φ:Fn):PS:=psAlt (psOne 41 (qOpen φ)) (psOne 58 (qOpen φ))
theorem psn_ok:CSOk Try.prog (csP (psn realFn)):=csP_alt open9 open10
def nb (φ:Fn):CS:=csAlt (csP (psn φ)) (csAlt (csOne 38 (hSeal φ)) (csAlt (csOne 55 (hSeal φ)) (csAlt (csOne 39 (g8 nonL)) (csOne 56 (g8 nonL)))))
theorem nb_ok:CSOk Try.prog (nb realFn):=csAlt_ok psn_ok (csAlt_ok seal7 (csAlt_ok seal8 (csAlt_ok g11_ok g12_ok)))
theorem nb_ps (φ:Fn):PSOk (psn φ) (nb φ):=csP_ok
end Go.Proofs.Ytjdhndicgifnbaa.Ae
namespace Go.Proofs.Ytjdhndicgifnbaa.Tun
open Go Go.Eng Go.Proofs.Ytjdhndicgifnbaa
structure Tn where
 w:Wn
 send:List UInt8
 recv:List UInt8
 first:Bool
 sure:Bool
 rc:UInt64
 ct:UInt64
 rk:UInt64
 lf:UInt64
 wn:Int
 next:UInt64
 made:UInt64
def cT (w a:Nat) (s:Tn):List AVal:=[.ptr w 0,.str s.send,.str s.recv,.bool s.first,.bool s.sure,.fn 32 [.ptr a 0],.u64 s.rc,.u64 s.ct,.u64 s.rk,.u64 s.lf,.int .i64 s.wn,.u64 s.next]
def cW (b:Nat) (s:Wn):List AVal:=[.u64 s.sz,.slice b 0 s.L.length 1,.u64 s.hi,.bool s.any]
def tPlace (ns:List Nat) (s:Tn):List (List AVal):=[cT (ns.getD 1 0) (ns.getD 3 0) s,cW (ns.getD 2 0) s.w,s.w.L.map .u64,[.u64 s.made]]
def tFind (η:Nat→Option AObj) (t:Nat):Option (List Nat × Tn):=
 match η t with
 | some (.cells false [.ptr w 0,.str send,.str recv,.bool first,.bool sure,.fn 32 [.ptr a 0],.u64 rc,.u64 ct,.u64 rk,.u64 lf,.int .i64 wn,.u64 next])=>match η a with
  | some (.cells false [.u64 made])=>match wFind η w with
   | some ([_,b],s)=>some ([t,w,b,a],⟨s,send,recv,first,sure,rc,ct,rk,lf,wn,next,made⟩)
   | _=>none
  | _=>none
 | _=>none
theorem tFind_ok {η:Nat→Option AObj}{t:Nat}{ns:List Nat}{s:Tn}(h:tFind η t=some (ns,s)):ns.length=4∧ns[0]? = some t∧∀ (i n:Nat) (c:List AVal),ns[i]? = some n→(tPlace ns s)[i]? = some c→η n=some (.cells false c):=by
 unfold tFind at h
 split at h
 ·rename_i w send recv first sure a rc ct rk lf wn next h0
  split at h
  ·rename_i made h1
   split at h
   ·rename_i w' b s' hw
    simp only [Option.some.injEq,Prod.mk.injEq] at h
    obtain ⟨rfl,rfl⟩:=h
    obtain ⟨_,g2,g3⟩:=wFind_ok hw
    have g2:w'=w:=by simpa using g2
    subst g2
    refine ⟨rfl,rfl,fun i n c e1 e2 => ?_⟩
    match i,e1,e2 with
    | 0,e1,e2=>cases e1; cases e2; exact h0
    | 1,e1,e2=>cases e1; cases e2; exact g3 0 _ _ rfl rfl
    | 2,e1,e2=>cases e1; cases e2; exact g3 1 _ _ rfl rfl
    | 3,e1,e2=>cases e1; cases e2; exact h1
    | i+4,e1,e2=>simp at e1
   ·cases h
  ·cases h
 ·cases h
def clsT:Cls Tn:=⟨4,tPlace,tFind,fun _ _=>rfl,tFind_ok⟩
theorem relT (s:Tn):clsT.Rel s:=fun ρ ns ns' h1 h2 hρ i c c' e1 e2=>by
 have k:∀ j,j < 4→ρ (ns.getD j 0) (ns'.getD j 0):=fun j hj=>hρ j _ _ (at1 (by rw [h1]; exact hj)) (at1 (by rw [h2]; exact hj))
 match i,e1,e2 with
 | 0,e1,e2 =>
  cases e1; cases e2
  exact .cons (.ptr (k 1 (by decide))) (.cons (.same rfl) (.cons (.same rfl) (.cons (.same rfl) (.cons (.same rfl) (.cons (.fnL (.cons (.ptr (k 3 (by decide))) (.nil _))) (.same rfl))))))
 | 1,e1,e2 =>
  cases e1; cases e2
  exact .cons (.same rfl) (.cons (.slice (k 2 (by decide))) (.same rfl))
 | 2,e1,e2 =>
  cases e1; cases e2
  exact .same (ltL_u64 0 s.w.L)
 | 3,e1,e2 =>
  cases e1; cases e2
  exact .same rfl
 | i+4,e1,e2=>simp [clsT,tPlace] at e1
def hT (t w b a:Nat) (s:Tn):HL:=[(t,.cells false (cT w a s)),(w,.cells false (cW b s.w)),(b,.cells false (s.w.L.map .u64)),(a,.cells false [.u64 s.made])]
def oT (w b a:Nat) (s:Tn):List (Option AObj):=[some (.cells false (cT w a s)),some (.cells false (cW b s.w)),some (.cells false (s.w.L.map .u64)),some (.cells false [.u64 s.made])]
def srcT:List (Option Nat):=[some 0,some 1,some 2,some 3]
theorem tFind_at {H:HL}{t w b a:Nat}{s:Tn}(h0:aget H t=some (.cells false (cT w a s))) (h1:aget H w=some (.cells false (cW b s.w))) (h2:aget H b=some (.cells false (s.w.L.map .u64))) (h3:aget H a=some (.cells false [.u64 s.made])):tFind (aget H) t=some ([t,w,b,a],s):=by
 unfold tFind
 rw [h0]
 simp only [cT,h3,wFind_at (s:=s.w) h1 h2]
theorem srcT_lt:∀ j,some j ∈ srcT→j < 4:=by intro j hj; simp [srcT] at hj; omega
theorem mT {val:List Nat→Tn→AVal}{next:Tn→Tn}{ok:Tn→Bool}{s:Tn}{base:Nat}(hb:nodupB [base,0,1,2,3]=true) (ho:ok s=true):mOb (methE clsT clsT srcT 0 val next ok) base (hT 0 1 2 3 s) (val [0,1,2,3] s) (hT 0 1 2 3 (next s))=true:=by
 refine decP_of ?_
 rw [methE_app (C:=clsT) (C2:=clsT) (ns:=[0,1,2,3]) (s:=s) (tFind_at (t:=0) (w:=1) (b:=2) (a:=3) rfl rfl rfl rfl) hb ho]
 rfl
theorem w36 (s:Tn):ansM [0,1,2,3] (run1O Try.prog noPS noCS [] [] [] (mask 36) 100 36 [.ptr 0 0] (hT 0 1 2 3 s) 4)=some (.bool false,oT 1 2 3 s,[]):=by kernel_rfl
theorem w36n:(run1 Try.prog noCS (mask 36) 100 36 [.nilPtr] [] Try.prog.globals.size).map (·.1)=some (.bool true):=by kernel_rfl
def g36:List AVal→Option EffA
 | [.ptr t 0]=>some (methE clsT clsT srcT t (fun _ _=>.bool false) id fun _=>true)
 | [.nilPtr]=>some (.pure (.bool true))
 | _=>none
theorem g36_ok:CSOk Try.prog (csOne 36 g36):=csOne_ok fun args e he=>by
 unfold g36 at he
 split at he
 ·cases he
  exact meth_ok (noCS_ok _) hmix rfl (by decide) (by decide) srcT_lt rfl fun s hs=>⟨relT s,relT s,.plain rfl,methRun_of (noPS_ok _) gl 4 (w36 s) rfl rfl⟩
 ·cases he
  exact callOk_val (noCS_ok _) hmix w36n rfl rfl
 ·cases he
end Go.Proofs.Ytjdhndicgifnbaa.Tun
namespace Go.Proofs.Ytjdhndicgifnbaa.Tun
open Go Go.Eng Go.Proofs.Ytjdhndicgifnbaa
def ageU (now made:UInt64):UInt64:=(if now < made then made else now) - made
def e32 (now:UInt64) (a:Nat):EffA:=.eff fun _ η=>match η a with
 | some (.cells false [.u64 made])=>some (.u64 (ageU now made),[(a,some (.cells false [.u64 made]))])
 | _=>none
def g32:List AVal→Option EffA
 | [.u64 now,.ptr a 0]=>some (e32 now a)
 | _=>none
theorem w32 (now made:UInt64):run1 Try.prog noCS (mask 32) 100 32 [.u64 now,.ptr 0 0] [(0,.cells false [.u64 made])] 1=some (.u64 (ageU now made),[(0,.cells false [.u64 made])],(run1 Try.prog noCS (mask 32) 100 32 [.u64 0,.ptr 0 0] [(0,.cells false [.u64 0])] 1).elim 0 (·.2.2)):=by kernel_rfl
theorem g32_ok:CSOk Try.prog (csOne 32 g32):=csOne_ok fun args e he=>by
 unfold g32 at he
 split at he
 ·rename_i now a
  cases he
  refine (callOk_view (noCS_ok _) hmix (nn:=mask 32) (F:=100) (f:=32) (args:=[.u64 now,.ptr a 0]) (cargs:=[.u64 now,.ptr 0 0]) (ns:=[a]) (by rw [gl]; rfl)).less fun base H r hr => ?_
  unfold e32 at hr
  simp only [EffA.app] at hr
  split at hr
  ·rename_i us heq
   split at heq
   ·rename_i made h0
    cases heq
    cases hr
    have e1:objsA (aget H) [a] Try.prog.globals.size=some [(0,.cells false [.u64 made])]:=by
     rw [gl]
     simp only [objsA,h0]
     rfl
    have e2:run1 Try.prog noCS (mask 32) 100 32 [.u64 now,.ptr 0 0] (globA (aget H) Try.prog.globals.size 0++[(0,.cells false [.u64 made])]) (Try.prog.globals.size+[a].length)=some (.u64 (ageU now made),[(0,.cells false [.u64 made])],(run1 Try.prog noCS (mask 32) 100 32 [.u64 0,.ptr 0 0] [(0,.cells false [.u64 0])] 1).elim 0 (·.2.2)):=by
     rw [gl]
     exact w32 now made
    have e3:backA (aget H) [(0,.cells false [.u64 made])] [a] Try.prog.globals.size=some [(a,some (.cells false [.u64 made]))]:=by
     rw [gl]
     simp only [backA,h0]
     rfl
    unfold viewE
    simp only [EffA.app,e1,e2,e3]
    rfl
   ·cases heq
  ·cases hr
 ·cases he
theorem callOk_same {P:Program}{f:FuncId}{args:List AVal}{e e':EffA}(h:CallOk P f args e) (hx:∀ base H v H',e'.app base H=some (v,H')→∃ H2,e.app base H=some (v,H2)∧aget H2=aget H'):CallOk P f args e':=by
 intro σ args' H w base v H' hl hg hH happ hfree
 obtain ⟨H2,h1,h2⟩:=hx base H v H' happ
 have r:=h σ args' H w base v H2 hl hg hH h1 hfree
 rw [h2] at r
 exact r
def r32 (now:UInt64):AObj→Option AVal
 | .cells false [.u64 made]=>some (.u64 (ageU now made))
 | _=>none
def g32r:List AVal→Option EffA
 | [.u64 now,.ptr a 0]=>some (.read a (r32 now))
 | _=>none
theorem g32r_ok:CSOk Try.prog (csOne 32 g32r):=csOne_ok fun args e he=>by
 unfold g32r at he
 split at he
 ·rename_i now a
  cases he
  have h0:CallOk Try.prog 32 [.u64 now,.ptr a 0] (e32 now a):=g32_ok 32 [.u64 now,.ptr a 0] _ rfl
  refine callOk_same h0 fun base H v H' happ => ?_
  simp only [EffA.app] at happ
  cases hn:aget H a with
  | none=>rw [hn] at happ; cases happ
  | some o =>
   rw [hn] at happ
   simp only at happ
   cases hr:r32 now o with
   | none=>rw [hr] at happ; cases happ
   | some u =>
    rw [hr] at happ
    cases happ
    unfold r32 at hr
    split at hr
    ·rename_i made
     cases hr
     refine ⟨aset H a (.cells false [.u64 made]),?_,?_⟩
     ·simp only [e32,EffA.app,hn]
      rfl
     ·funext m
      rw [aget_aset]
      split
      ·rename_i hm; subst hm; exact hn.symm
      ·rfl
    ·cases hr
 ·cases he
end Go.Proofs.Ytjdhndicgifnbaa.Tun
namespace Go.Proofs.Ytjdhndicgifnbaa.Tun
open Go Go.Eng Go.Proofs.Ytjdhndicgifnbaa
def csO:CS:=csAlt (csOne 36 g36) (csOne 32 g32r)
theorem csO_ok:CSOk Try.prog csO:=csAlt_ok g36_ok g32r_ok
def bkT (s:Tn):List AVal:=[.ptr 0 0,.agg (cT 1 3 s),.ptr 1 0,.agg (cW 2 s.w),.ptr 2 0,.agg (s.w.L.map .u64),.ptr 3 0,.agg [.u64 s.made]]
noncomputable def o36 (base:Nat) (s:Tn):Bool:=mOb (methE clsT clsT srcT 0 (fun _ _=>.bool false) id fun _=>true) base (hT 0 1 2 3 s) (.bool false) (hT 0 1 2 3 s)
theorem o36_ok {base:Nat}(hb:nodupB [base,0,1,2,3]=true) (s:Tn):o36 base s=true:=mT (val:=fun _ _=>.bool false) (next:=id) (ok:=fun _=>true) (s:=s) hb rfl
theorem w12a (s:Tn) (now:UInt64):ansM [0,1,2,3] (run1O Try.prog noPS csO [300006,12,26] [true] [.bool false,.tup (bkT s)] (mask 12) 100 12 [.ptr 0 0,.u64 now] (hT 0 1 2 3 s) 4)=some (.bool true,oT 1 2 3 s,[s.send == [],o36 20 s]):=by kernel_rfl
theorem w12b (s:Tn) (now:UInt64):ansM [0,1,2,3] (run1O Try.prog noPS csO [300006,12,26] [false] [.bool false,.tup (bkT s)] (mask 12) 100 12 [.ptr 0 0,.u64 now] (hT 0 1 2 3 s) 4)=some (.bool (decide (s.lf≤ageU now s.made)),oT 1 2 3 s,[!(s.send == []),o36 20 s]):=by kernel_rfl
theorem w12n (now:UInt64):(run1 Try.prog csO (mask 12) 100 12 [.nilPtr,.u64 now] [] Try.prog.globals.size).map (·.1)=some (.bool true):=by kernel_rfl
def overT (now:UInt64) (s:Tn):Bool:=cond (s.send == []) true (decide (s.lf≤ageU now s.made))
def g12:List AVal→Option EffA
 | [.ptr t 0,.u64 now]=>some (methE clsT clsT srcT t (fun _ s=>.bool (overT now s)) id fun _=>true)
 | [.nilPtr,.u64 now]=>some (.pure (.bool true))
 | _=>none
theorem g12_ok:CSOk Try.prog (csOne 12 g12):=csOne_ok fun args e he=>by
 unfold g12 at he
 split at he
 ·rename_i t now
  cases he
  refine meth_ok csO_ok hmix rfl (by decide) (by decide) srcT_lt rfl fun s hs=>⟨relT s,relT s,.plain rfl,?_⟩
  have h6:=o36_ok (show nodupB [20,0,1,2,3]=true from rfl) s
  unfold overT
  cases hs0:(s.send == []) with
  | true=>exact methRun_of (noPS_ok _) gl 4 (w12a s now) (by simp only [allT,hs0,h6,cond_true]) rfl
  | false=>exact methRun_of (noPS_ok _) gl 4 (w12b s now) (by simp only [allT,hs0,h6,Bool.not_false,cond_true]) rfl
 ·cases he
  exact callOk_val csO_ok hmix (w12n _) rfl rfl
 ·cases he
end Go.Proofs.Ytjdhndicgifnbaa.Tun
namespace Go.Proofs.Ytjdhndicgifnbaa.Tun
open Go Go.Eng Go.Proofs.Ytjdhndicgifnbaa
theorem w16 (s:Tn):ansM [0,1,2,3] (run1O Try.prog noPS csO [300004] [] [.bool false,.tup (bkT s)] (mask 16) 100 16 [.ptr 0 0] (hT 0 1 2 3 s) 4)=some (.bool s.sure,oT 1 2 3 s,[o36 20 s]):=by kernel_rfl
theorem w17 (s:Tn):ansM [0,1,2,3] (run1O Try.prog noPS csO [300004] [] [.bool false,.tup (bkT s)] (mask 17) 100 17 [.ptr 0 0] (hT 0 1 2 3 s) 4)=some (.u64 s.next,oT 1 2 3 s,[o36 20 s]):=by kernel_rfl
def wipeT (s:Tn):Tn:={ s with send:=[],recv:=[] }
theorem w21 (s:Tn):ansM [0,1,2,3] (run1O Try.prog noPS csO [300003] [] [.bool false,.tup (bkT s)] (mask 21) 100 21 [.ptr 0 0] (hT 0 1 2 3 s) 4)=some (.tup [],oT 1 2 3 (wipeT s),[o36 12 s]):=by kernel_rfl
theorem w16n:(run1 Try.prog csO (mask 16) 100 16 [.nilPtr] [] Try.prog.globals.size).map (·.1)=some (.bool false):=by kernel_rfl
theorem w17n:(run1 Try.prog csO (mask 17) 100 17 [.nilPtr] [] Try.prog.globals.size).map (·.1)=some (.u64 0):=by kernel_rfl
theorem w21n:(run1 Try.prog csO (mask 21) 100 21 [.nilPtr] [] Try.prog.globals.size).map (·.1)=some (.tup []):=by kernel_rfl
def g16:List AVal→Option EffA
 | [.ptr t 0]=>some (methE clsT clsT srcT t (fun _ s=>.bool s.sure) id fun _=>true)
 | [.nilPtr]=>some (.pure (.bool false))
 | _=>none
def g17:List AVal→Option EffA
 | [.ptr t 0]=>some (methE clsT clsT srcT t (fun _ s=>.u64 s.next) id fun _=>true)
 | [.nilPtr]=>some (.pure (.u64 0))
 | _=>none
def g21:List AVal→Option EffA
 | [.ptr t 0]=>some (methE clsT clsT srcT t (fun _ _=>.tup []) wipeT fun _=>true)
 | [.nilPtr]=>some (.pure (.tup []))
 | _=>none
theorem n20 (s:Tn):allT [o36 20 s]=true:=by simp only [allT,o36_ok (show nodupB [20,0,1,2,3]=true from rfl),cond_true]
theorem n12 (s:Tn):allT [o36 12 s]=true:=by simp only [allT,o36_ok (show nodupB [12,0,1,2,3]=true from rfl),cond_true]
theorem g16_ok:CSOk Try.prog (csOne 16 g16):=csOne_ok fun args e he=>by
 unfold g16 at he
 split at he
 ·cases he
  exact meth_ok csO_ok hmix rfl (by decide) (by decide) srcT_lt rfl fun s hs=>⟨relT s,relT s,.plain rfl,methRun_of (noPS_ok _) gl 4 (w16 s) (n20 s) rfl⟩
 ·cases he
  exact callOk_val csO_ok hmix w16n rfl rfl
 ·cases he
theorem g17_ok:CSOk Try.prog (csOne 17 g17):=csOne_ok fun args e he=>by
 unfold g17 at he
 split at he
 ·cases he
  exact meth_ok csO_ok hmix rfl (by decide) (by decide) srcT_lt rfl fun s hs=>⟨relT s,relT s,.plain rfl,methRun_of (noPS_ok _) gl 4 (w17 s) (n20 s) rfl⟩
 ·cases he
  exact callOk_val csO_ok hmix w17n rfl rfl
 ·cases he
theorem g21_ok:CSOk Try.prog (csOne 21 g21):=csOne_ok fun args e he=>by
 unfold g21 at he
 split at he
 ·cases he
  exact meth_ok csO_ok hmix rfl (by decide) (by decide) srcT_lt rfl fun s hs=>⟨relT s,relT (wipeT s),.plain rfl,methRun_of (noPS_ok _) gl 4 (w21 s) (n12 s) rfl⟩
 ·cases he
  exact callOk_val csO_ok hmix w21n rfl rfl
 ·cases he
end Go.Proofs.Ytjdhndicgifnbaa.Tun
namespace Go.Proofs.Ytjdhndicgifnbaa.Tun
open Go Go.Eng Go.Proofs.Ytjdhndicgifnbaa
def csP14:CS:=csAlt (csOne 12 g12) csO
theorem csP14_ok:CSOk Try.prog csP14:=csAlt_ok g12_ok csO_ok
noncomputable def o12 (base:Nat) (now:UInt64) (s:Tn) (b:Bool):Bool:=mOb (methE clsT clsT srcT 0 (fun _ s=>.bool (overT now s)) id fun _=>true) base (hT 0 1 2 3 s) (.bool b) (hT 0 1 2 3 s)
theorem o12_ok {base:Nat}(hb:nodupB [base,0,1,2,3]=true){now:UInt64}{s:Tn}{b:Bool}(h:overT now s=b):o12 base now s b=true:=by
 subst h
 exact mT (val:=fun _ s=>.bool (overT now s)) (next:=id) (ok:=fun _=>true) (s:=s) hb rfl
section
variable (s:Tn) (now:UInt64)
theorem w14a:ansM [0,1,2,3] (run1O Try.prog noPS csP14 [300007,13,25] [] [.bool true,.tup (bkT s)] (mask 14) 100 14 [.ptr 0 0,.u64 now] (hT 0 1 2 3 s) 4)=some (.bool false,oT 1 2 3 s,[o12 28 now s true]):=by kernel_rfl
theorem w14b:ansM [0,1,2,3] (run1O Try.prog noPS csP14 [300007,13,25] [] [.bool false,.tup (bkT s),.bool false] (mask 14) 100 14 [.ptr 0 0,.u64 now] (hT 0 1 2 3 s) 4)=some (.bool false,oT 1 2 3 s,[isAt (cT 1 3 s) 3 (.bool false),o12 28 now s false]):=by kernel_rfl
theorem w14c:ansM [0,1,2,3] (run1O Try.prog noPS csP14 [300007,13,25] [true,true] [.bool false,.tup (bkT s),.bool true] (mask 14) 100 14 [.ptr 0 0,.u64 now] (hT 0 1 2 3 s) 4)=some (.bool true,oT 1 2 3 s,[decide (s.rc≤s.next),true,isAt (cT 1 3 s) 3 (.bool true),o12 28 now s false]):=by kernel_rfl
theorem w14d:ansM [0,1,2,3] (run1O Try.prog noPS csP14 [300007,13,25] [true,false] [.bool false,.tup (bkT s),.bool true] (mask 14) 100 14 [.ptr 0 0,.u64 now] (hT 0 1 2 3 s) 4)=some (.bool (decide (s.rk≤ageU now s.made)),oT 1 2 3 s,[!decide (s.rc≤s.next),true,isAt (cT 1 3 s) 3 (.bool true),o12 28 now s false]):=by kernel_rfl
end
def wantsT (now:UInt64) (s:Tn):Bool:=cond (overT now s) false (cond s.first (cond (decide (s.rc≤s.next)) true (decide (s.rk≤ageU now s.made))) false)
def g14:List AVal→Option EffA
 | [.ptr t 0,.u64 now]=>some (methE clsT clsT srcT t (fun _ s=>.bool (wantsT now s)) id fun _=>true)
 | _=>none
theorem first_at {s:Tn}{b:Bool}(h:s.first=b):isAt (cT 1 3 s) 3 (.bool b)=true:=by
 subst h
 exact isAt_of rfl (by simp [eqS])
theorem g14_ok:CSOk Try.prog (csOne 14 g14):=csOne_ok fun args e he=>by
 unfold g14 at he
 split at he
 ·rename_i t now
  cases he
  refine meth_ok csP14_ok hmix rfl (by decide) (by decide) srcT_lt rfl fun s hs=>⟨relT s,relT s,.plain rfl,?_⟩
  have n28:nodupB [28,0,1,2,3]=true:=rfl
  unfold wantsT
  cases h0:overT now s with
  | true=>exact methRun_of (noPS_ok _) gl 4 (w14a s now) (by simp only [allT,o12_ok n28 h0,cond_true]) rfl
  | false =>
   simp only [cond_false]
   cases h1:s.first with
   | false=>exact methRun_of (noPS_ok _) gl 4 (w14b s now) (by simp only [allT,o12_ok n28 h0,first_at h1,cond_true]) rfl
   | true =>
    simp only [cond_true]
    cases h2:decide (s.rc≤s.next) with
    | true=>exact methRun_of (noPS_ok _) gl 4 (w14c s now) (by simp only [allT,o12_ok n28 h0,first_at h1,h2,cond_true]) rfl
    | false=>exact methRun_of (noPS_ok _) gl 4 (w14d s now) (by simp only [allT,o12_ok n28 h0,first_at h1,h2,Bool.not_false,cond_true]) rfl
 ·cases he
end Go.Proofs.Ytjdhndicgifnbaa.Tun
namespace Go.Proofs.Ytjdhndicgifnbaa.Tun
open Go Go.Eng Go.Proofs.Ytjdhndicgifnbaa
def csS (φ:Ae.Fn):CS:=csAlt (csP (Ae.psn φ)) (csAlt (csOne 12 g12) (csAlt (csOne 36 g36) (csAlt (csOne 40 g40) (csAlt (csOne 42 g42) (Ae.nb φ)))))
theorem csS_ok:CSOk Try.prog (csS Ae.realFn):=csAlt_ok Ae.psn_ok (csAlt_ok g12_ok (csAlt_ok g36_ok (csAlt_ok g40_ok (csAlt_ok g42_ok Ae.nb_ok))))
section
variable (φ:Ae.Fn) (s:Tn) (now n:UInt64) (x:List UInt8) (e r:Int) (w2:Wn)
def sy19:List Nat:=[300011,300015,26,33,49]
theorem w19a:ansM [0,1,2,3] (run1O Try.prog noPS (csS φ) sy19 [] [.bool false,.tup (bkT s),.bool true,.tup (bkT s)] (mask 19) 100 19 [.ptr 0 0,.u64 now,.str x] (hT 0 1 2 3 s) 4)=some (.tup [.u64 0,.str [],.int .i64 180],oT 1 2 3 s,[o12 68 now s true,o36 36 s]):=by kernel_rfl
theorem w19b:ansM [0,1,2,3] (run1O Try.prog noPS (csS φ) sy19 [true] [.bool false,.tup (bkT s),.bool false,.tup (bkT s)] (mask 19) 100 19 [.ptr 0 0,.u64 now,.str x] (hT 0 1 2 3 s) 4)=some (.tup [.u64 0,.str [],.int .i64 180],oT 1 2 3 s,[decide (s.ct≤s.next),o12 68 now s false,o36 36 s]):=by kernel_rfl
theorem w19c:ansM [0,1,2,3] (run1O Try.prog noPS (csS φ) sy19 [false,true] [.bool false,.tup (bkT s),.bool false,.tup (bkT s)] (mask 19) 100 19 [.ptr 0 0,.u64 now,.str x] (hT 0 1 2 3 s) 4)=some (.tup [.u64 0,.str [],.int .i64 3],oT 1 2 3 s,[!s.sure,!decide (s.ct≤s.next),o12 68 now s false,o36 36 s]):=by kernel_rfl
theorem w19d:ansM [0,1,2,3] (run1O Try.prog noPS (csS φ) sy19 [false,false,true] [.bool false,.tup (bkT s),.bool false,.tup (bkT s)] (mask 19) 100 19 [.ptr 0 0,.u64 now,.str x] (hT 0 1 2 3 s) 4)=some (.tup [.u64 0,.str [],.int .i64 (φ.sr s.send (Ae.nonL s.next) [] x)],oT 1 2 3 s,[φ.sr s.send (Ae.nonL s.next) [] x != 0,!!s.sure,!decide (s.ct≤s.next),o12 68 now s false,o36 36 s]):=by kernel_rfl
theorem w19e:ansM [0,1,2,3] (run1O Try.prog noPS (csS φ) sy19 [false,false,false] [.bool false,.tup (bkT s),.bool false,.tup (bkT s)] (mask 19) 100 19 [.ptr 0 0,.u64 now,.str x] (hT 0 1 2 3 s) 4)=some (.tup [.u64 (s.next+1 - 1),.str (φ.sv s.send (Ae.nonL s.next) [] x),.int .i64 0],oT 1 2 3 { s with next:=s.next+1 },[!(φ.sr s.send (Ae.nonL s.next) [] x != 0),!!s.sure,!decide (s.ct≤s.next),o12 68 now s false,o36 36 s]):=by kernel_rfl
theorem w19n:(run1 Try.prog (csS φ) (mask 19) 100 19 [.nilPtr,.u64 now,.str x] [] Try.prog.globals.size).map (·.1)=some (.tup [.u64 0,.str [],.int .i64 1]):=by kernel_rfl
end
def incT (s:Tn):Tn:={ s with next:=s.next+1 }
def opnT (n:UInt64) (s:Tn):Tn:={ s with w:=markW n s.w,sure:=true }
def sealG (now:UInt64) (x:List UInt8) (s:Tn):Bool:=!overT now s && (!decide (s.ct≤s.next) && (s.sure && !((Ae.seF s.send (Ae.nonL s.next) [] x).2 != 0)))
def sealE (now:UInt64) (x:List UInt8) (s:Tn):Int:=cond (overT now s) 180 (cond (decide (s.ct≤s.next)) 180 (cond s.sure (Ae.seF s.send (Ae.nonL s.next) [] x).2 3))
def sealV (now:UInt64) (x:List UInt8) (s:Tn):AVal:=cond (sealG now x s) (.tup [.u64 s.next,.str (Ae.seF s.send (Ae.nonL s.next) [] x).1,.int .i64 0]) (.tup [.u64 0,.str [],.int .i64 (sealE now x s)])
def sealN (now:UInt64) (x:List UInt8) (s:Tn):Tn:=cond (sealG now x s) (incT s) s
def g19:List AVal→Option EffA
 | [.ptr t 0,.u64 now,.str x]=>some (methE clsT clsT srcT t (fun _ s=>sealV now x s) (sealN now x) fun _=>true)
 | [.nilPtr,.u64 now,.str x]=>some (.pure (.tup [.u64 0,.str [],.int .i64 1]))
 | _=>none
theorem lt_sealV (now:UInt64) (x:List UInt8) (s:Tn):ltV 0 (sealV now x s)=true:=by
 unfold sealV
 cases sealG now x s <;> rfl
theorem add_sub_one (n:UInt64):n+1 - 1=n:=by simp
theorem run19 (now:UInt64) (x:List UInt8) (s:Tn):MethRun Try.prog (csS Ae.realFn) 19 clsT clsT srcT [.u64 now,.str x] s (fun _=>sealV now x s) (sealN now x s):=by
 have n68:nodupB [68,0,1,2,3]=true:=rfl
 have h6:=o36_ok (show nodupB [36,0,1,2,3]=true from rfl) s
 unfold sealV sealN sealG sealE
 cases h0:overT now s with
 | true=>exact methRun_of (noPS_ok _) gl 4 (w19a _ s now x) (by simp only [allT,o12_ok n68 h0,h6,cond_true]) rfl
 | false =>
  simp only [Bool.not_false,Bool.true_and,cond_false]
  cases h1:decide (s.ct≤s.next) with
  | true =>
   simp only [Bool.not_true,Bool.false_and,cond_false,cond_true]
   exact methRun_of (noPS_ok _) gl 4 (w19b _ s now x) (by simp only [allT,o12_ok n68 h0,h6,h1,cond_true]) rfl
  | false =>
   simp only [Bool.not_false,Bool.true_and,cond_false]
   cases h2:s.sure with
   | false =>
    simp only [Bool.false_and,cond_false]
    exact methRun_of (noPS_ok _) gl 4 (w19c _ s now x) (by simp only [allT,o12_ok n68 h0,h6,h1,h2,Bool.not_false,cond_true]) rfl
   | true =>
    simp only [Bool.true_and,cond_true]
    have hd:=w19d Ae.realFn s now x
    have he:=w19e Ae.realFn s now x
    rw [add_sub_one] at he
    cases h3:((Ae.seF s.send (Ae.nonL s.next) [] x).2 != 0) with
    | true =>
     simp only [Bool.not_true,cond_false]
     have h3':(Ae.realFn.sr s.send (Ae.nonL s.next) [] x != 0)=true:=h3
     exact methRun_of (noPS_ok _) gl 4 hd (by simp only [allT,o12_ok n68 h0,h6,h1,h2,h3',Bool.not_false,Bool.not_true,cond_true]) rfl
    | false =>
     simp only [Bool.not_false,cond_true]
     have h3':(Ae.realFn.sr s.send (Ae.nonL s.next) [] x != 0)=false:=h3
     exact methRun_of (noPS_ok _) gl 4 he (by simp only [allT,o12_ok n68 h0,h6,h1,h2,h3',Bool.not_false,Bool.not_true,cond_true]) rfl
theorem g19_ok:CSOk Try.prog (csOne 19 g19):=csOne_ok fun args e he=>by
 unfold g19 at he
 split at he
 ·cases he
  exact meth_ok csS_ok hmix rfl (by decide) (by decide) srcT_lt rfl fun s hs=>⟨relT s,relT _,.plain (lt_sealV _ _ s),run19 _ _ s⟩
 ·cases he
  exact callOk_val csS_ok hmix (w19n Ae.realFn _ _) rfl rfl
 ·cases he
theorem mWin {val:List Nat→Wn→AVal}{next:Wn→Wn}{ok:Wn→Bool}{s:Tn}{base:Nat}(hb:nodupB [base,1,2]=true) (ho:ok s.w=true):mOb (methE clsW clsW srcW 1 val next ok) base (hT 0 1 2 3 s) (val [1,2] s.w) (hT 0 1 2 3 { s with w:=next s.w })=true:=by
 refine decP_of ?_
 rw [methE_app (C:=clsW) (C2:=clsW) (ns:=[1,2]) (s:=s.w) (wFind_at (w:=1) (b:=2) rfl rfl) hb ho]
 rfl
noncomputable def o40t (base:Nat) (n:UInt64) (s:Tn) (e:Int):Bool:=mOb (methE clsW clsW srcW 1 (fun _ s=>.int .i64 (mayW n s)) id okW) base (hT 0 1 2 3 s) (.int .i64 e) (hT 0 1 2 3 s)
noncomputable def o42t (base:Nat) (n:UInt64) (s:Tn) (e:Int) (w2:Wn):Bool:=mOb (methE clsW clsW srcW 1 (fun _ s=>.int .i64 (mayW n s)) (markW n) okW) base (hT 0 1 2 3 s) (.int .i64 e) (hT 0 1 2 3 { s with w:=w2 })
theorem o40t_ok {base:Nat}(hb:nodupB [base,1,2]=true){n:UInt64}{s:Tn}(h:okW s.w=true):o40t base n s (mayW n s.w)=true:=mWin (val:=fun _ s=>.int .i64 (mayW n s)) (next:=id) (ok:=okW) (s:=s) hb h
theorem o42t_ok {base:Nat}(hb:nodupB [base,1,2]=true){n:UInt64}{s:Tn}(h:okW s.w=true):o42t base n s (mayW n s.w) (markW n s.w)=true:=mWin (val:=fun _ s=>.int .i64 (mayW n s)) (next:=markW n) (ok:=okW) (s:=s) hb h
def sy20:List Nat:=[300015,300019,27,300034,36,46,50,300057]
section
variable (φ:Ae.Fn) (s:Tn) (now n:UInt64) (c:List UInt8) (e r:Int) (w2:Wn)
theorem w20a:ansM [0,1,2,3] (run1O Try.prog (Ae.psn φ) (csS φ) sy20 [] [.bool false,.tup (bkT s),.bool true,.tup (bkT s)] (mask 20) 100 20 [.ptr 0 0,.u64 now,.u64 n,.str c] (hT 0 1 2 3 s) 4)=some (.tup [.str [],.int .i64 180],oT 1 2 3 s,[o12 60 now s true,o36 28 s]):=by kernel_rfl
theorem w20b:ansM [0,1,2,3] (run1O Try.prog (Ae.psn φ) (csS φ) sy20 [true] [.bool false,.tup (bkT s),.bool false,.tup (bkT s)] (mask 20) 100 20 [.ptr 0 0,.u64 now,.u64 n,.str c] (hT 0 1 2 3 s) 4)=some (.tup [.str [],.int .i64 180],oT 1 2 3 s,[decide (s.ct≤n),o12 60 now s false,o36 28 s]):=by kernel_rfl
theorem w20c:ansM [0,1,2,3] (run1O Try.prog (Ae.psn φ) (csS φ) sy20 [false,true] [.bool false,.tup (bkT s),.bool false,.tup (bkT s),.int .i64 e,.tup (bkT s)] (mask 20) 100 20 [.ptr 0 0,.u64 now,.u64 n,.str c] (hT 0 1 2 3 s) 4)=some (.tup [.str [],.int .i64 e],oT 1 2 3 s,[e != 0,o40t 188 n s e,!decide (s.ct≤n),o12 60 now s false,o36 28 s]):=by kernel_rfl
theorem w20d:ansM [0,1,2,3] (run1O Try.prog (Ae.psn φ) (csS φ) sy20 [false,false,true] [.bool false,.tup (bkT s),.bool false,.tup (bkT s),.int .i64 e,.tup (bkT s)] (mask 20) 100 20 [.ptr 0 0,.u64 now,.u64 n,.str c] (hT 0 1 2 3 s) 4)=some (.tup [.str [],.int .i64 (φ.wr s.recv (Ae.nonL n) [] c)],oT 1 2 3 s,[φ.wr s.recv (Ae.nonL n) [] c != 0,φ.sl c,!(e != 0),o40t 188 n s e,!decide (s.ct≤n),o12 60 now s false,o36 28 s]):=by kernel_rfl
theorem w20e:ansM [0,1,2,3] (run1O Try.prog (Ae.psn φ) (csS φ) sy20 [false,false,false] [.bool false,.tup (bkT s),.bool false,.tup (bkT s),.int .i64 e,.tup (bkT s),.int .i64 r,.tup (bkT { s with w:=w2 })] (mask 20) 100 20 [.ptr 0 0,.u64 now,.u64 n,.str c] (hT 0 1 2 3 s) 4)=some (.tup [.str (φ.ov s.recv (Ae.nonL n) [] c),.int .i64 0],oT 1 2 3 { s with w:=w2,sure:=true },[o42t 380 n s r w2,!(φ.wr s.recv (Ae.nonL n) [] c != 0),φ.sl c,!(e != 0),o40t 188 n s e,!decide (s.ct≤n),o12 60 now s false,o36 28 s]):=by kernel_rfl
theorem w20n:(run1 Try.prog (csS φ) (mask 20) 100 20 [.nilPtr,.u64 now,.u64 n,.str c] [] Try.prog.globals.size).map (·.1)=some (.tup [.str [],.int .i64 1]):=by kernel_rfl
end
def openG (now n:UInt64) (c:List UInt8) (s:Tn):Bool:=!overT now s && (!decide (s.ct≤n) && (!(mayW n s.w != 0) && !((Ae.opF s.recv (Ae.nonL n) [] c).2 != 0)))
def openE (now n:UInt64) (c:List UInt8) (s:Tn):Int:=cond (overT now s) 180 (cond (decide (s.ct≤n)) 180 (cond (mayW n s.w != 0) (mayW n s.w) (Ae.opF s.recv (Ae.nonL n) [] c).2))
def openV (now n:UInt64) (c:List UInt8) (s:Tn):AVal:=cond (openG now n c s) (.tup [.str (Ae.opF s.recv (Ae.nonL n) [] c).1,.int .i64 0]) (.tup [.str [],.int .i64 (openE now n c s)])
def openN (now n:UInt64) (c:List UInt8) (s:Tn):Tn:=cond (openG now n c s) (opnT n s) s
theorem lt_openV (now n:UInt64) (c:List UInt8) (s:Tn):ltV 0 (openV now n c s)=true:=by
 unfold openV
 cases openG now n c s <;> rfl
theorem run20 (now n:UInt64) (c:List UInt8) (hc:Ae.slR c=true) (s:Tn) (hs:okW s.w=true):MethRun Try.prog (csS Ae.realFn) 20 clsT clsT srcT [.u64 now,.u64 n,.str c] s (fun _=>openV now n c s) (openN now n c s):=by
 have n60:nodupB [60,0,1,2,3]=true:=rfl
 have h6:=o36_ok (show nodupB [28,0,1,2,3]=true from rfl) s
 have h4:=o40t_ok (show nodupB [188,1,2]=true from rfl) (n:=n) hs
 have h42:=o42t_ok (show nodupB [380,1,2]=true from rfl) (n:=n) hs
 have hc':Ae.realFn.sl c=true:=hc
 have hps:PSOk (Ae.psn Ae.realFn) (csS Ae.realFn):=csP_ok
 unfold openV openN openG openE
 cases h0:overT now s with
 | true=>exact methRun_of hps gl 4 (w20a _ s now n c) (by simp only [allT,o12_ok n60 h0,h6,cond_true]) rfl
 | false =>
  simp only [Bool.not_false,Bool.true_and,cond_false]
  cases h1:decide (s.ct≤n) with
  | true =>
   simp only [Bool.not_true,Bool.false_and,cond_false,cond_true]
   exact methRun_of hps gl 4 (w20b _ s now n c) (by simp only [allT,o12_ok n60 h0,h6,h1,cond_true]) rfl
  | false =>
   simp only [Bool.not_false,Bool.true_and,cond_false]
   cases h2:(mayW n s.w != 0) with
   | true =>
    simp only [Bool.not_true,Bool.false_and,cond_false,cond_true]
    exact methRun_of hps gl 4 (w20c _ s now n c _) (by simp only [allT,o12_ok n60 h0,h6,h1,h2,h4,Bool.not_false,cond_true]) rfl
   | false =>
    simp only [Bool.not_false,Bool.true_and,cond_false]
    cases h3:((Ae.opF s.recv (Ae.nonL n) [] c).2 != 0) with
    | true =>
     simp only [Bool.not_true,cond_false]
     have h3':(Ae.realFn.wr s.recv (Ae.nonL n) [] c != 0)=true:=h3
     exact methRun_of hps gl 4 (w20d Ae.realFn s now n c (mayW n s.w)) (by simp only [allT,o12_ok n60 h0,h6,h1,h2,h3',h4,hc',Bool.not_false,Bool.not_true,cond_true]) rfl
    | false =>
     simp only [Bool.not_false,cond_true]
     have h3':(Ae.realFn.wr s.recv (Ae.nonL n) [] c != 0)=false:=h3
     exact methRun_of hps gl 4 (w20e Ae.realFn s now n c (mayW n s.w) (mayW n s.w) (markW n s.w)) (by simp only [allT,o12_ok n60 h0,h6,h1,h2,h3',h4,h42,hc',Bool.not_false,Bool.not_true,cond_true]) rfl
def g20:List AVal→Option EffA
 | [.ptr t 0,.u64 now,.u64 n,.str c]=>cond (Ae.slR c) (some (methE clsT clsT srcT t (fun _ s=>openV now n c s) (openN now n c) fun s=>okW s.w)) none
 | [.nilPtr,.u64 now,.u64 n,.str c]=>some (.pure (.tup [.str [],.int .i64 1]))
 | _=>none
theorem g20_ok:CSOk Try.prog (csOne 20 g20):=csOne_ok fun args e he=>by
 unfold g20 at he
 split at he
 ·rename_i t now n c
  cases hc:Ae.slR c <;> rw [hc] at he <;> simp only [cond_true,cond_false] at he
  ·cases he
  ·cases he
   exact meth_ok csS_ok hmix rfl (by decide) (by decide) srcT_lt rfl fun s hs=>⟨relT s,relT _,.plain (lt_openV _ _ _ s),run20 _ _ _ hc s hs⟩
 ·cases he
  exact callOk_val csS_ok hmix (w20n Ae.realFn _ _ _) rfl rfl
 ·cases he
end Go.Proofs.Ytjdhndicgifnbaa.Tun
