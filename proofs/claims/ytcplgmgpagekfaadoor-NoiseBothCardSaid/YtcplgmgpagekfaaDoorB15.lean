/- Texts PrimeL, Mq3, Vk7: what they show that this claim uses. -/
import Derived.Test.YtcplgmgpagekfaaDoorB12
import Derived.Test.YtcplgmgpagekfaaDoorB14
set_option maxRecDepth 100000
set_option maxHeartbeats 1000000
set_option linter.unusedVariables false
set_option linter.unusedSimpArgs false
namespace Go.Num
theorem gen1257559732178653:Gen 1257559732178653 2:=gen_cert 1257559732178653 2 [2,2,3,7,23,531581,1224481] (fun q hq=>by
 simp only [List.mem_cons,List.mem_nil_iff,or_false] at hq
 rcases hq with rfl | rfl | rfl | rfl | rfl | rfl | rfl
 ·exact (irr_small 2 2000 rfl (by kernel_rfl))
 ·exact (irr_small 2 2000 rfl (by kernel_rfl))
 ·exact (irr_small 3 2000 rfl (by kernel_rfl))
 ·exact (irr_small 7 2000 rfl (by kernel_rfl))
 ·exact (irr_small 23 2000 rfl (by kernel_rfl))
 ·exact (irr_small 531581 2000 rfl (by kernel_rfl))
 ·exact (irr_small 1224481 2000 rfl (by kernel_rfl))
 ) (by kernel_rfl)
theorem irr1257559732178653:Irr 1257559732178653:=gen1257559732178653.irr
theorem gen4434155615661930479:Gen 4434155615661930479 17:=gen_cert 4434155615661930479 17 [2,41,43,1257559732178653] (fun q hq=>by
 simp only [List.mem_cons,List.mem_nil_iff,or_false] at hq
 rcases hq with rfl | rfl | rfl | rfl
 ·exact (irr_small 2 2000 rfl (by kernel_rfl))
 ·exact (irr_small 41 2000 rfl (by kernel_rfl))
 ·exact (irr_small 43 2000 rfl (by kernel_rfl))
 ·exact (irr1257559732178653)
 ) (by kernel_rfl)
theorem irr4434155615661930479:Irr 4434155615661930479:=gen4434155615661930479.irr
theorem gen172054593956031949258510691:Gen 172054593956031949258510691 2:=gen_cert 172054593956031949258510691 2 [2,5,1361,2851,4434155615661930479] (fun q hq=>by
 simp only [List.mem_cons,List.mem_nil_iff,or_false] at hq
 rcases hq with rfl | rfl | rfl | rfl | rfl
 ·exact (irr_small 2 2000 rfl (by kernel_rfl))
 ·exact (irr_small 5 2000 rfl (by kernel_rfl))
 ·exact (irr_small 1361 2000 rfl (by kernel_rfl))
 ·exact (irr_small 2851 2000 rfl (by kernel_rfl))
 ·exact (irr4434155615661930479)
 ) (by kernel_rfl)
theorem irr172054593956031949258510691:Irr 172054593956031949258510691:=gen172054593956031949258510691.irr
theorem gen292386187:Gen 292386187 2:=gen_cert 292386187 2 [2,3,3,3,3,307,5879] (fun q hq=>by
 simp only [List.mem_cons,List.mem_nil_iff,or_false] at hq
 rcases hq with rfl | rfl | rfl | rfl | rfl | rfl | rfl
 ·exact (irr_small 2 2000 rfl (by kernel_rfl))
 ·exact (irr_small 3 2000 rfl (by kernel_rfl))
 ·exact (irr_small 3 2000 rfl (by kernel_rfl))
 ·exact (irr_small 3 2000 rfl (by kernel_rfl))
 ·exact (irr_small 3 2000 rfl (by kernel_rfl))
 ·exact (irr_small 307 2000 rfl (by kernel_rfl))
 ·exact (irr_small 5879 2000 rfl (by kernel_rfl))
 ) (by kernel_rfl)
theorem irr292386187:Irr 292386187:=gen292386187.irr
theorem gen213441916511:Gen 213441916511 13:=gen_cert 213441916511 13 [2,5,73,292386187] (fun q hq=>by
 simp only [List.mem_cons,List.mem_nil_iff,or_false] at hq
 rcases hq with rfl | rfl | rfl | rfl
 ·exact (irr_small 2 2000 rfl (by kernel_rfl))
 ·exact (irr_small 5 2000 rfl (by kernel_rfl))
 ·exact (irr_small 73 2000 rfl (by kernel_rfl))
 ·exact (irr292386187)
 ) (by kernel_rfl)
theorem irr213441916511:Irr 213441916511:=gen213441916511.irr
theorem gen19757330305831588566944191468367130476339:Gen 19757330305831588566944191468367130476339 2:=gen_cert 19757330305831588566944191468367130476339 2 [2,269,213441916511,172054593956031949258510691] (fun q hq=>by
 simp only [List.mem_cons,List.mem_nil_iff,or_false] at hq
 rcases hq with rfl | rfl | rfl | rfl
 ·exact (irr_small 2 2000 rfl (by kernel_rfl))
 ·exact (irr_small 269 2000 rfl (by kernel_rfl))
 ·exact (irr213441916511)
 ·exact (irr172054593956031949258510691)
 ) (by kernel_rfl)
theorem irr19757330305831588566944191468367130476339:Irr 19757330305831588566944191468367130476339:=gen19757330305831588566944191468367130476339.irr
theorem gen276602624281642239937218680557139826668747:Gen 276602624281642239937218680557139826668747 2:=gen_cert 276602624281642239937218680557139826668747 2 [2,7,19757330305831588566944191468367130476339] (fun q hq=>by
 simp only [List.mem_cons,List.mem_nil_iff,or_false] at hq
 rcases hq with rfl | rfl | rfl
 ·exact (irr_small 2 2000 rfl (by kernel_rfl))
 ·exact (irr_small 7 2000 rfl (by kernel_rfl))
 ·exact (irr19757330305831588566944191468367130476339)
 ) (by kernel_rfl)
theorem irr276602624281642239937218680557139826668747:Irr 276602624281642239937218680557139826668747:=gen276602624281642239937218680557139826668747.irr
theorem gen3044861653679985063343:Gen 3044861653679985063343 5:=gen_cert 3044861653679985063343 5 [2,3,11,30703,82163,132667,137849] (fun q hq=>by
 simp only [List.mem_cons,List.mem_nil_iff,or_false] at hq
 rcases hq with rfl | rfl | rfl | rfl | rfl | rfl | rfl
 ·exact (irr_small 2 2000 rfl (by kernel_rfl))
 ·exact (irr_small 3 2000 rfl (by kernel_rfl))
 ·exact (irr_small 11 2000 rfl (by kernel_rfl))
 ·exact (irr_small 30703 2000 rfl (by kernel_rfl))
 ·exact (irr_small 82163 2000 rfl (by kernel_rfl))
 ·exact (irr_small 132667 2000 rfl (by kernel_rfl))
 ·exact (irr_small 137849 2000 rfl (by kernel_rfl))
 ) (by kernel_rfl)
theorem irr3044861653679985063343:Irr 3044861653679985063343:=gen3044861653679985063343.irr
theorem gen14741173:Gen 14741173 2:=gen_cert 14741173 2 [2,2,3,3,409477] (fun q hq=>by
 simp only [List.mem_cons,List.mem_nil_iff,or_false] at hq
 rcases hq with rfl | rfl | rfl | rfl | rfl
 ·exact (irr_small 2 2000 rfl (by kernel_rfl))
 ·exact (irr_small 2 2000 rfl (by kernel_rfl))
 ·exact (irr_small 3 2000 rfl (by kernel_rfl))
 ·exact (irr_small 3 2000 rfl (by kernel_rfl))
 ·exact (irr_small 409477 2000 rfl (by kernel_rfl))
 ) (by kernel_rfl)
theorem irr14741173:Irr 14741173:=gen14741173.irr
theorem gen58964693:Gen 58964693 2:=gen_cert 58964693 2 [2,2,14741173] (fun q hq=>by
 simp only [List.mem_cons,List.mem_nil_iff,or_false] at hq
 rcases hq with rfl | rfl | rfl
 ·exact (irr_small 2 2000 rfl (by kernel_rfl))
 ·exact (irr_small 2 2000 rfl (by kernel_rfl))
 ·exact (irr14741173)
 ) (by kernel_rfl)
theorem irr58964693:Irr 58964693:=gen58964693.irr
theorem gen198211423230930754013084525763697:Gen 198211423230930754013084525763697 5:=gen_cert 198211423230930754013084525763697 5 [2,2,2,2,3,23,58964693,3044861653679985063343] (fun q hq=>by
 simp only [List.mem_cons,List.mem_nil_iff,or_false] at hq
 rcases hq with rfl | rfl | rfl | rfl | rfl | rfl | rfl | rfl
 ·exact (irr_small 2 2000 rfl (by kernel_rfl))
 ·exact (irr_small 2 2000 rfl (by kernel_rfl))
 ·exact (irr_small 2 2000 rfl (by kernel_rfl))
 ·exact (irr_small 2 2000 rfl (by kernel_rfl))
 ·exact (irr_small 3 2000 rfl (by kernel_rfl))
 ·exact (irr_small 23 2000 rfl (by kernel_rfl))
 ·exact (irr58964693)
 ·exact (irr3044861653679985063343)
 ) (by kernel_rfl)
theorem irr198211423230930754013084525763697:Irr 198211423230930754013084525763697:=gen198211423230930754013084525763697.irr
theorem gen7237005577332262213973186563042994240857116359379907606001950938285454250989:Gen 7237005577332262213973186563042994240857116359379907606001950938285454250989 2:=gen_cert 7237005577332262213973186563042994240857116359379907606001950938285454250989 2 [2,2,3,11,198211423230930754013084525763697,276602624281642239937218680557139826668747] (fun q hq=>by
 simp only [List.mem_cons,List.mem_nil_iff,or_false] at hq
 rcases hq with rfl | rfl | rfl | rfl | rfl | rfl
 ·exact (irr_small 2 2000 rfl (by kernel_rfl))
 ·exact (irr_small 2 2000 rfl (by kernel_rfl))
 ·exact (irr_small 3 2000 rfl (by kernel_rfl))
 ·exact (irr_small 11 2000 rfl (by kernel_rfl))
 ·exact (irr198211423230930754013084525763697)
 ·exact (irr276602624281642239937218680557139826668747)
 ) (by kernel_rfl)
end Go.Num
namespace Go.Num
open Go Go.Eng
theorem kA_eq:kA=toF 121665:=rfl
theorem kd_nat:(dNat * (121665+1)+121665) % Pq=0:=by decide
theorem kd_F:dF * (kA+1) = -kA:=by
 have h:toF (dNat * (121665+1)+121665)=0:=toF_zero.2 kd_nat
 rw [toF_add,toF_mul,toF_add,toF_one,← kA_eq] at h
 have e:toF dNat=dF:=rfl
 rw [e] at h
 generalize kA=k at *
 generalize dF=d at *
 exact neg_of h
theorem k1_ne:kA+1 ≠ 0:=by
 intro h
 rw [kA_eq,← toF_one,← toF_add] at h
 have:=toF_zero.1 h
 revert this
 decide
theorem small1:opsF.small 1=1:=toF_one
theorem onB:OnA dF aB:=by have:=on_aff pr_base.on; rw [aff_up] at this; exact this
theorem toF_invF (z n:Nat) (hn:n+2=Pq) (h0:0 < n):toF (z ^ n % Pq)=invF (toF z):=by
 rw [show toF (z ^ n % Pq)=toF (z ^ n) from toF_eq.2 (Nat.mod_mod _ _)]
 by_cases hz:z % Pq=0
 ·rw [toF_zero.2 hz,inv_zero]
  refine toF_zero.2 ?_
  rw [Nat.pow_mod,hz,Nat.zero_pow h0,Nat.zero_mod]
 ·have hz':toF z ≠ 0:=fun e=>hz (toF_zero.1 e)
  refine F_cancel hz' ?_
  rw [invF_mul hz',← toF_mul,← toF_one]
  refine toF_eq.2 ?_
  have:=genP.inv P3 hz
  rw [show Pq - 2=n by omega] at this
  rw [this]
  exact (Nat.mod_eq_of_lt (by rw [← hn]; omega)).symm
theorem quot_F {p:P2 Nat}{q:P2 Fp}(hx:Rm p.x q.x) (hz:Rm p.z q.z):toF (quotM p)=q.x * invF q.z:=by
 unfold quotM
 rw [pw_inv,show toF (p.x * (p.z ^ (Pq - 2) % Pq) % Pq)=toF (p.x * (p.z ^ (Pq - 2) % Pq)) from toF_eq.2 (Nat.mod_mod _ _),toF_mul,toF_invF p.z (Pq - 2) (by decide) (by decide),hx.val,hz.val]
theorem nb_div (k:List UInt8) (hk:leNat k < 2 ^ 255):∀ j,j≤255→nb k j=leNat k / 2 ^ (255 - j)
 | 0,_=>by rw [Nat.sub_zero,Nat.div_eq_of_lt hk]; rfl
 | j+1,h=>by
  have ih:=nb_div k hk j (by omega)
  unfold nb
  rw [ih,bitK_val]
  have e1:255 - j=(254 - j)+1:=by omega
  have e2:255 - (j+1)=254 - j:=by omega
  rw [e1,e2,Nat.pow_succ,← Nat.div_div_eq_div_mul]
  generalize leNat k / 2 ^ (254 - j)=v
  by_cases hv:v % 2=1
  ·rw [decide_eq_true hv,cond_true]; omega
  ·rw [decide_eq_false hv,cond_false]; omega
theorem nb_all (k:List UInt8) (hk:leNat k < 2 ^ 255):nb k 255=leNat k:=by
 rw [nb_div k hk 255 (Nat.le_refl _),Nat.sub_self,Nat.pow_zero,Nat.div_one]
theorem lad_F {D:Fp × Fp}(hD:OnA dF D) (n3:D.2 ≠ 1) (n4:D.2 ≠ -1){u:Nat}(hu:toF u=uF D.2) (hlt:u < Pq) (k:List UInt8) (hk:leNat (clampL k) < 2 ^ 255) :
  toF (quotM (ladM k u))=uF (mulA dF D (leNat (clampL k))).2:=by
 have m3:1 - D.2 ≠ 0:=fun e=>n3 (one_sub e)
 have hu2:toF u * (1 - D.2)=1+D.2:=by rw [hu]; exact div_back m3
 have r:=(lad_keeps keeps_MF (clampL k) (⟨hlt,rfl⟩:Rm u (toF u)) 255).1
 have q:=(lad_pt crv kd_F k1_ne hD n3 n4 hu2 (clampL k) small1 255).1
 rw [nb_all _ hk] at q
 rw [← rp_val q]
 exact quot_F r.1 r.2
theorem clamp_val {k:List UInt8}(h:isLen k 32=true):leNat (clampL k) % 8=0∧2 ^ 254≤leNat (clampL k)∧leNat (clampL k) < 2 ^ 255:=by
 rw [isLen_eq] at h
 obtain ⟨a,m,b,rfl,hm⟩:∃ a m b,k=a::(m++[b])∧m.length=30:=by
  match k,h with
  | a::l,h =>
   have h1:l.length=31:=by simpa using h
   refine ⟨a,l.take 30,l.getD 30 0,?_,by rw [List.length_take]; omega⟩
   have h2:l.drop 30=[l.getD 30 0]:=by
    rw [List.drop_eq_getElem_cons (by omega),List.drop_of_length_le (by omega)]
    rw [List.getD_eq_getElem?_getD,List.getElem?_eq_getElem (by omega)]; rfl
   rw [← h2,List.take_append_drop]
 have e:clampL (a::(m++[b]))=(a &&& 248)::(m++[(b &&& 127) ||| 64]):=by
  unfold clampL
  have g1:(a::(m++[b])).getD 31 0=b:=by
   rw [List.getD_eq_getElem?_getD,List.getElem?_cons_succ,List.getElem?_append_right (by omega),hm]; rfl
  rw [g1]
  show ((a &&& 248)::(m++[b])).set 31 _=_
  rw [List.set_cons_succ,List.set_append_right _ _ (by omega),hm]; rfl
 rw [e]
 have hb:=leNat_bound m
 rw [hm] at hb
 have s1:leNat ((a &&& 248)::(m++[(b &&& 127) ||| 64]))=(a &&& 248).toNat+256 * (leNat m+256 ^ 30 * ((b &&& 127) ||| 64).toNat):=by
  show (a &&& 248).toNat+256 * leNat (m++[(b &&& 127) ||| 64])=_
  rw [leNat_app2,hm]
  rfl
 have k1:=all8 (f:=fun x=>(x &&& 248).toNat % 8 == 0) (by kernel_rfl) a
 have k2:=all8 (f:=fun x=>Nat.ble 64 ((x &&& 127) ||| 64).toNat && Nat.ble ((x &&& 127) ||| 64).toNat 127) (by kernel_rfl) b
 simp only [beq_iff_eq] at k1
 simp only [Bool.and_eq_true,Nat.ble_eq] at k2
 have k3:=(a &&& 248).toNat_lt
 rw [s1]
 generalize (a &&& 248).toNat=x at *
 generalize ((b &&& 127) ||| 64).toNat=y at *
 generalize leNat m=z at *
 simp only [Nat.reducePow] at *
 omega
theorem genL:Gen Lq 2:=gen7237005577332262213973186563042994240857116359379907606001950938285454250989
theorem L3:3≤Lq:=by decide
theorem L_mul {a b:Nat}(h:a * b % Lq=0):a % Lq=0 ∨ b % Lq=0:=by
 by_cases ha:a % Lq=0
 ·exact .inl ha
 ·exact .inr (by
   have:=genL.cancel L3 ha (s:=b) (t:=0) (by rw [h,Nat.mul_zero,Nat.zero_mod])
   rw [this,Nat.zero_mod])
theorem L_8:¬ 8 % Lq=0:=by decide
theorem L_2:¬ 2 % Lq=0:=by decide
theorem L_big:2 ^ 252 < Lq:=by decide
theorem clamp_L {k:List UInt8}(h:isLen k 32=true):¬ leNat (clampL k) % Lq=0:=by
 obtain ⟨h1,h2,h3⟩:=clamp_val h
 generalize leNat (clampL k)=n at *
 intro e
 have e2:n=8 * (n / 8):=by omega
 rw [e2] at e
 have e3:=(L_mul e).resolve_left L_8
 have lb:=L_big
 have lt:n / 8 < Lq:=by
  simp only [Nat.reducePow] at h3 lb
  omega
 rw [Nat.mod_eq_of_lt lt] at e3
 simp only [Nat.reducePow] at h2
 omega
theorem B_ne:aB ≠ zeroA:=by
 intro e
 have h:=congrArg (fun p:Fp × Fp=>p.1.val) e
 revert h
 decide
theorem mul_ne {n:Nat}(h:¬ n % Lq=0):mulA dF aB n ≠ zeroA:=by
 intro e
 have h1:=genL.inv L3 h
 have h2:mulA dF aB (n * n ^ (Lq - 2))=zeroA:=by rw [mulA_mul crv onB,e,mulA_zero]
 rw [← order_mod,h1,mulA_one] at h2
 exact B_ne h2
theorem x_zero {d i:Fp}(h:Crv d i){a:Fp × Fp}(ha:OnA d a) (hy:a.2=1 ∨ a.2 = -1):a.1=0:=by
 have e:=k_alg d a.1 a.2 ha
 have hk:=k_ne h ha
 have hz:a.1 * a.1 * (1+d * (a.2 * a.2))=0:=by
  rw [e]
  exact sq_one_gen hy
 exact F_sq_zero ((F_mul_zero hz).resolve_right hk)
theorem twice_zero {d i:Fp}(h:Crv d i){a:Fp × Fp}(ha:OnA d a) (hy:a.2=1 ∨ a.2 = -1):addA d a a=zeroA:=by
 have hx:=x_zero h ha hy
 have e:negA a=a:=by
  unfold negA
  exact Prod.ext (by show -a.1=a.1; exact neg_zero' hx) rfl
 have:=addA_neg h ha
 rw [e] at this
 exact this
theorem mul_y {n:Nat}(h:¬ n % Lq=0):(mulA dF aB n).2 ≠ 1∧(mulA dF aB n).2 ≠ -1:=by
 have key:¬ ((mulA dF aB n).2=1 ∨ (mulA dF aB n).2 = -1):=fun hy=>by
  have h1:=twice_zero crv (OnA.mul crv onB n) hy
  rw [← mulA_add crv onB] at h1
  refine mul_ne (n:=n+n) (fun e => ?_) h1
  rw [show n+n=2 * n by omega] at e
  exact (L_mul e).elim L_2 h
 exact ⟨fun e=>key (.inl e),fun e=>key (.inr e)⟩
theorem uF_ne {y:Fp}(h1:y ≠ 1) (h2:y ≠ -1):uF y ≠ 0:=by
 unfold uF
 have m3:1 - y ≠ 0:=fun e=>h1 (one_sub e)
 refine F_mul_ne (fun e=>h2 (one_add e)) (fun e => ?_)
 have:=invF_mul m3
 rw [e,mul_zero'] at this
 exact F_one this.symm
structure KeyOf (u:List UInt8) (n:Nat):Prop where
 len:isLen u 32=true
 lt:leNat u < Pq
 val:toF (leNat u)=uF (mulA dF aB n).2
 ne:¬ n % Lq=0
theorem u_nine:toF 9=uF aB.2:=by
 have h:toF (9 * (1+(Pq - yB % Pq)))=toF (1+yB):=toF_eq.2 (by decide)
 rw [toF_mul,toF_sub,toF_add,toF_one] at h
 have e:toF yB=aB.2:=rfl
 rw [e] at h
 have n:=(mul_y (n:=1) (by decide)).1
 rw [mulA_one] at n
 have m3:1 - aB.2 ≠ 0:=fun e=>n (one_sub e)
 unfold uF
 exact (F_eq_div m3 h).symm
theorem key_nine:KeyOf nine32 1:=⟨rfl,by rw [nine_val]; decide,by rw [nine_val,mulA_one]; exact u_nine,by decide⟩
theorem quot_lt (p:P2 Nat):quotM p < Pq:=Nat.mod_lt _ Pq_pos
theorem KeyOf.lad {u:List UInt8}{n:Nat}(h:KeyOf u n){k:List UInt8}(hk:isLen k 32=true):KeyOf (ladE k u) (n * leNat (clampL k)):=by
 have hp:Pq < p255:=by decide
 have e:=ladE_nat k h.len
 rw [Nat.mod_eq_of_lt (show leNat u < p255 from Nat.lt_trans h.lt hp),Nat.mod_eq_of_lt h.lt] at e
 obtain ⟨y1,y2⟩:=mul_y h.ne
 have q:=lad_F (OnA.mul crv onB n) y1 y2 h.val h.lt k (clamp_val hk).2.2
 rw [← mulA_mul crv onB] at q
 exact ⟨isLen_lad _ _,by rw [e]; exact quot_lt _,by rw [e]; exact q,fun e=>(L_mul e).elim h.ne (clamp_L hk)⟩
theorem KeyOf.nz {u:List UInt8}{n:Nat}(h:KeyOf u n):(u == zero32)=false:=by
 obtain ⟨y1,y2⟩:=mul_y h.ne
 rw [beq_eq_false_iff_ne]
 intro e
 have v:=h.val
 rw [e,zero_val32,toF_nil] at v
 exact uF_ne y1 y2 v.symm
theorem KeyOf.same {u v:List UInt8}{n m:Nat}(h:KeyOf u n) (k:KeyOf v m) (e:n=m):u=v:=by
 subst e
 refine leNat_inj ((isLen_eq.1 h.len).trans (isLen_eq.1 k.len).symm) ?_
 have:=toF_eq.1 (h.val.trans k.val.symm)
 rwa [Nat.mod_eq_of_lt h.lt,Nat.mod_eq_of_lt k.lt] at this
end Go.Num
namespace Go.Proofs.YtcplgmgpagekfaaDoor
open Go Go.Eng Go.Num Go.Bla
theorem n_len {a:L8}(h:neI (a.length:Int) 32=false):a.length=32:=by
 unfold neI eI at h
 simp at h
 omega
theorem n_32 {a:L8}(h:a.length=32):(!(neI (a.length:Int) 32))=true:=by rw [h]; rfl
theorem ans_full {φ:Fz}(hφ:OkR φ){s:St}(hi:Inv s) (hf:s.f=0){a e f t:L8}(ha:a.length=32) (he:e.length=32) (hff:f.length=32) (ht:t.length≤4096) (hfe:DH φ f e) (hfa:DH φ f a) :
  ∃ r c0 c1 h:L8,c0.length=32∧c1.length=32∧h.length=32∧anV φ s (φ.pu a) (φ.pu e) f t=.tup [.str r,.agg (gotC (φ.pu a) [] c1 c0 h),.int .i64 0]∧∀ o,fiV φ s a e o r=.tup [.agg (gotC o t c0 c1 h),.int .i64 0]:=by
 obtain ⟨r,c0,c1,h,hrl,e0,e1,e2,had,hfd⟩:=answer_ok hφ hi hf ha he hff ht hfe hfa
 have k0:Inv ⟨s.h,s.ck,s.k,0⟩:=hi
 have k4:Inv (j4 φ s (φ.pu a) (φ.pu e) f t):=inv_sealT _ (inv_addT _ _ (inv_addT _ _ (inv_mix _ k0)))
 exact ⟨r,c0,c1,h,by rw [e0]; exact outC_len _,by rw [e1]; exact outC_len _,by rw [e2]; exact k4.1,by rw [ans_eq hφ.toOkY hi hf,had],fun o=>by rw [fin_eq hi hf,hfd]⟩
theorem wr_nat {x y:Nat}(h:x+y < 4611686018427387904):wr (x:Int) (y:Int)=((x+y:Nat):Int):=by
 unfold wr
 rw [wrapI _ (by omega) (by omega)]
 omega
theorem lg_le {a b e f p o t:L8}(ha:a.length≤140737488355327) (hb:b.length≤140737488355327) (he:e.length≤140737488355327) (hf:f.length≤140737488355327) (hp:p.length≤140737488355327) (ho:o.length≤140737488355327) (ht:t.length≤140737488355327)
  (h:lgB a b e f p o t=false):p.length≤1024∧o.length≤1024∧t.length≤1024:=by
 unfold lgB at h
 rw [wr_nat (by omega),wr_nat (by omega),wr_nat (by omega),wr_nat (by omega),wr_nat (by omega),wr_nat (by omega)] at h
 simp only [decide_eq_false_iff_not] at h
 omega
theorem lawB {φ:Fz}(hφ:OkR φ) (hd:∀ a b:L8,a.length=32→b.length=32→DH φ a b) (a b e f p o t ag:L8) (ba:a.length≤140737488355327) (bb:b.length≤140737488355327) (be:e.length≤140737488355327) (bf:f.length≤140737488355327) (bp:p.length≤140737488355327) (bo:o.length≤140737488355327) (bt:t.length≤140737488355327):(run1 Tryd.prog (csL φ) (mask 3) 200 3 [rB a b e f p o t,.str ag] H0 1).map (·.1)=some (.bool true):=by
 have hps:PSOk (psL φ) (csL φ):=csP_ok
 cases hl:lgB a b e f p o t with
 | true=>exact ansO_run hps (bL0 φ a b e f p o t ag) (allM (lkO rfl) (allM hl rfl))
 | false =>
 cases ha:neI (a.length:Int) 32 with
 | true=>exact ansO_run hps (bL1 φ a b e f p o t ag) (allM (lkO rfl) (allM ha (allM (nt hl) rfl)))
 | false =>
 cases hb:neI (b.length:Int) 32 with
 | true=>exact ansO_run hps (bL2 φ a b e f p o t ag) (allM (lkO rfl) (allM hb (allM (nt ha) (allM (nt hl) rfl))))
 | false =>
 cases he:neI (e.length:Int) 32 with
 | true=>exact ansO_run hps (bL3 φ a b e f p o t ag) (allM (lkO rfl) (allM he (allM (nt hb) (allM (nt ha) (allM (nt hl) rfl)))))
 | false =>
 cases hf:neI (f.length:Int) 32 with
 | true=>exact ansO_run hps (bL4 φ a b e f p o t ag) (allM (lkO rfl) (allM hf (allM (nt he) (allM (nt hb) (allM (nt ha) (allM (nt hl) rfl))))))
 | false =>
 have la:=n_len ha
 have lb:=n_len hb
 have le:=n_len he
 have lf:=n_len hf
 obtain ⟨lp,lo,lt⟩:=lg_le ba bb be bf bp bo bt hl
 obtain ⟨hi,hbg⟩:=begin_e hφ la lb le (p:=p) (t:=o) (by omega) (by omega) (hd e b le lb) (hd a b la lb)
 have hrd:=read_e hφ la lb le (p:=p) (t:=o) (by omega) (by omega) (hd e b le lb) (hd a b la lb)
 generalize hS:z5 φ a (φ.pu b) e p o=S at hi hbg hrd
 have hSf:S.f=0:=by rw [← hS]; rfl
 generalize zm φ a (φ.pu b) e p o=m at hbg hrd
 obtain ⟨r2,d0,d1,h2,l0,l1,l2,han2,hfi2⟩:=ans_full hφ hi hSf la le lf (t:=t) (by omega) (hd f e lf le) (hd f a lf la)
 cases hag:eI (ag.length:Int) 32 with
 | false =>
  exact ansO_run hps (bF φ a b e f p o t ag S m r2 d0 d1 h2) (allM (lkO rfl) (allM (strQ t) (allM (strQ _) (allM (gotQ _ _ _ _ _) (allM (n_32 l2) (allM (n_32 l0) (allM (n_32 l1) (allM (fiB hφ.toOkZ hi rfl rfl rfl (hfi2 _)) (allM (anB hφ.toOkZ hi rfl rfl rfl han2) (allM (nt hag) (allM (gotO _ _ _ _ _) (allM (mkB hrd rfl rfl rfl) (allM (mkB hbg rfl rfl rfl) (allM (nt hf) (allM (nt he) (allM (nt hb) (allM (nt ha) (allM (nt hl) rfl))))))))))))))))))
 | true =>
  have lag:ag.length=32:=by
   unfold eI at hag
   simp at hag
   omega
  obtain ⟨r1,c0,c1,h1,m0,m1,m2,han1,hfi1⟩:=ans_full hφ hi hSf la le lag (t:=[97,103,97,105,110]) (by decide) (hd ag e lag le) (hd ag a lag la)
  exact ansO_run hps (bT φ a b e f p o t ag S m r1 c0 c1 h1 r2 d0 d1 h2) (allM (lkO rfl) (allM (strQ t) (allM (strQ _) (allM (gotQ _ _ _ _ _) (allM (n_32 l2) (allM (n_32 l0) (allM (n_32 l1) (allM (fiB hφ.toOkZ hi rfl rfl rfl (hfi2 _)) (allM (anB hφ.toOkZ hi rfl rfl rfl han2) (allM (strO _) (allM (fiB hφ.toOkZ hi rfl rfl rfl (hfi1 _)) (allM (anB hφ.toOkZ hi rfl rfl rfl han1) (allM hag (allM (gotO _ _ _ _ _) (allM (mkB hrd rfl rfl rfl) (allM (mkB hbg rfl rfl rfl) (allM (nt hf) (allM (nt he) (allM (nt hb) (allM (nt ha) (allM (nt hl) rfl)))))))))))))))))))))
theorem pu_keyV {a:List UInt8}(h:isLen a 32=true):puV ladE a=ladE a nine32∧puR a=0∧KeyOf (ladE a nine32) (1 * leNat (clampL a)):=by
 unfold puV puR
 rw [h]
 exact ⟨rfl,rfl,key_nine.lad h⟩
theorem sh_ladV {k u:List UInt8}(hk:isLen k 32=true) (hu:isLen u 32=true) (hz:(ladE k u == zero32)=false):shV ladE k u=ladE k u∧shR ladE k u=0:=by
 unfold shV shR
 rw [hk,hu,hz]
 exact ⟨rfl,rfl⟩
theorem sh_keyV {a u:List UInt8}{n:Nat}(h:isLen a 32=true) (k:KeyOf u n):shV ladE a u=ladE a u∧shR ladE a u=0∧KeyOf (ladE a u) (n * leNat (clampL a)):=by
 have q:=k.lad h
 have e:=sh_ladV h k.len q.nz
 exact ⟨e.1,e.2,q⟩
theorem dhR (a b:L8) (ha:a.length=32) (hb:b.length=32):DH realZ a b:=by
 have ha':isLen a 32=true:=isLen_eq.2 ha
 have hb':isLen b 32=true:=isLen_eq.2 hb
 obtain ⟨a1,a2,a3⟩:=pu_keyV ha'
 obtain ⟨b1,b2,b3⟩:=pu_keyV hb'
 obtain ⟨c1,c2,c3⟩:=sh_keyV ha' b3
 obtain ⟨d1,d2,d3⟩:=sh_keyV hb' a3
 have e:=c3.same d3 (by rw [Nat.one_mul,Nat.one_mul,Nat.mul_comm])
 show shR ladE a (puV ladE b)=0∧shR ladE b (puV ladE a)=0∧shV ladE a (puV ladE b)=shV ladE b (puV ladE a)
 rw [a1,b1]
 exact ⟨c2,d2,by rw [c1,d1,e]⟩
end Go.Proofs.YtcplgmgpagekfaaDoor
