/- Texts Ti5, Ti6: what they show that this claim uses. -/
import Derived.Test.YtjdhndicgifnbaaP14
set_option maxRecDepth 100000
set_option maxHeartbeats 1000000
set_option linter.unusedVariables false
set_option linter.unusedSimpArgs false
namespace Go.Proofs.Ytjdhndicgifnbaa.Tun
open Go Go.Eng Go.Proofs.Ytjdhndicgifnbaa Go.Proofs.Ytjdhndicgifnbaa.Pol
section
variable (a0:Stp) (l0:List Stp) (g1 g2 g3 g4 g5:List UInt8) (now rc ct rk lf:UInt64) (sz:Int) (o:Nat)
def hQ:HL:=[(o,.cells false [.str g1,.str g2,.str g3,.str g4,.str g5]),(o+8,.cells false [.u64 rc,.u64 ct,.u64 rk,.u64 lf,.int .i64 sz])]
def hQa:HL:=hQ g1 g2 g3 g4 g5 rc ct rk lf sz o++[(o+120,.cells false [.nilPtr,.nilPtr,.nilPtr,.nilPtr,.nilSlice,.nilSlice]),(o+160,.cells false [.str g1,.str g2,.str g3,.str g4,.str g5])]
def hQb:HL:=hQa g1 g2 g3 g4 g5 rc ct rk lf sz o++bT (o+232) (newT g3 g4 true now rc ct rk lf sz)
def hQc:HL:=hQb g1 g2 g3 g4 g5 now rc ct rk lf sz o++bD (o+320) (newD g3 g4 true now rc ct rk lf sz)
def hQd:HL:=hQ g1 g2 g3 g4 g5 rc ct rk lf sz o++[(o+120,.cells false [.ptr (o+232) 0,.nilPtr,.ptr (o+320) 0,.nilPtr,.nilSlice,.nilSlice]),(o+160,.cells false [.str g1,.str g2,.str g3,.str g4,.str g5])]++bT (o+232) (newT g3 g4 true now rc ct rk lf sz)++bD (o+320) (newD g3 g4 true now rc ct rk lf sz)++[(o+592,.cells false [.str g1,.str g2,.str g4,.str g3,.str g5])]
def hQe:HL:=hQd g1 g2 g3 g4 g5 now rc ct rk lf sz o++bT (o+728) (newT g4 g3 false now rc ct rk lf sz)
def hQf:HL:=hQe g1 g2 g3 g4 g5 now rc ct rk lf sz o++bD (o+816) (newD g4 g3 false now rc ct rk lf sz)
noncomputable def oQ1:Bool:=mOb ((g9 [gotA g1 g2 g3 g4 g5,.bool true,.u64 now,limA rc ct rk lf sz]).getD (.pure (.tup []))) (o+232) (hQa g1 g2 g3 g4 g5 rc ct rk lf sz o) (.tup [.ptr (o+232) 0,.int .i64 0]) (hQb g1 g2 g3 g4 g5 now rc ct rk lf sz o)
noncomputable def oQ2:Bool:=mOb ((g10 [gotA g1 g2 g3 g4 g5,.bool true,.u64 now,limA rc ct rk lf sz]).getD (.pure (.tup []))) (o+320) (hQb g1 g2 g3 g4 g5 now rc ct rk lf sz o) (.tup [.ptr (o+320) 0,.int .i64 0]) (hQc g1 g2 g3 g4 g5 now rc ct rk lf sz o)
noncomputable def oQ3:Bool:=mOb ((g9 [gotA g1 g2 g4 g3 g5,.bool false,.u64 now,limA rc ct rk lf sz]).getD (.pure (.tup []))) (o+728) (hQd g1 g2 g3 g4 g5 now rc ct rk lf sz o) (.tup [.ptr (o+728) 0,.int .i64 0]) (hQe g1 g2 g3 g4 g5 now rc ct rk lf sz o)
noncomputable def oQ4:Bool:=mOb ((g10 [gotA g1 g2 g4 g3 g5,.bool false,.u64 now,limA rc ct rk lf sz]).getD (.pure (.tup []))) (o+816) (hQe g1 g2 g3 g4 g5 now rc ct rk lf sz o) (.tup [.ptr (o+816) 0,.int .i64 0]) (hQf g1 g2 g3 g4 g5 now rc ct rk lf sz o)
noncomputable def oN1 (H:HL):Bool:=mOb ((g9 [gotA g1 g2 g3 g4 g5,.bool true,.u64 now,limA rc ct rk lf sz]).getD (.pure (.tup []))) (o+232) H (.tup [.nilPtr,.int .i64 2]) H
noncomputable def oN2 (H:HL):Bool:=mOb ((g10 [gotA g1 g2 g3 g4 g5,.bool true,.u64 now,limA rc ct rk lf sz]).getD (.pure (.tup []))) (o+320) H (.tup [.nilPtr,.int .i64 2]) H
theorem k1:ansO (run1O Try.prog noPS csR [300021,30] [] [.bool true,.tup []] (mask 3) 200 3 [gotA g1 g2 g3 g4 g5,.u64 now,limA rc ct rk lf sz,.slice 0 0 (a0::l0).length 6] [(0,.cells true (stRow (a0::l0)))] 1)=some (.bool true,[decP (EffA.app (.read 0 (rdG (heavyG (a0::l0).length))) 33 ((0,.cells true (stRow (a0::l0)))::hQ g1 g2 g3 g4 g5 rc ct rk lf sz 1)=some (.bool true,(0,.cells true (stRow (a0::l0)))::hQ g1 g2 g3 g4 g5 rc ct rk lf sz 1))]):=by kernel_rfl
theorem k2f:ansO (run1O Try.prog noPS csR [300021,30] [true] [.bool false,.tup []] (mask 3) 200 3 [gotA g1 g2 g3 g4 g5,.u64 now,limA rc ct rk lf sz,.slice 0 0 (a0::l0).length 6] [(0,.cells true (stRow (a0::l0)))] 1)=some (.bool true,[decide ((4096:Int) < IntKind.wrap .i64 ((g3.length:Int)+(g4.length:Int))),decP (EffA.app (.read 0 (rdG (heavyG (a0::l0).length))) 33 ((0,.cells true (stRow (a0::l0)))::hQ g1 g2 g3 g4 g5 rc ct rk lf sz 1)=some (.bool false,(0,.cells true (stRow (a0::l0)))::hQ g1 g2 g3 g4 g5 rc ct rk lf sz 1))]):=by kernel_rfl
theorem k3f:ansO (run1O Try.prog noPS csR [300021,30,300052,300061] [false] [.bool false,.tup [],.tup [.nilPtr,.int .i64 2],.tup [],.tup [.nilPtr,.int .i64 2],.tup []] (mask 3) 200 3 [gotA g1 g2 g3 g4 g5,.u64 now,limA rc ct rk lf sz,.slice 0 0 (a0::l0).length 6] [(0,.cells true (stRow (a0::l0)))] 1)=some (.bool true,[oN2 g1 g2 g3 g4 g5 now rc ct rk lf sz 1 ((0,.cells true (stRow (a0::l0)))::hQa g1 g2 g3 g4 g5 rc ct rk lf sz 1),oN1 g1 g2 g3 g4 g5 now rc ct rk lf sz 1 ((0,.cells true (stRow (a0::l0)))::hQa g1 g2 g3 g4 g5 rc ct rk lf sz 1),!decide ((4096:Int) < IntKind.wrap .i64 ((g3.length:Int)+(g4.length:Int))),decP (EffA.app (.read 0 (rdG (heavyG (a0::l0).length))) 33 ((0,.cells true (stRow (a0::l0)))::hQ g1 g2 g3 g4 g5 rc ct rk lf sz 1)=some (.bool false,(0,.cells true (stRow (a0::l0)))::hQ g1 g2 g3 g4 g5 rc ct rk lf sz 1))]):=by kernel_rfl
theorem k4f:segO (evSO Try.prog noPS csR [300021,30] Try.f3.ntmps (mask 3) 200 1 ((pieces (bodyOf Try.f3)).take 5) ⟨startT [gotA g1 g2 g3 g4 g5,.u64 now,limA rc ct rk lf sz,.slice 0 0 (a0::l0).length 6] 0,[(0,.cells true (stRow (a0::l0)))],1⟩ ⟨[false],[.bool false,.tup []],[]⟩)=some (⟨T5 (a0::l0).length g1 g2 g3 g4 g5 now rc ct rk lf sz 0,hP0 (stRow (a0::l0)) g1 g2 g3 g4 g5 rc ct rk lf sz,137⟩,[!decide ((4096:Int) < IntKind.wrap .i64 ((g3.length:Int)+(g4.length:Int))),decP (EffA.app (.read 0 (rdG (heavyG (a0::l0).length))) 33 ((0,.cells true (stRow (a0::l0)))::hQ g1 g2 g3 g4 g5 rc ct rk lf sz 1)=some (.bool false,(0,.cells true (stRow (a0::l0)))::hQ g1 g2 g3 g4 g5 rc ct rk lf sz 1))]):=by kernel_rfl
theorem k2e:ansO (run1O Try.prog noPS csR [30] [true] [] (mask 3) 200 3 [gotA g1 g2 g3 g4 g5,.u64 now,limA rc ct rk lf sz,.slice 0 0 0 6] [] 1)=some (.bool true,[decide ((4096:Int) < IntKind.wrap .i64 ((g3.length:Int)+(g4.length:Int)))]):=by kernel_rfl
theorem k3e:ansO (run1O Try.prog noPS csR [30,300052,300061] [false] [.tup [.nilPtr,.int .i64 2],.tup [],.tup [.nilPtr,.int .i64 2],.tup []] (mask 3) 200 3 [gotA g1 g2 g3 g4 g5,.u64 now,limA rc ct rk lf sz,.slice 0 0 0 6] [] 1)=some (.bool true,[oN2 g1 g2 g3 g4 g5 now rc ct rk lf sz 1 (hQa g1 g2 g3 g4 g5 rc ct rk lf sz 1),oN1 g1 g2 g3 g4 g5 now rc ct rk lf sz 1 (hQa g1 g2 g3 g4 g5 rc ct rk lf sz 1),!decide ((4096:Int) < IntKind.wrap .i64 ((g3.length:Int)+(g4.length:Int)))]):=by kernel_rfl
theorem k5e:ansO (run1O Try.prog noPS csR [30,300052,300061] [false] [.tup [.ptr 233 0,.int .i64 0],tT 233 (newT g3 g4 true now rc ct rk lf sz),.tup [.ptr 321 0,.int .i64 0],.tup [.ptr 321 0,.agg (cD .nilSlice (newD g3 g4 true now rc ct rk lf sz))],.tup [.ptr 729 0,.int .i64 0],tT 729 (newT g4 g3 false now rc ct rk lf sz),.tup [.ptr 817 0,.int .i64 0],.tup [.ptr 817 0,.agg (cD .nilSlice (newD g4 g3 false now rc ct rk lf sz))]] (mask 3) 200 3 [gotA g1 g2 g3 g4 g5,.u64 now,limA rc ct rk lf sz,.slice 0 0 0 6] [] 1)=some (.bool true,[oQ4 g1 g2 g3 g4 g5 now rc ct rk lf sz 1,oQ3 g1 g2 g3 g4 g5 now rc ct rk lf sz 1,oQ2 g1 g2 g3 g4 g5 now rc ct rk lf sz 1,oQ1 g1 g2 g3 g4 g5 now rc ct rk lf sz 1,!decide ((4096:Int) < IntKind.wrap .i64 ((g3.length:Int)+(g4.length:Int)))]):=by kernel_rfl
theorem k2n:ansO (run1O Try.prog noPS csR [30] [true] [] (mask 3) 200 3 [gotA g1 g2 g3 g4 g5,.u64 now,limA rc ct rk lf sz,.nilSlice] [] 0)=some (.bool true,[decide ((4096:Int) < IntKind.wrap .i64 ((g3.length:Int)+(g4.length:Int)))]):=by kernel_rfl
theorem k3n:ansO (run1O Try.prog noPS csR [30,300052,300061] [false] [.tup [.nilPtr,.int .i64 2],.tup [],.tup [.nilPtr,.int .i64 2],.tup []] (mask 3) 200 3 [gotA g1 g2 g3 g4 g5,.u64 now,limA rc ct rk lf sz,.nilSlice] [] 0)=some (.bool true,[oN2 g1 g2 g3 g4 g5 now rc ct rk lf sz 0 (hQa g1 g2 g3 g4 g5 rc ct rk lf sz 0),oN1 g1 g2 g3 g4 g5 now rc ct rk lf sz 0 (hQa g1 g2 g3 g4 g5 rc ct rk lf sz 0),!decide ((4096:Int) < IntKind.wrap .i64 ((g3.length:Int)+(g4.length:Int)))]):=by kernel_rfl
theorem k5n:ansO (run1O Try.prog noPS csR [30,300052,300061] [false] [.tup [.ptr 232 0,.int .i64 0],tT 232 (newT g3 g4 true now rc ct rk lf sz),.tup [.ptr 320 0,.int .i64 0],.tup [.ptr 320 0,.agg (cD .nilSlice (newD g3 g4 true now rc ct rk lf sz))],.tup [.ptr 728 0,.int .i64 0],tT 728 (newT g4 g3 false now rc ct rk lf sz),.tup [.ptr 816 0,.int .i64 0],.tup [.ptr 816 0,.agg (cD .nilSlice (newD g4 g3 false now rc ct rk lf sz))]] (mask 3) 200 3 [gotA g1 g2 g3 g4 g5,.u64 now,limA rc ct rk lf sz,.nilSlice] [] 0)=some (.bool true,[oQ4 g1 g2 g3 g4 g5 now rc ct rk lf sz 0,oQ3 g1 g2 g3 g4 g5 now rc ct rk lf sz 0,oQ2 g1 g2 g3 g4 g5 now rc ct rk lf sz 0,oQ1 g1 g2 g3 g4 g5 now rc ct rk lf sz 0,!decide ((4096:Int) < IntKind.wrap .i64 ((g3.length:Int)+(g4.length:Int)))]):=by kernel_rfl
end
end Go.Proofs.Ytjdhndicgifnbaa.Tun
namespace Go.Proofs.Ytjdhndicgifnbaa.Tun
open Go Go.Eng Go.Proofs.Ytjdhndicgifnbaa Go.Proofs.Ytjdhndicgifnbaa.Pol
section
variable {a0:Stp}{l0:List Stp}{g1 g2 g3 g4 g5:List UInt8}{now rc ct rk lf:UInt64}{sz:Int}
theorem oQ1_0 (h:newG g3 g4 rc ct rk lf sz=true):oQ1 g1 g2 g3 g4 g5 now rc ct rk lf sz 0=true:=mOb_of (by rw [g9_at h,newE_app (O2:=obT) (by decide)]; rfl)
theorem oQ2_0 (h:newG g3 g4 rc ct rk lf sz=true):oQ2 g1 g2 g3 g4 g5 now rc ct rk lf sz 0=true:=mOb_of (by rw [g10_at h,newE_app (O2:=obD) (by decide)]; rfl)
theorem oQ3_0 (h:newG g4 g3 rc ct rk lf sz=true):oQ3 g1 g2 g3 g4 g5 now rc ct rk lf sz 0=true:=mOb_of (by rw [g9_at h,newE_app (O2:=obT) (by decide)]; rfl)
theorem oQ4_0 (h:newG g4 g3 rc ct rk lf sz=true):oQ4 g1 g2 g3 g4 g5 now rc ct rk lf sz 0=true:=mOb_of (by rw [g10_at h,newE_app (O2:=obD) (by decide)]; rfl)
theorem oQ1_1 (h:newG g3 g4 rc ct rk lf sz=true):oQ1 g1 g2 g3 g4 g5 now rc ct rk lf sz 1=true:=mOb_of (by rw [g9_at h,newE_app (O2:=obT) (by decide)]; rfl)
theorem oQ2_1 (h:newG g3 g4 rc ct rk lf sz=true):oQ2 g1 g2 g3 g4 g5 now rc ct rk lf sz 1=true:=mOb_of (by rw [g10_at h,newE_app (O2:=obD) (by decide)]; rfl)
theorem oQ3_1 (h:newG g4 g3 rc ct rk lf sz=true):oQ3 g1 g2 g3 g4 g5 now rc ct rk lf sz 1=true:=mOb_of (by rw [g9_at h,newE_app (O2:=obT) (by decide)]; rfl)
theorem oQ4_1 (h:newG g4 g3 rc ct rk lf sz=true):oQ4 g1 g2 g3 g4 g5 now rc ct rk lf sz 1=true:=mOb_of (by rw [g10_at h,newE_app (O2:=obD) (by decide)]; rfl)
theorem oN1_ok {o:Nat}{H:HL}(h:newG g3 g4 rc ct rk lf sz=false):oN1 g1 g2 g3 g4 g5 now rc ct rk lf sz o H=true:=mOb_of (by simp only [g9,gotA,limA,h,cond_false,Option.getD_some]; rfl)
theorem oN2_ok {o:Nat}{H:HL}(h:newG g3 g4 rc ct rk lf sz=false):oN2 g1 g2 g3 g4 g5 now rc ct rk lf sz o H=true:=mOb_of (by simp only [g10,gotA,limA,h,cond_false,Option.getD_some]; rfl)
theorem o7_ok {l:List Stp}{H:HL}{b:Bool}(hl:l.length≤9223372036854775807) (hb:heavyV l=b) (h:aget H 0=some (.cells true (stRow l))):decP (EffA.app (.read 0 (rdG (heavyG l.length))) 33 H=some (.bool b,H))=true:=by
 subst hb
 refine decP_of ?_
 simp only [EffA.app,h,rdG,heavyG,unSt_row,ltS_row,cond_true,Nat.beq_refl,Bool.true_and,Nat.ble_eq_true_of_le hl,Bool.and_self]
 rfl
theorem run3e:∃ nn F,(run1 Try.prog csR nn F 3 [gotA g1 g2 g3 g4 g5,.u64 now,limA rc ct rk lf sz,.slice 0 0 0 6] [] 1).map (·.1)=some (.bool true):=by
 refine ⟨mask 3,200,?_⟩
 cases hs:decide ((4096:Int) < IntKind.wrap .i64 ((g3.length:Int)+(g4.length:Int))) with
 | true=>exact ansO_run (noPS_ok _) (k2e g1 g2 g3 g4 g5 now rc ct rk lf sz) (allT_c hs rfl)
 | false =>
  cases h:newG g3 g4 rc ct rk lf sz with
  | false=>exact ansO_run (noPS_ok _) (k3e g1 g2 g3 g4 g5 now rc ct rk lf sz) (allT_c (oN2_ok h) (allT_c (oN1_ok h) (allT_c (by rw [hs]; rfl) rfl)))
  | true=>exact ansO_run (noPS_ok _) (k5e g1 g2 g3 g4 g5 now rc ct rk lf sz) (allT_c (oQ4_1 (newG_swap h)) (allT_c (oQ3_1 (newG_swap h)) (allT_c (oQ2_1 h) (allT_c (oQ1_1 h) (allT_c (by rw [hs]; rfl) rfl)))))
theorem run3n:∃ nn F,(run1 Try.prog csR nn F 3 [gotA g1 g2 g3 g4 g5,.u64 now,limA rc ct rk lf sz,.nilSlice] [] 0).map (·.1)=some (.bool true):=by
 refine ⟨mask 3,200,?_⟩
 cases hs:decide ((4096:Int) < IntKind.wrap .i64 ((g3.length:Int)+(g4.length:Int))) with
 | true=>exact ansO_run (noPS_ok _) (k2n g1 g2 g3 g4 g5 now rc ct rk lf sz) (allT_c hs rfl)
 | false =>
  cases h:newG g3 g4 rc ct rk lf sz with
  | false=>exact ansO_run (noPS_ok _) (k3n g1 g2 g3 g4 g5 now rc ct rk lf sz) (allT_c (oN2_ok h) (allT_c (oN1_ok h) (allT_c (by rw [hs]; rfl) rfl)))
  | true=>exact ansO_run (noPS_ok _) (k5n g1 g2 g3 g4 g5 now rc ct rk lf sz) (allT_c (oQ4_0 (newG_swap h)) (allT_c (oQ3_0 (newG_swap h)) (allT_c (oQ2_0 h) (allT_c (oQ1_0 h) (allT_c (by rw [hs]; rfl) rfl)))))
theorem run3f (hl:(a0::l0).length≤9223372036854775807) (hq:∀ q,q ∈ a0::l0→q.s.length≤9223372036854775807):∃ nn F,(run1 Try.prog csR nn F 3 [gotA g1 g2 g3 g4 g5,.u64 now,limA rc ct rk lf sz,.slice 0 0 (a0::l0).length 6] [(0,.cells true (stRow (a0::l0)))] 1).map (·.1)=some (.bool true):=by
 refine ⟨mask 3,200,?_⟩
 cases hv:heavyV (a0::l0) with
 | true=>exact ansO_run (noPS_ok _) (k1 a0 l0 g1 g2 g3 g4 g5 now rc ct rk lf sz) (allT_c (o7_ok hl hv rfl) rfl)
 | false =>
  cases hs:decide ((4096:Int) < IntKind.wrap .i64 ((g3.length:Int)+(g4.length:Int))) with
  | true=>exact ansO_run (noPS_ok _) (k2f a0 l0 g1 g2 g3 g4 g5 now rc ct rk lf sz) (allT_c hs (allT_c (o7_ok hl hv rfl) rfl))
  | false =>
   cases h:newG g3 g4 rc ct rk lf sz with
   | false=>exact ansO_run (noPS_ok _) (k3f a0 l0 g1 g2 g3 g4 g5 now rc ct rk lf sz) (allT_c (oN2_ok h) (allT_c (oN1_ok h) (allT_c (by rw [hs]; rfl) (allT_c (o7_ok hl hv rfl) rfl))))
   | true =>
    have hn:=heavy_len hv
    rw [run1_val (fn:=Try.f3) (c:=bodyOf Try.f3) (by kernel_rfl) (by kernel_rfl) (by kernel_rfl)]
    have e0:=segO_pre (noPS_ok _) (k4f a0 l0 g1 g2 g3 g4 g5 now rc ct rk lf sz) (allT_c (by rw [hs]; rfl) (allT_c (o7_ok hl hv rfl) rfl))
    have ep:pieces (bodyOf Try.f3)=(pieces (bodyOf Try.f3)).take 5++(pieces (bodyOf Try.f3)).drop 5:=(List.take_append_drop 5 _).symm
    obtain ⟨I,i0,⟨H2,fr2,hI,hJ⟩,hst⟩:=iter_inv (P:=Try.prog) (cs:=csR) (nt:=Try.f3.ntmps) (nn:=mask 3) (F:=200) (bs:=1) (b:=M7) ⟨T7 (a0::l0).length g1 g2 g3 g4 g5 now rc ct rk lf sz 0,hP2 (stRow (a0::l0)) g1 g2 g3 g4 g5 now rc ct rk lf sz,1089⟩ (fun j s => ∃ H2 fr2,s=⟨T7 (a0::l0).length g1 g2 g3 g4 g5 now rc ct rk lf sz (j:Nat),H2,fr2⟩∧JH (stRow (a0::l0)) j H2 fr2) (a0::l0).length ⟨_,_,rfl,new_JH h⟩ fun j s hj ⟨H2,fr2,hs2,hJ⟩=>by
     subst hs2
     obtain ⟨H3,fr3,a,b⟩:=outer (g1:=g1) (g2:=g2) (g3:=g3) (g4:=g4) (g5:=g5) (now:=now) (rc:=rc) (ct:=ct) (rk:=rk) (lf:=lf) (sz:=sz) (l:=a0::l0) (List.getElem?_eq_getElem hj) (hq _ (List.getElem_mem hj)) (by omega) hJ (H0:=hP2 (stRow (a0::l0)) g1 g2 g3 g4 g5 now rc ct rk lf sz) (fr0:=1089) (Nat.le_refl _)
     exact ⟨_,a,H3,fr3,rfl,b⟩
    obtain ⟨f0,rfl⟩:∃ f0,fr2=f0+1089:=⟨fr2 - 1089,by have:=hJ.le; omega⟩
    have e1:=(evT_ok (noPS_ok _) _ _ _ _ _ _ (w3y f0 (a0::l0).length g1 g2 g3 g4 g5 now rc ct rk lf sz (a0::l0).length H2) (allT_c (by simp) rfl)).1
    have e2:=evS_loop (l:=pieces (bodyOf Try.f3)) (k:=7) (id:=2) (b:=M7) (by kernel_rfl) I (a0::l0).length hst (by rw [hI]; exact e1) (by omega)
    have ez:(⟨T7 (a0::l0).length g1 g2 g3 g4 g5 now rc ct rk lf sz ((a0::l0).length:Nat)++[(88,.bool false)],H2,f0+1089+32⟩:SA)=⟨T7 (a0::l0).length g1 g2 g3 g4 g5 now rc ct rk lf sz ((a0::l0).length:Nat)++[(88,.bool false)],H2,(f0+32)+1089⟩:=by congr 1
    rw [ep,evS_append e0,new_loop h,← i0,e2,ez]
    exact ansF_ok (noPS_ok _) (w3z (f0+32) (a0::l0).length g1 g2 g3 g4 g5 now rc ct rk lf sz (a0::l0).length H2) rfl
end
end Go.Proofs.Ytjdhndicgifnbaa.Tun
