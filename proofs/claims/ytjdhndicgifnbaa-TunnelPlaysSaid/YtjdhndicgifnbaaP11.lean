/- Texts Td8, Td9, TAe9, Te1, Eng54, Eng55, Tf1, Tf2, Tf3, Tf4, Tf5: what they show that this claim uses. -/
import Derived.Test.YtjdhndicgifnbaaP10
import Derived.Test.YtjdhndicgifnbaaP9
set_option maxRecDepth 100000
set_option maxHeartbeats 1000000
set_option linter.unusedVariables false
set_option linter.unusedSimpArgs false
namespace Go.Proofs.Ytjdhndicgifnbaa.Tun
open Go Go.Eng Go.Proofs.Ytjdhndicgifnbaa Go.Proofs.Ytjdhndicgifnbaa.Pol
def newD (g3 g4:List UInt8) (first:Bool) (now rc ct rk lf:UInt64) (sz:Int):Dc:=⟨g3,g4,first,now,rc,ct,rk,lf,sz,0,sz,first,false⟩
section
variable (g1 g2 g3 g4 g5:List UInt8) (first:Bool) (now rc ct rk lf:UInt64) (sz:Int)
def sy10:List Nat:=[13,18,22]
theorem w10a:ansO (run1O Try.prog noPS (csOne 33 g33) sy10 [true] [] (mask 10) 100 10 [gotA g1 g2 g3 g4 g5,.bool first,.u64 now,limA rc ct rk lf sz] [] 0)=some (.tup [.nilPtr,.int .i64 2],[(g3.length:Int) != 32]):=by kernel_rfl
theorem w10b:ansO (run1O Try.prog noPS (csOne 33 g33) sy10 [false,true] [] (mask 10) 100 10 [gotA g1 g2 g3 g4 g5,.bool first,.u64 now,limA rc ct rk lf sz] [] 0)=some (.tup [.nilPtr,.int .i64 2],[(g4.length:Int) != 32,!((g3.length:Int) != 32)]):=by kernel_rfl
theorem w10c:ansO (run1O Try.prog noPS (csOne 33 g33) sy10 [false,false,false] [] (mask 10) 100 10 [gotA g1 g2 g3 g4 g5,.bool first,.u64 now,limA rc ct rk lf sz] [] 0)=some (.tup [.nilPtr,.int .i64 2],[!mayD rc ct rk lf sz,!((g4.length:Int) != 32),!((g3.length:Int) != 32)]):=by kernel_rfl
theorem w10d:ansM [248] (run1O Try.prog noPS (csOne 33 g33) sy10 [false,false,true] [] (mask 10) 100 10 [gotA g1 g2 g3 g4 g5,.bool first,.u64 now,limA rc ct rk lf sz] [] 0)=some (.tup [.ptr 248 0,.int .i64 0],[some (.cells false (cD .nilSlice (newD g3 g4 first now rc ct rk lf sz)))],[mayD rc ct rk lf sz,!((g4.length:Int) != 32),!((g3.length:Int) != 32)]):=by kernel_rfl
end
def g10:List AVal→Option EffA
 | [.agg [.str g1,.str g2,.str g3,.str g4,.str g5],.bool first,.u64 now,.agg [.u64 rc,.u64 ct,.u64 rk,.u64 lf,.int .i64 sz]]=>some (cond (newG g3 g4 rc ct rk lf sz) (newE obD 1 [0] winV (newD g3 g4 first now rc ct rk lf sz,[])) (.pure (.tup [.nilPtr,.int .i64 2])))
 | _=>none
theorem g10_ok:CSOk Try.prog (csOne 10 g10):=csOne_ok fun args e he=>by
 unfold g10 at he
 split at he
 ·rename_i g1 g2 g3 g4 g5 first now rc ct rk lf sz
  cases he
  unfold newG
  cases h1:((g3.length:Int) != 32) with
  | true =>
   simp only [Bool.not_true,Bool.false_and,cond_false]
   exact callOk_ans g33_ok (noPS_ok _) hmix gl (w10a g1 g2 g3 g4 g5 first now rc ct rk lf sz) (allT_c h1 rfl) rfl rfl
  | false =>
   have n1:(!((g3.length:Int) != 32))=true:=by rw [h1]; rfl
   cases h2:((g4.length:Int) != 32) with
   | true =>
    simp only [Bool.not_true,Bool.not_false,Bool.true_and,Bool.false_and,cond_false]
    exact callOk_ans g33_ok (noPS_ok _) hmix gl (w10b g1 g2 g3 g4 g5 first now rc ct rk lf sz) (allT_c h2 (allT_c n1 rfl)) rfl rfl
   | false =>
    have n2:(!((g4.length:Int) != 32))=true:=by rw [h2]; rfl
    cases h3:mayD rc ct rk lf sz with
    | true =>
     simp only [Bool.not_false,Bool.true_and,cond_true]
     exact newE_ok g33_ok hmix (by decide) rfl (relD _) (nameWin (show 0 < 1 by decide)) rfl (by decide) (by decide) (runF_ofR (nn:=mask 10) (F:=100) (fr:=0) gl [248] (ansR_of (noPS_ok _) (w10d g1 g2 g3 g4 g5 first now rc ct rk lf sz) (allT_c h3 (allT_c n2 (allT_c n1 rfl)))) rfl rfl rfl rfl)
    | false =>
     simp only [Bool.not_false,Bool.true_and,cond_false]
     exact callOk_ans g33_ok (noPS_ok _) hmix gl (w10c g1 g2 g3 g4 g5 first now rc ct rk lf sz) (allT_c (by rw [h3]; rfl) (allT_c n2 (allT_c n1 rfl))) rfl rfl
 ·cases he
def keyA:List UInt8:=List.replicate 31 0++[97]
def keyB:List UInt8:=List.replicate 31 0++[98]
theorem w18t:(run1 Try.prog noCS (mask 18) 200 18 [.bool true] [] Try.prog.globals.size).map (·.1)=some (gotA [] [] keyA keyB []):=by kernel_rfl
theorem w18f:(run1 Try.prog noCS (mask 18) 200 18 [.bool false] [] Try.prog.globals.size).map (·.1)=some (gotA [] [] keyB keyA []):=by kernel_rfl
def g18:List AVal→Option EffA
 | [.bool true]=>some (.pure (gotA [] [] keyA keyB []))
 | [.bool false]=>some (.pure (gotA [] [] keyB keyA []))
 | _=>none
theorem g18_ok:CSOk Try.prog (csOne 18 g18):=csOne_ok fun args e he=>by
 unfold g18 at he
 split at he
 ·cases he; exact callOk_val (noCS_ok _) hmix w18t rfl rfl
 ·cases he; exact callOk_val (noCS_ok _) hmix w18f rfl rfl
 ·cases he
theorem w43n:(run1 Try.prog noCS (mask 43) 100 43 [.nilPtr] [] Try.prog.globals.size).map (·.1)=some (.bool true):=by kernel_rfl
def g43n:List AVal→Option EffA
 | [.nilPtr]=>some (.pure (.bool true))
 | _=>none
theorem g43n_ok:CSOk Try.prog (csOne 43 g43n):=csOne_ok fun args e he=>by
 unfold g43n at he
 split at he
 ·cases he; exact callOk_val (noCS_ok _) hmix w43n rfl rfl
 ·cases he
section
variable (n:UInt64) (i:UInt32)
theorem w22n:(run1 Try.prog (csOne 43 g43n) (mask 22) 100 22 [.nilPtr,.u32 i] [] Try.prog.globals.size).map (·.1)=some (.tup [.nilPtr,.int .i64 1]):=by kernel_rfl
theorem w23n:(run1 Try.prog (csOne 43 g43n) (mask 23) 100 23 [.nilPtr,.u64 n] [] Try.prog.globals.size).map (·.1)=some (.tup [.u32 0,.nilPtr,.int .i64 1]):=by kernel_rfl
theorem w24n:(run1 Try.prog (csOne 43 g43n) (mask 24) 100 24 [.nilPtr,.u32 i,.nilPtr] [] Try.prog.globals.size).map (·.1)=some (.int .i64 1):=by kernel_rfl
theorem w25n:(run1 Try.prog (csOne 43 g43n) (mask 25) 100 25 [.nilPtr,.u64 n] [] Try.prog.globals.size).map (·.1)=some .nilSlice:=by kernel_rfl
theorem w26n:(run1 Try.prog (csOne 43 g43n) (mask 26) 100 26 [.nilPtr] [] Try.prog.globals.size).map (·.1)=some .nilSlice:=by kernel_rfl
theorem w14n:(run1 Try.prog csP14 (mask 14) 100 14 [.nilPtr,.u64 n] [] Try.prog.globals.size).map (·.1)=some (.bool false):=by kernel_rfl
end
def csNil:CS:=fun f args=>match f,args with
 | 22,[.nilPtr,.u32 i]=>some (.pure (.tup [.nilPtr,.int .i64 1]))
 | 23,[.nilPtr,.u64 n]=>some (.pure (.tup [.u32 0,.nilPtr,.int .i64 1]))
 | 24,[.nilPtr,.u32 i,.nilPtr]=>some (.pure (.int .i64 1))
 | 25,[.nilPtr,.u64 n]=>some (.pure .nilSlice)
 | 26,[.nilPtr]=>some (.pure .nilSlice)
 | 14,[.nilPtr,.u64 n]=>some (.pure (.bool false))
 | _,_=>none
theorem csNil_ok:CSOk Try.prog csNil:=fun f args e he=>by
 unfold csNil at he
 split at he
 ·cases he; exact callOk_val g43n_ok hmix (w22n _) rfl rfl
 ·cases he; exact callOk_val g43n_ok hmix (w23n _) rfl rfl
 ·cases he; exact callOk_val g43n_ok hmix (w24n _) rfl rfl
 ·cases he; exact callOk_val g43n_ok hmix (w25n _) rfl rfl
 ·cases he; exact callOk_val g43n_ok hmix w26n rfl rfl
 ·cases he; exact callOk_val csP14_ok hmix (w14n _) rfl rfl
 ·cases he
end Go.Proofs.Ytjdhndicgifnbaa.Tun
namespace Go.Proofs.Ytjdhndicgifnbaa.Tun
open Go Go.Eng Go.Proofs.Ytjdhndicgifnbaa Go.Proofs.Ytjdhndicgifnbaa.Pol
def m20 (t:Nat) (now n:UInt64) (c:List UInt8):EffA:=methE clsT clsT srcT t (fun _ s=>openV now n c s) (openN now n c) fun s=>okW s.w
def q20:List AVal→Option (EffA × Bool)
 | [.ptr t 0,.u64 now,.u64 n,.str c]=>some (m20 t now n c,Ae.slR c)
 | [.nilPtr,.u64 now,.u64 n,.str c]=>some (.pure (.tup [.str [],.int .i64 1]),true)
 | _=>none
def q35:List AVal→Option (EffA × Bool)
 | [.ptr p 0,.u64 now,.u64 n,.str t]=>some (meO p now n t,Ae.slR t)
 | _=>none
theorem q20_ok:CSOk Try.prog (csP (psOne 20 q20)):=csP_one fun args v he=>by
 unfold q20 at he
 split at he
 ·rename_i t now n c
  simp only [Option.some.injEq,Prod.mk.injEq] at he
  obtain ⟨rfl,h⟩:=he
  exact g20_ok 20 [.ptr t 0,.u64 now,.u64 n,.str c] _ (by
   have:g20 [.ptr t 0,.u64 now,.u64 n,.str c]=some (m20 t now n c):=by
    unfold g20
    simp only [h,cond_true]
    rfl
   rw [← this]
   rfl)
 ·rename_i now n c
  simp only [Option.some.injEq,Prod.mk.injEq] at he
  obtain ⟨rfl,h⟩:=he
  exact g20_ok 20 [.nilPtr,.u64 now,.u64 n,.str c] _ rfl
 ·cases he
theorem q35_ok:CSOk Try.prog (csP (psOne 35 q35)):=csP_one fun args v he=>by
 unfold q35 at he
 split at he
 ·rename_i t now n c
  simp only [Option.some.injEq,Prod.mk.injEq] at he
  obtain ⟨rfl,h⟩:=he
  exact g35_ok 35 [.ptr t 0,.u64 now,.u64 n,.str c] _ (by
   have:g35 [.ptr t 0,.u64 now,.u64 n,.str c]=some (meO t now n c):=by
    unfold g35
    simp only [h,cond_true]
   rw [← this]
   rfl)
 ·cases he
def psT:PS:=psAlt (psOne 20 q20) (psOne 35 q35)
theorem psT_ok:CSOk Try.prog (csP psT):=csP_alt q20_ok q35_ok
def csT:CS:=csAlt (csP psT) (csAlt (csOne 18 g18) (csAlt (csOne 9 g9) (csAlt (csOne 10 g10) (csAlt (csOne 19 g19) (csAlt (csOne 34 g34) (csAlt (csOne 12 g12) (csAlt (csOne 13 g13) (csAlt (csOne 14 g14) (csAlt (csOne 15 g15) (csAlt (csOne 16 g16) (csAlt (csOne 17 g17) (csAlt (csOne 21 g21) csNil))))))))))))
theorem csT_ok:CSOk Try.prog csT:=csAlt_ok psT_ok (csAlt_ok g18_ok (csAlt_ok g9_ok (csAlt_ok g10_ok (csAlt_ok g19_ok (csAlt_ok g34_ok (csAlt_ok g12_ok (csAlt_ok g13_ok (csAlt_ok g14_ok (csAlt_ok g15_ok (csAlt_ok g16_ok (csAlt_ok g17_ok (csAlt_ok g21_ok csNil_ok))))))))))))
theorem csT_ps:PSOk psT csT:=csP_ok
end Go.Proofs.Ytjdhndicgifnbaa.Tun
namespace Go.Proofs.Ytjdhndicgifnbaa.Ae
open Go Go.Eng Go.Proofs.Ytjdhndicgifnbaa
theorem se_ok {k n a s:List UInt8}(hm:Cha.may k n=true) (ha:a.length≤65536) (hs:s.length≤65536):seF k n a s=(ct k n s++tagA k n a (ct k n s),0):=by
 unfold seF
 rw [hm,cond_true,if_neg (by omega)]
theorem op_open {k n a c t:List UInt8}(hm:Cha.may k n=true) (ha:a.length≤65536) (hc:c.length≤65536) (ht:t.length=16):opF k n a (c++t)=if tagA k n a c=t then (ct k n c,0) else ([],100):=by
 unfold opF
 have hl:(c++t).length=c.length+16:=by rw [List.length_append,ht]
 rw [hm,cond_true,hl,if_neg (by omega),if_neg (by omega),Nat.add_sub_cancel,List.take_left,List.drop_left]
theorem ct_back (k n s:List UInt8):ct k n (ct k n s)=s:=Cha.trn_back k n 1 s
theorem op_se {k n a s:List UInt8}(hm:Cha.may k n=true) (ha:a.length≤65536) (hs:s.length≤65536):opF k n a (ct k n s++tagA k n a (ct k n s))=(s,0):=by
 rw [op_open hm ha (by rw [ct_len]; exact hs) (tag_len hm),if_pos rfl,ct_back]
theorem mayN {k:List UInt8}(h:k.length=32) (n:UInt64):Cha.may k (nonL n)=true:=by
 unfold Cha.may
 rw [h]
 rfl
theorem se_len {k n s:List UInt8}(hm:Cha.may k n=true) (hs:s.length≤65536):(seF k n [] s).1.length=s.length+16:=by
 rw [se_ok hm (by simp) hs]
 show (ct k n s++tagA k n [] (ct k n s)).length=_
 rw [List.length_append,ct_len,tag_len hm]
end Go.Proofs.Ytjdhndicgifnbaa.Ae
namespace Go.Proofs.Ytjdhndicgifnbaa.Tun
open Go Go.Eng Go.Proofs.Ytjdhndicgifnbaa Go.Proofs.Ytjdhndicgifnbaa.Pol
def tA0:Tn:=newT keyA keyB true 5 2 3 10 20 8
def tA1:Tn:=incT tA0
def tA2:Tn:=incT tA1
def tB0:Tn:=newT keyB keyA false 5 2 3 10 20 8
def tB1:Tn:=opnT 1 tB0
def tB2:Tn:=incT tB1
def sOne:List UInt8:=[111,110,101]
def sTwo:List UInt8:=[116,119,111]
def c0:List UInt8:=(Ae.seF keyA (Ae.nonL 0) [] sOne).1
def c1:List UInt8:=(Ae.seF keyA (Ae.nonL 1) [] sTwo).1
def c2:List UInt8:=(Ae.seF keyB (Ae.nonL 0) [] [120]).1
theorem keyA_len:keyA.length=32:=rfl
theorem keyB_len:keyB.length=32:=rfl
theorem seA (n:UInt64){s:List UInt8}(h:s.length≤65536):(Ae.seF keyA (Ae.nonL n) [] s).2=0:=by rw [Ae.se_ok (Ae.mayN keyA_len n) (by simp) h]
theorem seB (n:UInt64){s:List UInt8}(h:s.length≤65536):(Ae.seF keyB (Ae.nonL n) [] s).2=0:=by rw [Ae.se_ok (Ae.mayN keyB_len n) (by simp) h]
theorem opA:Ae.opF keyA (Ae.nonL 1) [] c1=(sTwo,0):=by
 unfold c1
 rw [Ae.se_ok (Ae.mayN keyA_len 1) (by simp) (by simp [sTwo])]
 exact Ae.op_se (Ae.mayN keyA_len 1) (by simp) (by simp [sTwo])
def hAl (ta tb:Tn):HL:=(16,.cells false [.u64 2,.u64 3,.u64 10,.u64 20,.int .i64 8])::(hT 48 49 50 51 ta++hT 112 113 114 115 tb)
def hA1 (ta:Tn):HL:=(16,.cells false [.u64 2,.u64 3,.u64 10,.u64 20,.int .i64 8])::hT 48 49 50 51 ta
def hA0:HL:=[(16,.cells false [.u64 2,.u64 3,.u64 10,.u64 20,.int .i64 8])]
def bkA (t:Tn):AVal:=.tup [.ptr 48 0,.agg (cT 49 51 t),.ptr 49 0,.agg (cW 50 t.w),.ptr 50 0,.agg (t.w.L.map .u64),.ptr 51 0,.agg [.u64 t.made]]
def bkB (t:Tn):AVal:=.tup [.ptr 112 0,.agg (cT 113 115 t),.ptr 113 0,.agg (cW 114 t.w),.ptr 114 0,.agg (t.w.L.map .u64),.ptr 115 0,.agg [.u64 t.made]]
theorem mA {val:List Nat→Tn→AVal}{next:Tn→Tn}{ok:Tn→Bool}{ta tb t2:Tn}{v:AVal}{base:Nat}(hb:nodupB [base,48,49,50,51]=true) (ho:ok ta=true) (hv:val [48,49,50,51] ta=v) (hn:next ta=t2):mOb (methE clsT clsT srcT 48 val next ok) base (hAl ta tb) v (hAl t2 tb)=true:=by
 subst hv hn
 refine decP_of ?_
 rw [methE_app (C:=clsT) (C2:=clsT) (ns:=[48,49,50,51]) (s:=ta) (tFind_at (t:=48) (w:=49) (b:=50) (a:=51) rfl rfl rfl rfl) hb ho]
 rfl
theorem mB {val:List Nat→Tn→AVal}{next:Tn→Tn}{ok:Tn→Bool}{ta tb t2:Tn}{v:AVal}{base:Nat}(hb:nodupB [base,112,113,114,115]=true) (ho:ok tb=true) (hv:val [112,113,114,115] tb=v) (hn:next tb=t2):mOb (methE clsT clsT srcT 112 val next ok) base (hAl ta tb) v (hAl ta t2)=true:=by
 subst hv hn
 refine decP_of ?_
 rw [methE_app (C:=clsT) (C2:=clsT) (ns:=[112,113,114,115]) (s:=tb) (tFind_at (t:=112) (w:=113) (b:=114) (a:=115) rfl rfl rfl rfl) hb ho]
 rfl
noncomputable def oNewA:Bool:=mOb ((g9 [gotA [] [] keyA keyB [],.bool true,.u64 5,limA 2 3 10 20 8]).getD (.pure (.tup []))) 48 hA0 (.tup [.ptr 48 0,.int .i64 0]) (hA1 tA0)
noncomputable def oNewB:Bool:=mOb ((g9 [gotA [] [] keyB keyA [],.bool false,.u64 5,limA 2 3 10 20 8]).getD (.pure (.tup []))) 112 (hA1 tA0) (.tup [.ptr 112 0,.int .i64 0]) (hAl tA0 tB0)
theorem newG_al (a b:List UInt8) (ha:a.length=32) (hb:b.length=32):newG a b 2 3 10 20 8=true:=by
 unfold newG
 rw [ha,hb]
 rfl
theorem g9_at {g1 g2 g3 g4 g5:List UInt8}{first:Bool}{now rc ct rk lf:UInt64}{sz:Int}{d:EffA}(h:newG g3 g4 rc ct rk lf sz=true):(g9 [gotA g1 g2 g3 g4 g5,.bool first,.u64 now,limA rc ct rk lf sz]).getD d=newE obT 4 [0,1,2,3] winV (newT g3 g4 first now rc ct rk lf sz):=by
 simp only [g9,gotA,limA,h,cond_true,Option.getD_some]
theorem oNewA_ok:oNewA=true:=by
 refine decP_of ?_
 rw [g9_at (newG_al _ _ keyA_len keyB_len),newE_app (O2:=obT) (by decide)]
 rfl
theorem oNewB_ok:oNewB=true:=by
 refine decP_of ?_
 rw [g9_at (newG_al _ _ keyB_len keyA_len),newE_app (O2:=obT) (by decide)]
 rfl
noncomputable def oal0:Bool:=mOb (methE clsT clsT srcT 112 (fun _ s=>sealV 5 [120] s) (sealN 5 [120]) (fun _=>true)) 280 (hAl tA0 tB0) (.tup [.u64 0,.str [],.int .i64 3]) (hAl tA0 tB0)
noncomputable def oal1:Bool:=mOb (methE clsT clsT srcT 48 (fun _ s=>sealV 5 sOne s) (sealN 5 sOne) (fun _=>true)) 352 (hAl tA0 tB0) (.tup [.u64 0,.str c0,.int .i64 0]) (hAl tA1 tB0)
noncomputable def oal2:Bool:=mOb (methE clsT clsT srcT 48 (fun _ s=>sealV 5 sTwo s) (sealN 5 sTwo) (fun _=>true)) 368 (hAl tA1 tB0) (.tup [.u64 1,.str c1,.int .i64 0]) (hAl tA2 tB0)
noncomputable def oal3:Bool:=mOb (methE clsT clsT srcT 112 (fun _ s=>openV 5 1 c1 s) (openN 5 1 c1) (fun s=>okW s.w)) 456 (hAl tA2 tB0) (.tup [.str sTwo,.int .i64 0]) (hAl tA2 tB1)
noncomputable def oal4:Bool:=mOb (methE clsT clsT srcT 112 (fun _ s=>openV 5 1 c1 s) (openN 5 1 c1) (fun s=>okW s.w)) 528 (hAl tA2 tB1) (.tup [.str [],.int .i64 9]) (hAl tA2 tB1)
noncomputable def oal5:Bool:=mOb (methE clsT clsT srcT 112 (fun _ s=>sealV 5 [120] s) (sealN 5 [120]) (fun _=>true)) 584 (hAl tA2 tB1) (.tup [.u64 0,.str c2,.int .i64 0]) (hAl tA2 tB2)
noncomputable def oal6:Bool:=mOb (methE clsT clsT srcT 48 (fun _ s=>.bool (wantsT 5 s)) id (fun _=>true)) 872 (hAl tA2 tB2) (.bool true) (hAl tA2 tB2)
noncomputable def oal7:Bool:=mOb (methE clsT clsT srcT 112 (fun _ s=>.bool (wantsT 5 s)) id (fun _=>true)) 904 (hAl tA2 tB2) (.bool false) (hAl tA2 tB2)
noncomputable def oal8:Bool:=mOb (methE clsT clsT srcT 48 (fun _ s=>.bool (overT 24 s)) id (fun _=>true)) 944 (hAl tA2 tB2) (.bool false) (hAl tA2 tB2)
noncomputable def oal9:Bool:=mOb (methE clsT clsT srcT 48 (fun _ s=>.bool (overT 25 s)) id (fun _=>true)) 984 (hAl tA2 tB2) (.bool true) (hAl tA2 tB2)
noncomputable def oal10:Bool:=mOb (methE clsT clsT srcT 48 (fun _ s=>.u64 s.next) id (fun _=>true)) 1016 (hAl tA2 tB2) (.u64 2) (hAl tA2 tB2)
noncomputable def oal11:Bool:=mOb (methE clsT clsT srcT 48 (fun _ s=>.bool s.sure) id (fun _=>true)) 1056 (hAl tA2 tB2) (.bool true) (hAl tA2 tB2)
noncomputable def oal12:Bool:=mOb (methE clsT clsT srcT 112 (fun _ s=>.bool s.sure) id (fun _=>true)) 1088 (hAl tA2 tB2) (.bool true) (hAl tA2 tB2)
def sy8:List Nat:=[300023,300029,300048,300053,300056,64,71,300064,300071,300076,300108,300112,300117,300122,300126,300131,300135]
theorem w8:ansO (run1O Try.prog psT csT sy8 [] [.tup [.ptr 48 0,.int .i64 0],bkA tA0,.tup [.ptr 112 0,.int .i64 0],bkB tB0,.tup [.u64 0,.str [],.int .i64 3],bkB tB0,.tup [.u64 0,.str c0,.int .i64 0],bkA tA1,.tup [.u64 1,.str c1,.int .i64 0],bkA tA2,.tup [.str sTwo,.int .i64 0],bkB tB1,.tup [.str [],.int .i64 9],bkB tB1,.tup [.u64 0,.str c2,.int .i64 0],bkB tB2,.bool true,bkA tA2,.bool false,bkB tB2,.bool false,bkA tA2,.bool true,bkA tA2,.u64 2,bkA tA2,.bool true,bkA tA2,.bool true,bkB tB2] (mask 8) 200 8 [] [] 0)=some (.bool true,[oal12,oal11,oal10,oal9,oal8,oal7,oal6,oal5,oal4,Ae.slR c1,oal3,Ae.slR c1,oal2,oal1,oal0,oNewB,oNewA]):=by kernel_rfl
theorem sealGa (n:UInt64) (t:Tn) (x:List UInt8) (h1:overT 5 t=false) (h2:decide (t.ct≤t.next)=false) (h3:t.sure=true) (h4:(Ae.seF t.send (Ae.nonL t.next) [] x).2=0):sealG 5 x t=true:=by
 unfold sealG
 rw [h1,h2,h3,h4]
 rfl
theorem sealVa (t:Tn) (x:List UInt8) (h:sealG 5 x t=true):sealV 5 x t=.tup [.u64 t.next,.str (Ae.seF t.send (Ae.nonL t.next) [] x).1,.int .i64 0]∧sealN 5 x t=incT t:=by
 unfold sealV sealN
 rw [h]
 exact ⟨rfl,rfl⟩
theorem gA0:sealG 5 sOne tA0=true:=sealGa 0 _ _ (by decide) (by decide) rfl (seA 0 (by simp [sOne]))
theorem gA1:sealG 5 sTwo tA1=true:=sealGa 1 _ _ (by decide) (by decide) rfl (seA 1 (by simp [sTwo]))
theorem gB1:sealG 5 [120] tB1=true:=sealGa 0 _ _ (by decide) (by decide) rfl (seB 0 (by simp))
theorem gB0:sealG 5 [120] tB0=false:=by
 unfold sealG
 have:tB0.sure=false:=rfl
 rw [this,Bool.false_and,Bool.and_false,Bool.and_false]
theorem oB0:openG 5 1 c1 tB0=true:=by
 unfold openG
 have h1:overT 5 tB0=false:=by decide
 have h2:decide (tB0.ct≤1)=false:=by decide
 have h3:mayW 1 tB0.w=0:=by decide
 have h4:(Ae.opF tB0.recv (Ae.nonL 1) [] c1).2=0:=by
  have:tB0.recv=keyA:=rfl
  rw [this,opA]
 rw [h1,h2,h3,h4]
 rfl
theorem may2:mayW 1 tB1.w=9:=by decide
theorem oB1:openG 5 1 c1 tB1=false:=by
 unfold openG
 rw [may2]
 have h1:overT 5 tB1=false:=by decide
 have h2:decide (tB1.ct≤1)=false:=by decide
 rw [h1,h2]
 rfl
theorem c1_len:Ae.slR c1=true:=by
 unfold Ae.slR c1
 rw [Ae.se_len (Ae.mayN keyA_len 1) (by simp [sTwo])]
 rfl
theorem oal0_ok:oal0=true:=mB rfl rfl (by unfold sealV; rw [gB0]; rfl) (by unfold sealN; rw [gB0]; rfl)
theorem oal1_ok:oal1=true:=mA rfl rfl (sealVa _ _ gA0).1 (sealVa _ _ gA0).2
theorem oal2_ok:oal2=true:=mA rfl rfl (sealVa _ _ gA1).1 (sealVa _ _ gA1).2
theorem oal3_ok:oal3=true:=mB rfl (by decide) (by
  show openV 5 1 c1 tB0=_
  unfold openV
  have:tB0.recv=keyA:=rfl
  rw [oB0,this,opA]; rfl) (by show openN 5 1 c1 tB0=_; unfold openN; rw [oB0]; rfl)
theorem oal4_ok:oal4=true:=mB rfl (by decide) (by
  show openV 5 1 c1 tB1=_
  unfold openV openE
  have h1:overT 5 tB1=false:=by decide
  have h2:decide (tB1.ct≤1)=false:=by decide
  rw [oB1,may2,h1,h2]; rfl) (by show openN 5 1 c1 tB1=_; unfold openN; rw [oB1]; rfl)
theorem oal5_ok:oal5=true:=mB rfl rfl (sealVa _ _ gB1).1 (sealVa _ _ gB1).2
theorem oal6_ok:oal6=true:=mA rfl rfl (congrArg AVal.bool (show wantsT 5 tA2=true by decide)) rfl
theorem oal7_ok:oal7=true:=mB rfl rfl (congrArg AVal.bool (show wantsT 5 tB2=false by decide)) rfl
theorem oal8_ok:oal8=true:=mA rfl rfl (congrArg AVal.bool (show overT 24 tA2=false by decide)) rfl
theorem oal9_ok:oal9=true:=mA rfl rfl (congrArg AVal.bool (show overT 25 tA2=true by decide)) rfl
theorem oal10_ok:oal10=true:=mA rfl rfl (congrArg AVal.u64 (show tA2.next=2 by decide)) rfl
theorem oal11_ok:oal11=true:=mA rfl rfl rfl rfl
theorem oal12_ok:oal12=true:=mB rfl rfl rfl rfl
theorem run8:(run1 Try.prog csT (mask 8) 200 8 [] [] Try.prog.globals.size).map (·.1)=some (.bool true):=by
 rw [gl]
 exact ansO_run csT_ps w8 (allT_c oal12_ok (allT_c oal11_ok (allT_c oal10_ok (allT_c oal9_ok (allT_c oal8_ok (allT_c oal7_ok (allT_c oal6_ok (allT_c oal5_ok (allT_c oal4_ok (allT_c c1_len (allT_c oal3_ok (allT_c c1_len (allT_c oal2_ok (allT_c oal1_ok (allT_c oal0_ok (allT_c oNewB_ok (allT_c oNewA_ok rfl)))))))))))))))))
def g8:List AVal→Option EffA
 | []=>some (.pure (.bool true))
 | _=>none
theorem g8_ok:CSOk Try.prog (csOne 8 g8):=csOne_ok fun args e he=>by
 unfold g8 at he
 split at he
 ·cases he; exact callOk_val csT_ok hmix run8 rfl rfl
 ·cases he
end Go.Proofs.Ytjdhndicgifnbaa.Tun
namespace Go.Eng
structure Vw (S:Type) where
 k:S→Nat
 ix:S→List Nat
 c:(Nat→Nat)→S→Nat→List AVal
 ix2:S→List Nat
 c2:(Nat→Nat)→S→Nat→List AVal
 w:Nat
 A:(Nat→Nat)→S→List AVal
 val:(Nat→Nat)→S→AVal
def Vw.can {S:Type}(V:Vw S) (s:S) (ν:Nat→Nat):HL:=(V.ix s).map fun i=>(ν i,.cells false (V.c ν s i))
structure Vw.Rel {S:Type} (V:Vw S) (s:S):Prop where
 c1:∀ (ρ:Nat→Nat→Prop) (ν ν':Nat→Nat),(∀ j,j < V.k s→ρ (ν j) (ν' j))→∀ i,i ∈ V.ix s→RL ρ (V.c ν s i) (V.c ν' s i)
 c2:∀ (ρ:Nat→Nat→Prop) (ν ν':Nat→Nat),(∀ j,j < V.k s+V.w→ρ (ν j) (ν' j))→∀ i,i ∈ V.ix2 s→RL ρ (V.c2 ν s i) (V.c2 ν' s i)
 A:∀ (ρ:Nat→Nat→Prop) (ν ν':Nat→Nat),(∀ j,j < V.k s→ρ (ν j) (ν' j))→RL ρ (V.A ν s) (V.A ν' s)
 val:∀ (ρ:Nat→Nat→Prop) (ν ν':Nat→Nat),(∀ j,j < V.k s+V.w→ρ (ν j) (ν' j))→RN ρ (V.val ν s) (V.val ν' s)
 lt1:∀ i,i ∈ V.ix s→i < V.k s
 nd1:(V.ix s).Nodup
 nd2:(V.ix2 s).Nodup
 in2:∀ j,j ∈ V.ix2 s→j ∈ V.ix s ∨ (V.k s≤j∧j < V.k s+V.w)
def upG {S:Type}(V:Vw S) (s:S) (ν:Nat→Nat):List (Nat × Option AObj):=
 (V.ix2 s).map (fun j=>(ν j,some (.cells false (V.c2 ν s j))))++((V.ix s).filter fun i => !(V.ix2 s).contains i).map fun i=>(ν i,none)
def effG {S:Type}(V:Vw S) (find:(Nat→Option AObj)→Option (List Nat × S)) (ok:S→Bool):EffA:=.eff fun base η =>
 match find η with
 | some (ns,s)=>cond (nodupB (frN base V.w++ns) && ok s) (some (V.val (nmU2 ns base) s,upG V s (nmU2 ns base))) none
 | none=>none
def RunG {S:Type}(P:Program) (cs:CS) (f:FuncId) (V:Vw S) (s:S):Prop:=
 ∃ nn F H' fr fr' kks,kks.length=V.w∧kks.Nodup∧P.globals.size+V.k s≤fr∧(∀ q,q ∈ kks→fr≤q) ∧
  run1 P cs nn F f (V.A (nmC2 P.globals.size (V.k s) kks) s) (V.can s (nmC2 P.globals.size (V.k s) kks)) fr=some (V.val (nmC2 P.globals.size (V.k s) kks) s,H',fr') ∧
  ∀ j,j ∈ V.ix2 s→aget H' (nmC2 P.globals.size (V.k s) kks j)=some (.cells false (V.c2 (nmC2 P.globals.size (V.k s) kks) s j))
theorem nmC2_lt {G k:Nat}{kks:List Nat}{j:Nat}(h:j < k):nmC2 G k kks j=G+j:=by
 have:Nat.blt j k=true:=by simpa [Nat.blt_eq] using h
 unfold nmC2; rw [this]; rfl
theorem nmC2_ge {G k:Nat}{kks:List Nat}{j:Nat}(h:k≤j):nmC2 G k kks j=kks.getD (j - k) 0:=by
 have:Nat.blt j k=false:=by
  cases hb:Nat.blt j k with
  | false=>rfl
  | true =>
   have:j < k:=by simpa [Nat.blt_eq] using hb
   omega
 unfold nmC2; rw [this]; rfl
theorem nmU2_lt {ns:List Nat}{base j:Nat}(h:j < ns.length):nmU2 ns base j=ns.getD j 0:=by
 have:Nat.blt j ns.length=true:=by simpa [Nat.blt_eq] using h
 unfold nmU2; rw [this]; rfl
theorem nmU2_ge {ns:List Nat}{base j:Nat}(h:ns.length≤j):nmU2 ns base j=base+(j - ns.length):=by
 have:Nat.blt j ns.length=false:=by
  cases hb:Nat.blt j ns.length with
  | false=>rfl
  | true =>
   have:j < ns.length:=by simpa [Nat.blt_eq] using hb
   omega
 unfold nmU2; rw [this]; rfl
theorem can_get {l:List Nat}{ν:Nat→Nat}{c:Nat→List AVal}{m:Nat}{o:AObj}(h:aget (l.map fun i=>(ν i,AObj.cells false (c i))) m=some o):∃ i,i ∈ l∧m=ν i∧o=.cells false (c i):=by
 induction l with
 | nil=>simp [aget] at h
 | cons a l ih =>
  rw [List.map_cons] at h
  by_cases e:ν a=m
  ·subst e
   have h0:aget ((ν a,AObj.cells false (c a))::l.map fun i=>(ν i,AObj.cells false (c i))) (ν a)=some (.cells false (c a)):=by simp [aget]
   rw [h0] at h
   cases h
   exact ⟨a,List.mem_cons_self ..,rfl,rfl⟩
  ·have hb:Nat.beq (ν a) m=false:=by
    cases hb:Nat.beq (ν a) m with
    | false=>rfl
    | true=>exact absurd (Nat.eq_of_beq_eq_true hb) e
   simp only [aget,hb,cond_false] at h
   obtain ⟨i,h1,h2,h3⟩:=ih h
   exact ⟨i,List.mem_cons_of_mem _ h1,h2,h3⟩
theorem effG_ok {S:Type}{P:Program}{cs:CS}(hcs:CSOk P cs) (hm:P.follows .mixedOrders=true){f:FuncId}{V:Vw S}{find:(Nat→Option AObj)→Option (List Nat × S)}{args:List AVal}{ok:S→Bool}(hw:V.w≤8)
  (hfind:∀ {η:Nat→Option AObj} {ns:List Nat} {s:S},find η=some (ns,s)→ns.length=V.k s∧(∀ n,n ∈ ns→Known η args n)∧(∀ base i,i ∈ V.ix s→η (ns.getD i 0)=some (.cells false (V.c (nmU2 ns base) s i)))∧∀ base,args=V.A (nmU2 ns base) s)
  (h:∀ s,ok s=true→V.Rel s∧RunG P cs f V s):CallOk P f args (effG V find ok):=by
 unfold effG
 refine callOk_deep hcs hm fun base η v us hK => ?_
 cases hf:find η with
 | none=>rw [hf] at hK; cases hK
 | some p =>
 obtain ⟨ns,s⟩:=p
 rw [hf] at hK
 simp only at hK
 cases hc:(nodupB (frN base V.w++ns) && ok s) <;> rw [hc] at hK <;> simp only [cond_true,cond_false] at hK
 ·cases hK
 simp only [Option.some.injEq,Prod.mk.injEq] at hK
 obtain ⟨rfl,rfl⟩:=hK
 rw [Bool.and_eq_true] at hc
 obtain ⟨hn,hok⟩:=hc
 have hnb:=nodupB_ok hn
 rw [List.nodup_append] at hnb
 obtain ⟨_,hns,hdis⟩:=hnb
 have hbn:∀ j,j < V.w→base+j ∉ ns:=fun j hj hm=>hdis _ (frN_mem (Nat.le_add_right _ _) (by omega)) _ hm rfl
 obtain ⟨f1,f0,f3,f4⟩:=hfind hf
 obtain ⟨hR,nn,F,H',fr,fr',kks,hkl,hkn,hfr,hkk,hrun,hback⟩:=h s hok
 obtain ⟨νc,hνc⟩:∃ νc,νc=nmC2 P.globals.size (V.k s) kks:=⟨_,rfl⟩
 obtain ⟨νu,hνu⟩:∃ νu,νu=nmU2 ns base:=⟨_,rfl⟩
 rw [← hνc] at hrun hback
 have hu1:∀ j,j < V.k s→νu j=ns.getD j 0∧ns[j]? = some (νu j):=fun j hj=>by
  have e:νu j=ns.getD j 0:=by rw [hνu]; exact nmU2_lt (by omega)
  exact ⟨e,by rw [e]; exact getD_at (by omega)⟩
 have hc1:∀ j,j < V.k s→νc j=P.globals.size+j:=fun j hj=>by rw [hνc]; exact nmC2_lt hj
 have hu2:∀ j,V.k s≤j→νu j=base+(j - V.k s):=fun j hj=>by rw [hνu,nmU2_ge (by omega),f1]
 have hc2:∀ j,V.k s≤j→j < V.k s+V.w→kks[j - V.k s]? = some (νc j):=fun j hj hj2=>by
  rw [hνc,nmC2_ge hj]; exact getD_at (by omega)
 have r0:∀ j,j < V.k s→ρ0 P.globals.size ns (νc j) (νu j):=fun j hj=>.inr ⟨j,hc1 j hj,(hu1 j hj).2⟩
 have r1:∀ j,j < V.k s+V.w→ρ1 P.globals.size ns kks base (νc j) (νu j):=fun j hj=>by
  by_cases c:j < V.k s
  ·exact .inl (r0 j c)
  ·exact .inr ⟨_,hc2 j (by omega) hj,hu2 j (by omega)⟩
 have hinj:∀ i j,i < V.k s+V.w→j < V.k s+V.w→νu i=νu j→i=j:=fun i j hi hj e=>by
  by_cases c:i < V.k s <;> by_cases d:j < V.k s
  ·have a:=(hu1 i c).2
   rw [e] at a
   exact inj_of_nodup hns a (hu1 j d).2
  ·have a:=(hu1 i c).2
   rw [e,hu2 j (by omega)] at a
   exact absurd (List.mem_of_getElem? a) (hbn _ (by omega))
  ·have a:=(hu1 j d).2
   rw [← e,hu2 i (by omega)] at a
   exact absurd (List.mem_of_getElem? a) (hbn _ (by omega))
  ·rw [hu2 i (by omega),hu2 j (by omega)] at e; omega
 have hj2:∀ j,j ∈ V.ix2 s→j < V.k s+V.w:=fun j hj=>by
  rcases hR.in2 j hj with a | a
  ·have:=hR.lt1 j a; omega
  ·exact a.2
 have hgone:∀ i,i ∈ (V.ix s).filter (fun i => !(V.ix2 s).contains i)→i ∈ V.ix s∧i ∉ V.ix2 s:=fun i hi=>by
  rw [List.mem_filter] at hi
  refine ⟨hi.1,fun hm => ?_⟩
  have:=hi.2
  simp [hm] at this
 rw [← hνu]
 refine ⟨⟨nn,F,ns,kks,V.A νc s,V.can s νc,fr,V.val νc s,H',fr',hns,f0,?_,?_,by omega,hrun,hkn,by omega,hkk,hR.val _ _ _ r1,?_,?_,?_⟩⟩
 ·rw [f4 base,← hνu]; exact hR.A _ _ _ r0
 ·intro k o ho
  obtain ⟨i,h1,h2,rfl⟩:=can_get ho
  have hi:=hR.lt1 i h1
  refine ⟨i,νu i,_,by rw [h2,hc1 i hi],(hu1 i hi).2,by rw [(hu1 i hi).1]; exact f3 base i h1,false,_,_,rfl,rfl,?_⟩
  rw [← hνu]
  exact hR.c1 _ _ _ r0 i h1
 ·unfold upG
  rw [List.map_append,List.map_map,List.map_map]
  refine List.nodup_append.2 ⟨?_,?_,?_⟩
  ·have:=List.Pairwise.and_mem.1 hR.nd2
   exact List.pairwise_map.2 (this.imp fun ⟨h1,h2,h3⟩ e=>h3 (hinj _ _ (hj2 _ h1) (hj2 _ h2) e))
  ·have hg:((V.ix s).filter (fun i => !(V.ix2 s).contains i)).Nodup:=List.Pairwise.filter _ hR.nd1
   have:=List.Pairwise.and_mem.1 hg
   exact List.pairwise_map.2 (this.imp fun ⟨h1,h2,h3⟩ e=>h3 (hinj _ _ (by have:=hR.lt1 _ (hgone _ h1).1; omega) (by have:=hR.lt1 _ (hgone _ h2).1; omega) e))
  ·intro a ha b hb e
   subst e
   rw [List.mem_map] at ha hb
   obtain ⟨j,hj,e1⟩:=ha
   obtain ⟨i,hi,e2⟩:=hb
   have:=hinj i j (by have:=hR.lt1 _ (hgone _ hi).1; omega) (hj2 _ hj) (by simp only [Function.comp] at e1 e2; rw [e1,e2])
   subst this
   exact (hgone _ hi).2 hj
 ·intro m x hmx
  unfold upG at hmx
  rcases List.mem_append.1 hmx with hmx | hmx
  ·rw [List.mem_map] at hmx
   obtain ⟨j,hj,he⟩:=hmx
   simp only [Prod.mk.injEq] at he
   obtain ⟨rfl,rfl⟩:=he
   have hRO:RO (ρ1 P.globals.size ns kks base) (.cells false (V.c2 νc s j)) (.cells false (V.c2 νu s j)):=⟨false,_,_,rfl,rfl,hR.c2 _ _ _ r1 j hj⟩
   by_cases c:j < V.k s
   ·exact .inl ⟨j,(hu1 j c).2,.inr ⟨_,_,rfl,by rw [← hc1 j c]; exact hback j hj,rfl,hRO⟩⟩
   ·exact .inr ⟨_,νc j,_,_,hu2 j (by omega),hc2 j (by omega) (hj2 j hj),rfl,hback j hj,rfl,hRO⟩
  ·rw [List.mem_map] at hmx
   obtain ⟨i,hi,he⟩:=hmx
   simp only [Prod.mk.injEq] at he
   obtain ⟨rfl,rfl⟩:=he
   have:=hR.lt1 _ (hgone i hi).1
   exact .inl ⟨i,(hu1 i this).2,.inl rfl⟩
 ·intro i n o hi ho hro
  obtain ⟨i',h1,h2,rfl⟩:=can_get ho
  have hik:=hR.lt1 i' h1
  have:i'=i:=by rw [hc1 i' hik] at h2; omega
  subst this
  have hn:n=νu i':=by
   have:=(hu1 i' hik).2
   rw [hi] at this
   exact Option.some.inj this
  subst hn
  unfold upG
  by_cases hin:i' ∈ V.ix2 s
  ·exact ⟨_,List.mem_append.2 (.inl (List.mem_map.2 ⟨i',hin,rfl⟩))⟩
  ·exact ⟨none,List.mem_append.2 (.inr (List.mem_map.2 ⟨i',by rw [List.mem_filter]; exact ⟨h1,by simp [hin]⟩,rfl⟩))⟩
theorem effG_app {S:Type}{V:Vw S}{find:(Nat→Option AObj)→Option (List Nat × S)}{ok:S→Bool}{H:HL}{base:Nat}{ns:List Nat}{s:S}
  (hf:find (aget H)=some (ns,s)) (hn:nodupB (frN base V.w++ns)=true) (ho:ok s=true):(effG V find ok).app base H=some (V.val (nmU2 ns base) s,appU H (upG V s (nmU2 ns base))):=by
 unfold effG
 simp only [EffA.app,hf,hn,ho,Bool.and_self,cond_true]
theorem runG_ofR {S:Type}{P:Program}{cs:CS}{G:Nat}(hG:P.globals.size=G){f:FuncId}{V:Vw S}{s:S}{nn F fr:Nat}(kks:List Nat)
  (h:ansR ((V.ix2 s).map (nmC2 G (V.k s) kks)) (run1 P cs nn F f (V.A (nmC2 G (V.k s) kks) s) (V.can s (nmC2 G (V.k s) kks)) fr)=some (V.val (nmC2 G (V.k s) kks) s,(V.ix2 s).map fun j=>some (.cells false (V.c2 (nmC2 G (V.k s) kks) s j))))
  (hkl:kks.length=V.w) (hkn:nodupB kks=true) (hfr:Nat.ble (G+V.k s) fr=true) (hkk:kks.all (fun q=>Nat.ble fr q)=true):RunG P cs f V s:=by
 subst hG
 unfold ansR at h
 split at h
 ·rename_i v' H' fr' hr
  simp only [Option.some.injEq,Prod.mk.injEq] at h
  obtain ⟨rfl,h2⟩:=h
  refine ⟨nn,F,H',fr,fr',kks,hkl,nodupB_ok hkn,Nat.le_of_ble_eq_true hfr,fun q hq=>Nat.le_of_ble_eq_true (List.all_eq_true.1 hkk q hq),hr,fun j hj => ?_⟩
  rw [List.map_map] at h2
  exact List.map_inj_left.1 h2 j hj
 ·cases h
end Go.Eng
namespace Go.Eng
def lookE {S:Type}(m:Nat) (find:(Nat→Option AObj)→Option (List Nat × S)) (val:S→AVal) (ok:S→Bool):EffA:=.look m fun η=>match find η with
 | some (ns,s)=>cond (nodupB ns && ok s) (some (val s)) none
 | none=>none
theorem lookE_app {S:Type}{m:Nat}{find:(Nat→Option AObj)→Option (List Nat × S)}{val:S→AVal}{ok:S→Bool}{H:HL}{base:Nat}{ns:List Nat}{s:S}(hf:find (cutH m (aget H))=some (ns,s)) (hn:nodupB ns=true) (ho:ok s=true):(lookE m find val ok).app base H=some (val s,H):=by
 unfold lookE
 simp only [EffA.app,hf,hn,ho,Bool.and_self,cond_true]
def Mono {S:Type}(find:(Nat→Option AObj)→Option (List Nat × S)):Prop:=∀ η η':Nat→Option AObj,(∀ n o,η n=some o→η' n=some o)→∀ r,find η=some r→find η'=some r
theorem cutH_sub {m:Nat}{η:Nat→Option AObj}{n:Nat}{o:AObj}(h:cutH m η n=some o):η n=some o:=by
 unfold cutH at h
 cases hb:Nat.ble (n+1) m <;> rw [hb] at h <;> simp only [cond_true,cond_false] at h
 ·cases h
 ·exact h
theorem cutH_lt {m:Nat}{η:Nat→Option AObj}{n:Nat}{o:AObj}(h:η n=some o) (hn:n < m):cutH m η n=some o:=by
 unfold cutH
 rw [Nat.ble_eq_true_of_le hn]
 exact h
theorem putC_same:∀ (ns:List Nat) (cs:List (List AVal)) (H:HL),(∀ (i n:Nat) (c:List AVal),ns[i]? = some n→cs[i]? = some c→aget H n=some (.cells false c))→aget (appU H (putC ns cs))=aget H
 | [],cs,H,_=>by cases cs <;> rfl
 | n::ns,[],H,_=>rfl
 | n::ns,c::cs,H,h=>by
  have h0:=h 0 n c rfl rfl
  have e:aget (aset H n (.cells false c))=aget H:=by
   funext m
   rw [aget_aset]
   split
   ·rename_i e; subst e; rw [h0]
   ·rfl
  have ih:=putC_same ns cs (aset H n (.cells false c)) fun i m d h1 h2=>by rw [e]; exact h (i+1) m d (by simpa using h1) (by simpa using h2)
  show aget (appU (aset H n (.cells false c)) (putC ns cs))=_
  rw [ih,e]
theorem lookE_ok {S:Type}{P:Program}{cs:CS}(hcs:CSOk P cs) (hm:P.follows .mixedOrders=true){f:FuncId}{O:Ob S}{m:Nat}{find:(Nat→Option AObj)→Option (List Nat × S)}{args:List AVal}{A:S→List Nat→List AVal}{val:S→AVal}{ok:S→Bool}(hmono:Mono find) (hmk:∀ s,O.m s=O.k s)
  (hfind:∀ {η:Nat→Option AObj} {ns:List Nat} {s:S},find η=some (ns,s)→ns.length=O.k s∧(∀ n,n ∈ ns→Known η args n)∧(∀ (i n:Nat) (c:List AVal),ns[i]? = some n→(O.place ns s)[i]? = some c→η n=some (.cells false c))∧args=A s ns)
  (h:∀ s,ok s=true→O.Rel s∧ltV 0 (val s)=true∧NameL (O.k s) (A s)∧RunF P cs f O O 0 (List.range (O.k s)) (A s) s (fun _=>val s) s):CallOk P f args (lookE m find val ok):=by
 have h0:CallOk P f args (effF O O find 0 (fun s=>List.range (O.k s)) (fun _ s=>val s) id ok):=
  effF_ok hcs hm (by decide) (A:=A) hfind fun s hs=>by
   obtain ⟨a,b,c,d⟩:=h s hs
   exact ⟨a,a,.plain b,c,by rw [List.length_range]; rfl,List.nodup_range,fun j hj=>by have:=List.mem_range.1 hj; omega,fun i j e1 e2=>.inl (by obtain ⟨_,rfl⟩:=range_at e1; exact e2),d⟩
 refine callOk_same2 h0 fun base H v H' happ => ?_
 unfold lookE at happ
 simp only [EffA.app] at happ
 cases hf:find (cutH m (aget H)) with
 | none=>rw [hf] at happ; cases happ
 | some p =>
  obtain ⟨ns,s⟩:=p
  rw [hf] at happ
  simp only at happ
  cases hc:(nodupB ns && ok s) <;> rw [hc] at happ <;> simp only [cond_true,cond_false] at happ
  ·cases happ
  ·cases happ
   rw [Bool.and_eq_true] at hc
   have hf':=hmono _ _ (fun n o hn=>cutH_sub hn) _ hf
   obtain ⟨h1,h2,h3,h4⟩:=hfind hf'
   refine ⟨_,effF_app (O:=O) (O2:=O) (src:=fun s=>List.range (O.k s)) (val:=fun _ s=>val s) (next:=id) hf' hc.1 hc.2,?_⟩
   rw [map_nmU2 h1]
   have hg:goneF (O.m s) ((List.range (O.k s)).take (O.place ns (id s)).length)=[]:=by
    show goneF (O.m s) ((List.range (O.k s)).take (O.place ns s).length)=[]
    rw [O.len,hmk,List.take_of_length_le (by simp)]
    unfold goneF
    rw [List.filter_eq_nil_iff]
    intro j hj
    simp [List.mem_range.1 hj]
   unfold upF2
   rw [hg,map_nmU2 h1,List.map_nil,List.append_nil]
   exact putC_same _ _ _ h3
end Go.Eng
namespace Go.Proofs.Ytjdhndicgifnbaa.Tun
open Go Go.Eng Go.Proofs.Ytjdhndicgifnbaa Go.Proofs.Ytjdhndicgifnbaa.Pol
theorem run12 (now:UInt64) (s:Tn):MethRun Try.prog csO 12 clsT clsT srcT [.u64 now] s (fun _=>.bool (overT now s)) s:=by
 have h6:=o36_ok (show nodupB [20,0,1,2,3]=true from rfl) s
 unfold overT
 cases hs0:(s.send == []) with
 | true=>exact methRun_of (noPS_ok _) gl 4 (w12a s now) (by simp only [allT,hs0,h6,cond_true]) rfl
 | false=>exact methRun_of (noPS_ok _) gl 4 (w12b s now) (by simp only [allT,hs0,h6,Bool.not_false,cond_true]) rfl
theorem run14 (now:UInt64) (s:Tn):MethRun Try.prog csP14 14 clsT clsT srcT [.u64 now] s (fun _=>.bool (wantsT now s)) s:=by
 have n28:nodupB [28,0,1,2,3]=true:=rfl
 unfold wantsT
 cases h0:overT now s with
 | true=>exact methRun_of (noPS_ok _) gl 4 (w14a s now) (by simp only [allT,o12_ok n28 h0,cond_true]) rfl
 | false =>
  simp only [cond_false]
  cases h1:s.first with
  | false=>exact methRun_of (noPS_ok _) gl 4 (w14b s now) (by simp only [allT,o12_ok n28 h0,first_at h1,cond_true]) rfl
  | true =>
   simp only [cond_true]
   cases h2:decide (s.rc≤s.next) with
   | true=>exact methRun_of (noPS_ok _) gl 4 (w14c s now) (by simp only [allT,o12_ok n28 h0,first_at h1,h2,cond_true]) rfl
   | false=>exact methRun_of (noPS_ok _) gl 4 (w14d s now) (by simp only [allT,o12_ok n28 h0,first_at h1,h2,Bool.not_false,cond_true]) rfl
theorem runF_meth {cs:CS}{f:FuncId}{xs:List AVal}{s:Tn}{v:AVal}(h:MethRun Try.prog cs f clsT clsT srcT xs s (fun _=>v) s):RunF Try.prog cs f obT obT 0 (List.range (obT.k s)) (fun ns=>.ptr (ns.getD 0 0) 0::xs) s (fun _=>v) s:=by
 obtain ⟨nn,F,H',fr',kk,h1,h2,h3⟩:=h
 refine ⟨nn,F,H',4,fr',[],rfl,List.nodup_nil,?_,fun q hq=>by simp at hq,?_,?_⟩
 ·rw [gl]; exact Nat.le_refl _
 ·rw [gl] at h1 ⊢; exact h1
 ·rw [gl] at h3 ⊢; exact h3
theorem unU_mono (η η':Nat→Option AObj) (hs:∀ n o,η n=some o→η' n=some o) (w:Nat) (r:List Nat × Wn) (h:wFind η w=some r):wFind η' w=some r:=by
 unfold wFind at h ⊢
 split at h
 ·rename_i sz b q hi any h0
  rw [hs _ _ h0]
  simp only
  split at h
  ·rename_i l h1
   rw [hs _ _ h1]
   exact h
  ·cases h
 ·cases h
theorem tFind_mono (t:Nat):Mono fun η=>tFind η t:=fun η η' hs r h=>by
 show tFind η' t=some r
 have h:tFind η t=some r:=h
 unfold tFind at h ⊢
 split at h
 ·rename_i w send recv first sure a rc ct rk lf wn next h0
  rw [hs _ _ h0]
  simp only
  split at h
  ·rename_i made h1
   rw [hs _ _ h1]
   simp only
   split at h
   ·rename_i w' b s' hw
    rw [unU_mono η η' hs _ _ hw]
    exact h
   ·cases h
  ·cases h
 ·cases h
def lkT (t:Nat) (val:Tn→AVal):EffA:=lookE (t+8) (fun η=>tFind η t) val fun _=>true
theorem lkT_ok {cs:CS}(hcs:CSOk Try.prog cs){f:FuncId}{t:Nat}{xs:List AVal}(hx:ltL 0 xs=true){val:Tn→AVal}(hv:∀ s,ltV 0 (val s)=true) (h:∀ s,MethRun Try.prog cs f clsT clsT srcT xs s (fun _=>val s) s):CallOk Try.prog f (.ptr t 0::xs) (lkT t val):=by
 refine lookE_ok hcs hmix (O:=obT) (A:=fun _ ns=>.ptr (ns.getD 0 0) 0::xs) (tFind_mono t) (fun _=>rfl) (fun {η ns s} hf => ?_) fun s _=>⟨relOT s,hv s,.recv (show 0 < 4 by decide) hx,runF_meth (h s)⟩
 obtain ⟨h1,h2,h3⟩:=tFind_ok hf
 refine ⟨h1,fun n hn => ?_,h3,argP0 (ns:=[]) h2⟩
 obtain ⟨i,hi,rfl⟩:=List.getElem_of_mem hn
 have hp:i < (tPlace ns s).length:=by rw [show (tPlace ns s).length=4 from rfl]; omega
 exact .inl ⟨_,h3 i _ _ (List.getElem?_eq_getElem hi) (List.getElem?_eq_getElem hp)⟩
def k12:List AVal→Option EffA
 | [.ptr t 0,.u64 now]=>some (lkT t fun s=>.bool (overT now s))
 | _=>none
def k14:List AVal→Option EffA
 | [.ptr t 0,.u64 now]=>some (lkT t fun s=>.bool (wantsT now s))
 | _=>none
def k16:List AVal→Option EffA
 | [.ptr t 0]=>some (lkT t fun s=>.bool s.sure)
 | _=>none
def k17:List AVal→Option EffA
 | [.ptr t 0]=>some (lkT t fun s=>.u64 s.next)
 | _=>none
theorem k12_ok:CSOk Try.prog (csOne 12 k12):=csOne_ok fun args e he=>by
 unfold k12 at he
 split at he
 ·cases he; exact lkT_ok csO_ok rfl (fun _=>rfl) fun s=>run12 _ s
 ·cases he
theorem k14_ok:CSOk Try.prog (csOne 14 k14):=csOne_ok fun args e he=>by
 unfold k14 at he
 split at he
 ·cases he; exact lkT_ok csP14_ok rfl (fun _=>rfl) fun s=>run14 _ s
 ·cases he
theorem k16_ok:CSOk Try.prog (csOne 16 k16):=csOne_ok fun args e he=>by
 unfold k16 at he
 split at he
 ·cases he; exact lkT_ok csO_ok rfl (fun _=>rfl) fun s=>methRun_of (noPS_ok _) gl 4 (w16 s) (n20 s) rfl
 ·cases he
theorem k17_ok:CSOk Try.prog (csOne 17 k17):=csOne_ok fun args e he=>by
 unfold k17 at he
 split at he
 ·cases he; exact lkT_ok csO_ok rfl (fun _=>rfl) fun s=>methRun_of (noPS_ok _) gl 4 (w17 s) (n20 s) rfl
 ·cases he
end Go.Proofs.Ytjdhndicgifnbaa.Tun
namespace Go.Proofs.Ytjdhndicgifnbaa.Tun
open Go Go.Eng Go.Proofs.Ytjdhndicgifnbaa Go.Proofs.Ytjdhndicgifnbaa.Pol
abbrev SL:=List (UInt64 × List UInt8)
def snC (l:SL):List AVal:=l.flatMap fun x=>[.u64 x.1,.str x.2]
def slS (m:Nat):SL→AVal
 | []=>.nilSlice
 | a::l=>.slice m 0 (a::l).length 2
def e1 {α:Type}:List α→Nat
 | []=>0
 | _::_=>1
def unS:List AVal→Option SL
 | []=>some []
 | .u64 n::.str c::l=>match unS l with
  | some r=>some ((n,c)::r)
  | none=>none
 | _=>none
theorem unS_snC:∀ l:SL,unS (snC l)=some l
 | []=>rfl
 | (n,c)::l=>by
  show unS (.u64 n::.str c::snC l)=_
  rw [unS,unS_snC l]
theorem unS_some:∀ {l:List AVal}{r:SL},unS l=some r→l=snC r
 | [],r,h=>by cases h; rfl
 | [x],r,h=>by unfold unS at h; split at h <;> first | (rename_i e; cases e; done) | cases h
 | x::y::l,r,h=>by
  unfold unS at h
  split at h
  ·rename_i e; cases e
  ·rename_i n c l' e
   cases e
   split at h
   ·rename_i r' hr
    cases h
    rw [unS_some hr]; rfl
   ·cases h
  ·cases h
def decSn (η:Nat→Option AObj):AVal→Option (List Nat × SL)
 | .nilSlice=>some ([],[])
 | .slice m 0 q 2=>match η m with
  | some (.cells false l)=>match unS l with
   | some (x::r)=>cond (Nat.beq q (x::r).length) (some ([m],x::r)) none
   | _=>none
  | _=>none
 | _=>none
theorem decSn_ok {η:Nat→Option AObj}{v:AVal}{ns:List Nat}{l:SL}(h:decSn η v=some (ns,l)):ns.length=e1 l∧v=slS (ns.getD 0 0) l∧(∀ n,n ∈ ns→η n=some (.cells false (snC l))):=by
 unfold decSn at h
 split at h
 ·cases h; exact ⟨rfl,rfl,fun n h=>by simp at h⟩
 ·rename_i m q
  split at h
  ·rename_i c hη
   split at h
   ·rename_i x r hu
    cases hq:Nat.beq q (x::r).length <;> rw [hq] at h <;> simp only [cond_true,cond_false] at h
    ·cases h
    ·cases h
     have hq:=Nat.eq_of_beq_eq_true hq
     subst hq
     refine ⟨rfl,rfl,fun n hn => ?_⟩
     simp at hn
     subst hn
     rw [hη,unS_some hu]
   ·cases h
  ·cases h
 ·cases h
theorem decSn_at {η:Nat→Option AObj}{m:Nat}{l:SL}(h:l ≠ []→η m=some (.cells false (snC l))):decSn η (slS m l)=some (match l with | []=>[] | _::_=>[m],l):=by
 cases l with
 | nil=>rfl
 | cons x r =>
  unfold slS decSn
  simp only [h (by simp),unS_snC]
  have:Nat.beq (x::r).length (x::r).length=true:=Nat.beq_refl _
  rw [this]; rfl
def pK (k:Bool) (a a' b b' s s':AVal):List AVal:=cond k [a',a,b',b,s',s] [a,a',b,b',s,s']
structure Hv where
 t:Tn
 c:Dc
 L:List UInt64
 sk:SL
 so:SL
structure Pn where
 n8:List Nat
 nm:List Nat
 nk:List Nat
 no:List Nat
def pFind (k:Bool) (p:Nat) (η:Nat→Option AObj):Option (Pn × Hv):=
 match η p with
 | some (.cells false [x0,x1,y0,y1,z0,z1])=>match cond k x1 x0,cond k x0 x1,cond k y1 y0,cond k y0 y1 with
  | .ptr t 0,.ptr t' 0,.ptr r 0,.ptr r' 0=>match tFind η t with
   | some ([_,w,b,a],tn)=>match findD r η with
    | some (_::nm,(c,L))=>match decSn η (cond k z1 z0),decSn η (cond k z0 z1) with
     | some (nk,sk),some (no,so)=>some (⟨[p,t,w,b,a,r,t',r'],nm,nk,no⟩,⟨tn,c,L,sk,so⟩)
     | _,_=>none
    | _=>none
   | _=>none
  | _,_,_,_=>none
 | _=>none
structure PfOk (k:Bool) (p:Nat) (η:Nat→Option AObj) (N:Pn) (s:Hv):Prop where
 h8:∃ t w b a r t' r',N.n8=[p,t,w,b,a,r,t',r']∧η p=some (.cells false (pK k (.ptr t 0) (.ptr t' 0) (.ptr r 0) (.ptr r' 0) (slS (N.nk.getD 0 0) s.sk) (slS (N.no.getD 0 0) s.so))) ∧
  η t=some (.cells false (cT w a s.t))∧η w=some (.cells false (cW b s.t.w))∧η b=some (.cells false (s.t.w.L.map .u64))∧η a=some (.cells false [.u64 s.t.made])∧η r=some (.cells false (cD (slQ (N.nm.getD 0 0) (qL s.L)) s.c))
 hm:N.nm.length=e1 s.L∧∀ n,n ∈ N.nm→η n=some (.cells false (s.L.map .u64))
 hk:N.nk.length=e1 s.sk∧∀ n,n ∈ N.nk→η n=some (.cells false (snC s.sk))
 ho:N.no.length=e1 s.so∧∀ n,n ∈ N.no→η n=some (.cells false (snC s.so))
theorem pFind_ok {k:Bool}{p:Nat}{η:Nat→Option AObj}{N:Pn}{s:Hv}(h:pFind k p η=some (N,s)):PfOk k p η N s:=by
 unfold pFind at h
 split at h
 ·rename_i x0 x1 y0 y1 z0 z1 hp
  split at h
  ·rename_i t t' r r' g1 g2 g3 g4
   split at h
   ·rename_i w b a tn ht
    split at h
    ·rename_i r0 nm c L hd
     split at h
     ·rename_i nk sk no so h1 h2
      cases h
      obtain ⟨_,q1,q2⟩:=tFind_ok ht
      obtain ⟨d1,d2,d3,_⟩:=findD_ok (t:=r) (args:=[.ptr r 0]) (A:=fun ns=>[.ptr (ns.getD 0 0) 0]) (fun ns h0=>argP0 (ns:=[]) (xs:=[]) h0) hd
      obtain ⟨a1,a2,a3⟩:=decSn_ok h1
      obtain ⟨b1,b2,b3⟩:=decSn_ok h2
      simp only [List.getElem?_cons_zero,Option.some.injEq] at q1
      subst q1
      have hr0:r0=r:=by
       have hd':=hd
       unfold findD at hd'
       split at hd'
       ·rename_i ns' s' q h0
        split at hd'
        ·cases hd'
         unfold atF at h0
         split at h0
         ·rename_i o ho
          have:=(decD_ok r o _ _ h0).2.1
          simpa using this
         ·cases h0
        ·cases hd'
       ·cases hd'
      subst hr0
      refine ⟨⟨_,w,b,a,_,t',r',rfl,?_,q2 0 _ _ rfl rfl,q2 1 _ _ rfl rfl,q2 2 _ _ rfl rfl,q2 3 _ _ rfl rfl,?_⟩,⟨?_,fun n hn => ?_⟩,⟨a1,a3⟩,⟨b1,b3⟩⟩
      ·rw [hp]
       show some (AObj.cells false [x0,x1,y0,y1,z0,z1])=some (AObj.cells false (pK k _ _ _ _ _ _))
       have e1:=a2; have e2:=b2
       cases k <;> simp only [cond_true,cond_false] at g1 g2 g3 g4 e1 e2 <;> subst g1 g2 g3 g4 e1 e2 <;> rfl
      ·have:=d3 0 r0 _ rfl rfl
       simpa using this
      ·cases L with
       | nil=>simpa [obD,kQ,qL,e1] using d1
       | cons x l=>simpa [obD,kQ,qL,e1] using d1
      ·obtain ⟨i,hi,rfl⟩:=List.getElem_of_mem hn
       have hi:i < nm.length:=hi
       cases L with
       | nil =>
        have:nm.length=0:=by simpa [obD,kQ,qL] using d1
        omega
       | cons x l =>
        have hl:nm.length=1:=by simpa [obD,kQ,qL] using d1
        have:i=0:=by omega
        subst this
        exact d3 1 _ _ (by simp [List.getElem?_eq_getElem hi]) rfl
     ·cases h
    ·cases h
   ·cases h
  ·cases h
 ·cases h
def oneN (m:Nat){α:Type}:List α→List Nat
 | []=>[]
 | _::_=>[m]
theorem oneN_len (m:Nat){α:Type}(l:List α):(oneN m l).length=e1 l:=by cases l <;> rfl
theorem decSn_at' {η:Nat→Option AObj}{m:Nat}{l:SL}(h:l ≠ []→η m=some (.cells false (snC l))):decSn η (slS m l)=some (oneN m l,l):=by
 rw [decSn_at h]
 cases l <;> rfl
theorem pFind_at {k:Bool}{p t w b a r t' r' m mk mo:Nat}{H:HL}{tn:Tn}{c:Dc}{L:List UInt64}{sk so:SL}
  (h0:aget H p=some (.cells false (pK k (.ptr t 0) (.ptr t' 0) (.ptr r 0) (.ptr r' 0) (slS mk sk) (slS mo so)))) (h1:aget H t=some (.cells false (cT w a tn))) (h2:aget H w=some (.cells false (cW b tn.w))) (h3:aget H b=some (.cells false (tn.w.L.map .u64))) (h4:aget H a=some (.cells false [.u64 tn.made]))
  (h5:aget H r=some (.cells false (cD (slQ m (qL L)) c))) (h6:∀ x l,L=x::l→aget H m=some (.cells false ((x::l).map .u64))) (h7:sk ≠ []→aget H mk=some (.cells false (snC sk))) (h8:so ≠ []→aget H mo=some (.cells false (snC so))) :
  pFind k p (aget H)=some (⟨[p,t,w,b,a,r,t',r'],oneN m L,oneN mk sk,oneN mo so⟩,⟨tn,c,L,sk,so⟩):=by
 have e1:=tFind_at h1 h2 h3 h4
 have e2:=findD_at h5 h6
 have e3:=decSn_at' h7
 have e4:=decSn_at' h8
 unfold pFind
 rw [h0]
 cases k <;> cases L <;> simp only [pK,cond_true,cond_false,e1,e2,e3,e4,dNs,oneN]
end Go.Proofs.Ytjdhndicgifnbaa.Tun
namespace Go.Proofs.Ytjdhndicgifnbaa.Tun
open Go Go.Eng Go.Proofs.Ytjdhndicgifnbaa Go.Proofs.Ytjdhndicgifnbaa.Pol
def hF (k:Bool) (x y zo sl slm:AVal) (t:Tn) (c:Dc):HL:=[(0,.cells false (pK k (.ptr 1 0) x (.ptr 5 0) y sl zo)),(1,.cells false (cT 2 4 t)),(2,.cells false (cW 3 t.w)),(3,.cells false (t.w.L.map .u64)),(4,.cells false [.u64 t.made]),(5,.cells false (cD slm c))]
def oF (k:Bool) (x y zo sl slm:AVal) (t:Tn) (c:Dc):List (Option AObj):=[some (.cells false (pK k (.ptr 1 0) x (.ptr 5 0) y sl zo)),some (.cells false (cT 2 4 t)),some (.cells false (cW 3 t.w)),some (.cells false (t.w.L.map .u64)),some (.cells false [.u64 t.made]),some (.cells false (cD slm c))]
def stC (d:Int) (a:UInt8) (s:List UInt8) (wh n:Int) (now:UInt64):List AVal:=[.int .i64 d,.u8 a,.str s,.int .i64 wh,.int .i64 n,.u64 now]
def hG (k:Bool) (x y zo sl slm:AVal) (ex:HL) (t:Tn) (c:Dc) (st:List AVal):HL:=hF k x y zo sl slm t c++(ex++[(16,.cells false st)])
def kI (k:Bool):Int:=cond k 1 0
def bk4 (t:Tn):AVal:=.tup [.ptr 1 0,.agg (cT 2 4 t),.ptr 2 0,.agg (cW 3 t.w),.ptr 3 0,.agg (t.w.L.map .u64),.ptr 4 0,.agg [.u64 t.made]]
def bk5 (slm:AVal) (c:Dc):AVal:=.tup [.ptr 5 0,.agg (cD slm c)]
def atO (a:UInt8) (k:Bool):Bool:=eqS (.int .i64 ((a &&& 1).toNat:Int)) (.int .i64 (kI k))
noncomputable def oSe (H H2:HL) (now:UInt64) (z:List UInt8) (v:AVal):Bool:=mOb (methE clsT clsT srcT 1 (fun _ s=>sealV now z s) (sealN now z) fun _=>true) 256 H v H2
noncomputable def oSd (H H2:HL) (now:UInt64) (z:List UInt8) (v:AVal):Bool:=mOb (meD 5 (sealDV now z) (sealDN now z)) 360 H v H2
noncomputable def oWi (H H2:HL):Bool:=mOb (methE clsT clsT srcT 1 (fun _ _=>.tup []) wipeT fun _=>true) 256 H (.tup []) H2
def goneD (c:Dc):Dc:={ c with gone:=true }
section
variable (k:Bool) (x y zo sl slm:AVal) (sk:SL) (t t2:Tn) (c c2:Dc) (d wh n:Int) (a:UInt8) (s z:List UInt8) (now m:UInt64) (e:Int)
def appS (sk:SL) (m:UInt64) (z:List UInt8):Bool:=Nat.ble (0+(1 * 2)) [AVal.u64 m,.str z].length && (((Nat.ble ((sk.length+1) * 24) 140737488355328 && Nat.ble (sk.length+1) 140737488355328) && [AVal.u64 m,.str z].all oneA) && Nat.ble (0+sk.length * 2) (snC sk).length)
def sy11:List Nat:=[200024,40,300047,300057,62,75,81,85,90,93,95,300097]
def sy11n:List Nat:=[200024,40,300047,300057,62,81,85,90,93,95,300097]
theorem w11na:ansM [0,1,2,3,4,5,536] (run1O Try.prog psT csT sy11n [true,true,true,true] [.int .i64 (kI k),.tup [.u64 m,.str z,.int .i64 e],bk4 t2,.tup [.u64 m,.str z,.int .i64 e],bk5 slm c2] (mask 11) 200 11 [.ptr 0 0,.agg (stC d a s wh n now)] (hF k x y zo .nilSlice slm t c++[]) 16)=some (.bool (e == e),oF k x y zo (.slice 536 0 1 2) slm t2 c2++[some (.cells false [.u64 m,.str z])],[z == z,m == m,e == 0,oSd (hG k x y zo .nilSlice slm [] t2 c (stC d a s wh n now)) (hG k x y zo .nilSlice slm [] t2 c2 (stC d a s wh n now)) now s (.tup [.u64 m,.str z,.int .i64 e]),oSe (hG k x y zo .nilSlice slm [] t c (stC d a s wh n now)) (hG k x y zo .nilSlice slm [] t2 c (stC d a s wh n now)) now s (.tup [.u64 m,.str z,.int .i64 e]),d == 0,atO a k]):=by cases k <;> kernel_rfl
theorem w11nb:ansM [0,1,2,3,4,5] (run1O Try.prog psT csT sy11n [true,false,true,true] [.int .i64 (kI k),.tup [.u64 m,.str z,.int .i64 e],bk4 t2,.tup [.u64 m,.str z,.int .i64 e],bk5 slm c2] (mask 11) 200 11 [.ptr 0 0,.agg (stC d a s wh n now)] (hF k x y zo .nilSlice slm t c++[]) 16)=some (.bool (e == e),oF k x y zo .nilSlice slm t2 c2,[z == z,m == m,!(e == 0),oSd (hG k x y zo .nilSlice slm [] t2 c (stC d a s wh n now)) (hG k x y zo .nilSlice slm [] t2 c2 (stC d a s wh n now)) now s (.tup [.u64 m,.str z,.int .i64 e]),oSe (hG k x y zo .nilSlice slm [] t c (stC d a s wh n now)) (hG k x y zo .nilSlice slm [] t2 c (stC d a s wh n now)) now s (.tup [.u64 m,.str z,.int .i64 e]),d == 0,atO a k]):=by cases k <;> kernel_rfl
theorem w11ma:ansM [0,1,2,3,4,5,536] (run1O Try.prog psT csT sy11 [true,true,true,true] [.int .i64 (kI k),.tup [.u64 m,.str z,.int .i64 e],bk4 t2,.tup [.u64 m,.str z,.int .i64 e],bk5 slm c2] (mask 11) 200 11 [.ptr 0 0,.agg (stC d a s wh n now)] (hF k x y zo (.slice 8 0 sk.length 2) slm t c++[(8,.cells false (snC sk))]) 16)=some (.bool (e == e),oF k x y zo (.slice 536 0 (sk.length+1) 2) slm t2 c2++[some (.cells false ((snC sk).take (sk.length * 2)++[.u64 m,.str z]))],[z == z,m == m,appS sk m z,e == 0,oSd (hG k x y zo (.slice 8 0 sk.length 2) slm [(8,.cells false (snC sk))] t2 c (stC d a s wh n now)) (hG k x y zo (.slice 8 0 sk.length 2) slm [(8,.cells false (snC sk))] t2 c2 (stC d a s wh n now)) now s (.tup [.u64 m,.str z,.int .i64 e]),oSe (hG k x y zo (.slice 8 0 sk.length 2) slm [(8,.cells false (snC sk))] t c (stC d a s wh n now)) (hG k x y zo (.slice 8 0 sk.length 2) slm [(8,.cells false (snC sk))] t2 c (stC d a s wh n now)) now s (.tup [.u64 m,.str z,.int .i64 e]),d == 0,atO a k]):=by cases k <;> kernel_rfl
theorem w11mb:ansM [0,1,2,3,4,5,8] (run1O Try.prog psT csT sy11 [true,false,true,true] [.int .i64 (kI k),.tup [.u64 m,.str z,.int .i64 e],bk4 t2,.tup [.u64 m,.str z,.int .i64 e],bk5 slm c2] (mask 11) 200 11 [.ptr 0 0,.agg (stC d a s wh n now)] (hF k x y zo (.slice 8 0 sk.length 2) slm t c++[(8,.cells false (snC sk))]) 16)=some (.bool (e == e),oF k x y zo (.slice 8 0 sk.length 2) slm t2 c2++[some (.cells false (snC sk))],[z == z,m == m,!(e == 0),oSd (hG k x y zo (.slice 8 0 sk.length 2) slm [(8,.cells false (snC sk))] t2 c (stC d a s wh n now)) (hG k x y zo (.slice 8 0 sk.length 2) slm [(8,.cells false (snC sk))] t2 c2 (stC d a s wh n now)) now s (.tup [.u64 m,.str z,.int .i64 e]),oSe (hG k x y zo (.slice 8 0 sk.length 2) slm [(8,.cells false (snC sk))] t c (stC d a s wh n now)) (hG k x y zo (.slice 8 0 sk.length 2) slm [(8,.cells false (snC sk))] t2 c (stC d a s wh n now)) now s (.tup [.u64 m,.str z,.int .i64 e]),d == 0,atO a k]):=by cases k <;> kernel_rfl
theorem w11w:ansM [0,1,2,3,4,5] (run1O Try.prog psT csT sy11 [false,false,true] [.int .i64 (kI k),.tup [],bk4 t2] (mask 11) 200 11 [.ptr 0 0,.agg (stC d a s wh n now)] (hF k x y zo sl slm t c++[]) 16)=some (.bool true,oF k x y zo sl slm t2 (goneD c),[oWi (hG k x y zo sl slm [] t c (stC d a s wh n now)) (hG k x y zo sl slm [] t2 c (stC d a s wh n now)),d == 5,!(d == 4),!(d == 0),atO a k]):=by cases k <;> kernel_rfl
theorem w11f:ansM [0,1,2,3,4,5] (run1O Try.prog psT csT sy11 [false,true] [.int .i64 (kI k)] (mask 11) 200 11 [.ptr 0 0,.agg (stC d a s wh n now)] (hF k x y zo sl slm t c++[]) 16)=some (.bool true,oF k x y zo sl slm t c,[d == 4,!(d == 0),atO a k]):=by cases k <;> kernel_rfl
end
end Go.Proofs.Ytjdhndicgifnbaa.Tun
namespace Go.Proofs.Ytjdhndicgifnbaa.Tun
open Go Go.Eng Go.Proofs.Ytjdhndicgifnbaa Go.Proofs.Ytjdhndicgifnbaa.Pol
def hX (k:Bool) (x y zo sl slm:AVal) (ex bb:HL) (t:Tn) (c:Dc) (st xb:List AVal):HL:=hF k x y zo sl slm t c++(ex++((16,.cells false st)::(296,.cells false xb)::bb))
noncomputable def oOp (b:Nat) (H H2:HL) (now n:UInt64) (z:List UInt8) (v:AVal):Bool:=mOb (m20 1 now n z) b H v H2
noncomputable def oOd (b:Nat) (H H2:HL) (now n:UInt64) (z:List UInt8) (v:AVal):Bool:=mOb (meO 5 now n z) b H v H2
def sy12:List Nat:=[200024,40,93,95,116,120,128,200128,129,130,133,138,159,149,200149,150,151,153,100153,155,172,183,300172,300183,188]
def bI (x:Int):Int:=IntKind.wrap .i64 (BitVec.toNat ((BitVec.ofInt (IntKind.bits .i64) x) &&& (BitVec.ofInt (IntKind.bits .i64) 65535)):Int)
def rmO (x:Int) (len i:Nat):Bool:=eqS (.int .i64 (Int.tmod (bI x) (len:Int))) (.int .i64 (i:Int))
def inO (i len:Nat):Bool:=decide (0≤(i:Int)) && decide ((i:Int) < (len:Int))
def rowO (so:SL) (i:Nat) (m:UInt64) (z:List UInt8):Bool:=Nat.beq [AVal.u64 m,.str z].length 2 && isAtL (snC so) (0+((Int.toNat (i:Int)) * 2)) [.u64 m,.str z]
def turC (c1:List UInt8) (j:Nat) (g:UInt8):List AVal:=putA (c1.map .u8) (0+((Int.toNat (j:Int)) * 1)) [.u8 (g+1)]
section
variable (k:Bool) (x y zo sl:AVal) (so:SL) (L:List UInt64) (t t2:Tn) (c c2:Dc) (d wh n z:Int) (a g:UInt8) (s c1 c3 r:List UInt8) (now m:UInt64) (i j q:Nat) (mk2:List AVal)
theorem v00rp0:ansM [0,1,2,3,4,5] (run1O Try.prog psT csT sy12 [false,false,false,true,false,true] [.int .i64 (kI k),.tup [.str r,.int .i64 z],.tup [],.tup [.str r,.int .i64 z],.tup []] (mask 11) 200 11 [.ptr 0 0,.agg (stC d a s wh n now)] (hF k x y .nilSlice sl .nilSlice t c++[]) 16)=some (.bool (z == z),oF k x y .nilSlice sl .nilSlice t c++[],[r == r,oOd 600 (hX k x y .nilSlice sl .nilSlice [] [] t c (stC d a s wh n now) [.u64 (UInt64.ofInt n),.str s]) (hX k x y .nilSlice sl .nilSlice [] [] t c (stC d a s wh n now) [.u64 (UInt64.ofInt n),.str s]) now (UInt64.ofInt n) s (.tup [.str r,.int .i64 z]),Ae.slR s,oOp 496 (hX k x y .nilSlice sl .nilSlice [] [] t c (stC d a s wh n now) [.u64 (UInt64.ofInt n),.str s]) (hX k x y .nilSlice sl .nilSlice [] [] t c (stC d a s wh n now) [.u64 (UInt64.ofInt n),.str s]) now (UInt64.ofInt n) s (.tup [.str r,.int .i64 z]),Ae.slR s,true,decide (d < 6),!(d == 5),!(d == 4),!(d == 0),atO a k]):=by cases k <;> kernel_rfl
theorem v00rq0:ansM [0,1,2,3,4,5] (run1O Try.prog psT csT sy12 [false,false,false,false,true] [.int .i64 (kI k),.tup [.str r,.int .i64 z],.tup [],.tup [.str r,.int .i64 z],.tup []] (mask 11) 200 11 [.ptr 0 0,.agg (stC d a s wh n now)] (hF k x y .nilSlice sl .nilSlice t c++[]) 16)=some (.bool (z == z),oF k x y .nilSlice sl .nilSlice t c++[],[r == r,oOd 600 (hX k x y .nilSlice sl .nilSlice [] [] t c (stC d a s wh n now) [.u64 (UInt64.ofInt n),.str s]) (hX k x y .nilSlice sl .nilSlice [] [] t c (stC d a s wh n now) [.u64 (UInt64.ofInt n),.str s]) now (UInt64.ofInt n) s (.tup [.str r,.int .i64 z]),Ae.slR s,oOp 496 (hX k x y .nilSlice sl .nilSlice [] [] t c (stC d a s wh n now) [.u64 (UInt64.ofInt n),.str s]) (hX k x y .nilSlice sl .nilSlice [] [] t c (stC d a s wh n now) [.u64 (UInt64.ofInt n),.str s]) now (UInt64.ofInt n) s (.tup [.str r,.int .i64 z]),Ae.slR s,!decide (d < 6),!(d == 5),!(d == 4),!(d == 0),atO a k]):=by cases k <;> kernel_rfl
theorem v00rp1:ansM [0,1,2,3,4,5,600] (run1O Try.prog psT csT sy12 [false,false,false,true,false,true] [.int .i64 (kI k),.tup [.str r,.int .i64 z],bk4 t2,.tup [.str r,.int .i64 z],.tup [.ptr 5 0,.agg (cD (.slice 600 0 q 1) c2),.ptr 600 0,.agg mk2]] (mask 11) 200 11 [.ptr 0 0,.agg (stC d a s wh n now)] (hF k x y .nilSlice sl .nilSlice t c++[]) 16)=some (.bool (z == z),oF k x y .nilSlice sl (.slice 600 0 q 1) t2 c2++[some (.cells false mk2)],[r == r,oOd 600 (hX k x y .nilSlice sl .nilSlice [] [] t2 c (stC d a s wh n now) [.u64 (UInt64.ofInt n),.str s]) (hF k x y .nilSlice sl (.slice 600 0 q 1) t2 c2++([]++((16,.cells false (stC d a s wh n now))::(296,.cells false [.u64 (UInt64.ofInt n),.str s])::([]++[(600,.cells false mk2)])))) now (UInt64.ofInt n) s (.tup [.str r,.int .i64 z]),Ae.slR s,oOp 496 (hX k x y .nilSlice sl .nilSlice [] [] t c (stC d a s wh n now) [.u64 (UInt64.ofInt n),.str s]) (hX k x y .nilSlice sl .nilSlice [] [] t2 c (stC d a s wh n now) [.u64 (UInt64.ofInt n),.str s]) now (UInt64.ofInt n) s (.tup [.str r,.int .i64 z]),Ae.slR s,true,decide (d < 6),!(d == 5),!(d == 4),!(d == 0),atO a k]):=by cases k <;> kernel_rfl
theorem v00rq1:ansM [0,1,2,3,4,5,600] (run1O Try.prog psT csT sy12 [false,false,false,false,true] [.int .i64 (kI k),.tup [.str r,.int .i64 z],bk4 t2,.tup [.str r,.int .i64 z],.tup [.ptr 5 0,.agg (cD (.slice 600 0 q 1) c2),.ptr 600 0,.agg mk2]] (mask 11) 200 11 [.ptr 0 0,.agg (stC d a s wh n now)] (hF k x y .nilSlice sl .nilSlice t c++[]) 16)=some (.bool (z == z),oF k x y .nilSlice sl (.slice 600 0 q 1) t2 c2++[some (.cells false mk2)],[r == r,oOd 600 (hX k x y .nilSlice sl .nilSlice [] [] t2 c (stC d a s wh n now) [.u64 (UInt64.ofInt n),.str s]) (hF k x y .nilSlice sl (.slice 600 0 q 1) t2 c2++([]++((16,.cells false (stC d a s wh n now))::(296,.cells false [.u64 (UInt64.ofInt n),.str s])::([]++[(600,.cells false mk2)])))) now (UInt64.ofInt n) s (.tup [.str r,.int .i64 z]),Ae.slR s,oOp 496 (hX k x y .nilSlice sl .nilSlice [] [] t c (stC d a s wh n now) [.u64 (UInt64.ofInt n),.str s]) (hX k x y .nilSlice sl .nilSlice [] [] t2 c (stC d a s wh n now) [.u64 (UInt64.ofInt n),.str s]) now (UInt64.ofInt n) s (.tup [.str r,.int .i64 z]),Ae.slR s,!decide (d < 6),!(d == 5),!(d == 4),!(d == 0),atO a k]):=by cases k <;> kernel_rfl
theorem v01rq0:ansM [0,1,2,3,4,5,8] (run1O Try.prog psT csT sy12 [false,false,false,false,true] [.int .i64 (kI k),.tup [.str r,.int .i64 z],.tup [],.tup [.str r,.int .i64 z],.tup []] (mask 11) 200 11 [.ptr 0 0,.agg (stC d a s wh n now)] (hF k x y (.slice 8 0 so.length 2) sl .nilSlice t c++[(8,.cells false (snC so))]) 16)=some (.bool (z == z),oF k x y (.slice 8 0 so.length 2) sl .nilSlice t c++[some (.cells false (snC so))],[r == r,oOd 600 (hX k x y (.slice 8 0 so.length 2) sl .nilSlice [(8,.cells false (snC so))] [] t c (stC d a s wh n now) [.u64 (UInt64.ofInt n),.str s]) (hX k x y (.slice 8 0 so.length 2) sl .nilSlice [(8,.cells false (snC so))] [] t c (stC d a s wh n now) [.u64 (UInt64.ofInt n),.str s]) now (UInt64.ofInt n) s (.tup [.str r,.int .i64 z]),Ae.slR s,oOp 496 (hX k x y (.slice 8 0 so.length 2) sl .nilSlice [(8,.cells false (snC so))] [] t c (stC d a s wh n now) [.u64 (UInt64.ofInt n),.str s]) (hX k x y (.slice 8 0 so.length 2) sl .nilSlice [(8,.cells false (snC so))] [] t c (stC d a s wh n now) [.u64 (UInt64.ofInt n),.str s]) now (UInt64.ofInt n) s (.tup [.str r,.int .i64 z]),Ae.slR s,!decide (d < 6),!(d == 5),!(d == 4),!(d == 0),atO a k]):=by cases k <;> kernel_rfl
theorem v01rq1:ansM [0,1,2,3,4,5,8,600] (run1O Try.prog psT csT sy12 [false,false,false,false,true] [.int .i64 (kI k),.tup [.str r,.int .i64 z],bk4 t2,.tup [.str r,.int .i64 z],.tup [.ptr 5 0,.agg (cD (.slice 600 0 q 1) c2),.ptr 600 0,.agg mk2]] (mask 11) 200 11 [.ptr 0 0,.agg (stC d a s wh n now)] (hF k x y (.slice 8 0 so.length 2) sl .nilSlice t c++[(8,.cells false (snC so))]) 16)=some (.bool (z == z),oF k x y (.slice 8 0 so.length 2) sl (.slice 600 0 q 1) t2 c2++[some (.cells false (snC so)),some (.cells false mk2)],[r == r,oOd 600 (hX k x y (.slice 8 0 so.length 2) sl .nilSlice [(8,.cells false (snC so))] [] t2 c (stC d a s wh n now) [.u64 (UInt64.ofInt n),.str s]) (hF k x y (.slice 8 0 so.length 2) sl (.slice 600 0 q 1) t2 c2++([(8,.cells false (snC so))]++((16,.cells false (stC d a s wh n now))::(296,.cells false [.u64 (UInt64.ofInt n),.str s])::([]++[(600,.cells false mk2)])))) now (UInt64.ofInt n) s (.tup [.str r,.int .i64 z]),Ae.slR s,oOp 496 (hX k x y (.slice 8 0 so.length 2) sl .nilSlice [(8,.cells false (snC so))] [] t c (stC d a s wh n now) [.u64 (UInt64.ofInt n),.str s]) (hX k x y (.slice 8 0 so.length 2) sl .nilSlice [(8,.cells false (snC so))] [] t2 c (stC d a s wh n now) [.u64 (UInt64.ofInt n),.str s]) now (UInt64.ofInt n) s (.tup [.str r,.int .i64 z]),Ae.slR s,!decide (d < 6),!(d == 5),!(d == 4),!(d == 0),atO a k]):=by cases k <;> kernel_rfl
theorem v0110:ansM [0,1,2,3,4,5,8] (run1O Try.prog psT csT sy12 [false,false,false,true,true,false,false,true] [.int .i64 (kI k),.int .i64 (i:Int),.agg [.u64 m,.str c1],.tup [.str r,.int .i64 z],.tup [],.tup [.str r,.int .i64 z],.tup []] (mask 11) 200 11 [.ptr 0 0,.agg (stC d a s wh n now)] (hF k x y (.slice 8 0 so.length 2) sl .nilSlice t c++[(8,.cells false (snC so))]) 16)=some (.bool (z == z),oF k x y (.slice 8 0 so.length 2) sl .nilSlice t c++[some (.cells false (snC so))],[r == r,oOd 776 (hX k x y (.slice 8 0 so.length 2) sl .nilSlice [(8,.cells false (snC so))] [] t c (stC d a s wh n now) [.u64 m,.str c1]) (hX k x y (.slice 8 0 so.length 2) sl .nilSlice [(8,.cells false (snC so))] [] t c (stC d a s wh n now) [.u64 m,.str c1]) now m c1 (.tup [.str r,.int .i64 z]),Ae.slR c1,oOp 672 (hX k x y (.slice 8 0 so.length 2) sl .nilSlice [(8,.cells false (snC so))] [] t c (stC d a s wh n now) [.u64 m,.str c1]) (hX k x y (.slice 8 0 so.length 2) sl .nilSlice [(8,.cells false (snC so))] [] t c (stC d a s wh n now) [.u64 m,.str c1]) now m c1 (.tup [.str r,.int .i64 z]),Ae.slR c1,!(d == 3),!(d == 2),rowO so i m c1,inO i so.length,rmO wh so.length i,!((so.length:Int) == 0),decide (0 < (so.length:Int)),decide (d < 6),!(d == 5),!(d == 4),!(d == 0),atO a k]):=by cases k <;> kernel_rfl
theorem v0111:ansM [0,1,2,3,4,5,8,776] (run1O Try.prog psT csT sy12 [false,false,false,true,true,false,false,true] [.int .i64 (kI k),.int .i64 (i:Int),.agg [.u64 m,.str c1],.tup [.str r,.int .i64 z],bk4 t2,.tup [.str r,.int .i64 z],.tup [.ptr 5 0,.agg (cD (.slice 776 0 q 1) c2),.ptr 776 0,.agg mk2]] (mask 11) 200 11 [.ptr 0 0,.agg (stC d a s wh n now)] (hF k x y (.slice 8 0 so.length 2) sl .nilSlice t c++[(8,.cells false (snC so))]) 16)=some (.bool (z == z),oF k x y (.slice 8 0 so.length 2) sl (.slice 776 0 q 1) t2 c2++[some (.cells false (snC so)),some (.cells false mk2)],[r == r,oOd 776 (hX k x y (.slice 8 0 so.length 2) sl .nilSlice [(8,.cells false (snC so))] [] t2 c (stC d a s wh n now) [.u64 m,.str c1]) (hF k x y (.slice 8 0 so.length 2) sl (.slice 776 0 q 1) t2 c2++([(8,.cells false (snC so))]++((16,.cells false (stC d a s wh n now))::(296,.cells false [.u64 m,.str c1])::([]++[(776,.cells false mk2)])))) now m c1 (.tup [.str r,.int .i64 z]),Ae.slR c1,oOp 672 (hX k x y (.slice 8 0 so.length 2) sl .nilSlice [(8,.cells false (snC so))] [] t c (stC d a s wh n now) [.u64 m,.str c1]) (hX k x y (.slice 8 0 so.length 2) sl .nilSlice [(8,.cells false (snC so))] [] t2 c (stC d a s wh n now) [.u64 m,.str c1]) now m c1 (.tup [.str r,.int .i64 z]),Ae.slR c1,!(d == 3),!(d == 2),rowO so i m c1,inO i so.length,rmO wh so.length i,!((so.length:Int) == 0),decide (0 < (so.length:Int)),decide (d < 6),!(d == 5),!(d == 4),!(d == 0),atO a k]):=by cases k <;> kernel_rfl
theorem v0130:ansM [0,1,2,3,4,5,8] (run1O Try.prog psT csT sy12 [false,false,false,true,true,false,true,true] [.int .i64 (kI k),.int .i64 (i:Int),.agg [.u64 m,.str c1],.tup [.str r,.int .i64 z],.tup [],.tup [.str r,.int .i64 z],.tup []] (mask 11) 200 11 [.ptr 0 0,.agg (stC d a s wh n now)] (hF k x y (.slice 8 0 so.length 2) sl .nilSlice t c++[(8,.cells false (snC so))]) 16)=some (.bool (z == z),oF k x y (.slice 8 0 so.length 2) sl .nilSlice t c++[some (.cells false (snC so))],[r == r,oOd 816 (hX k x y (.slice 8 0 so.length 2) sl .nilSlice [(8,.cells false (snC so))] [] t c (stC d a s wh n now) [.u64 (UInt64.ofInt n),.str c1]) (hX k x y (.slice 8 0 so.length 2) sl .nilSlice [(8,.cells false (snC so))] [] t c (stC d a s wh n now) [.u64 (UInt64.ofInt n),.str c1]) now (UInt64.ofInt n) c1 (.tup [.str r,.int .i64 z]),Ae.slR c1,oOp 712 (hX k x y (.slice 8 0 so.length 2) sl .nilSlice [(8,.cells false (snC so))] [] t c (stC d a s wh n now) [.u64 (UInt64.ofInt n),.str c1]) (hX k x y (.slice 8 0 so.length 2) sl .nilSlice [(8,.cells false (snC so))] [] t c (stC d a s wh n now) [.u64 (UInt64.ofInt n),.str c1]) now (UInt64.ofInt n) c1 (.tup [.str r,.int .i64 z]),Ae.slR c1,d == 3,!(d == 2),rowO so i m c1,inO i so.length,rmO wh so.length i,!((so.length:Int) == 0),decide (0 < (so.length:Int)),decide (d < 6),!(d == 5),!(d == 4),!(d == 0),atO a k]):=by cases k <;> kernel_rfl
theorem v0131:ansM [0,1,2,3,4,5,8,816] (run1O Try.prog psT csT sy12 [false,false,false,true,true,false,true,true] [.int .i64 (kI k),.int .i64 (i:Int),.agg [.u64 m,.str c1],.tup [.str r,.int .i64 z],bk4 t2,.tup [.str r,.int .i64 z],.tup [.ptr 5 0,.agg (cD (.slice 816 0 q 1) c2),.ptr 816 0,.agg mk2]] (mask 11) 200 11 [.ptr 0 0,.agg (stC d a s wh n now)] (hF k x y (.slice 8 0 so.length 2) sl .nilSlice t c++[(8,.cells false (snC so))]) 16)=some (.bool (z == z),oF k x y (.slice 8 0 so.length 2) sl (.slice 816 0 q 1) t2 c2++[some (.cells false (snC so)),some (.cells false mk2)],[r == r,oOd 816 (hX k x y (.slice 8 0 so.length 2) sl .nilSlice [(8,.cells false (snC so))] [] t2 c (stC d a s wh n now) [.u64 (UInt64.ofInt n),.str c1]) (hF k x y (.slice 8 0 so.length 2) sl (.slice 816 0 q 1) t2 c2++([(8,.cells false (snC so))]++((16,.cells false (stC d a s wh n now))::(296,.cells false [.u64 (UInt64.ofInt n),.str c1])::([]++[(816,.cells false mk2)])))) now (UInt64.ofInt n) c1 (.tup [.str r,.int .i64 z]),Ae.slR c1,oOp 712 (hX k x y (.slice 8 0 so.length 2) sl .nilSlice [(8,.cells false (snC so))] [] t c (stC d a s wh n now) [.u64 (UInt64.ofInt n),.str c1]) (hX k x y (.slice 8 0 so.length 2) sl .nilSlice [(8,.cells false (snC so))] [] t2 c (stC d a s wh n now) [.u64 (UInt64.ofInt n),.str c1]) now (UInt64.ofInt n) c1 (.tup [.str r,.int .i64 z]),Ae.slR c1,d == 3,!(d == 2),rowO so i m c1,inO i so.length,rmO wh so.length i,!((so.length:Int) == 0),decide (0 < (so.length:Int)),decide (d < 6),!(d == 5),!(d == 4),!(d == 0),atO a k]):=by cases k <;> kernel_rfl
theorem v01e0:ansM [0,1,2,3,4,5,8] (run1O Try.prog psT csT sy12 [false,false,false,true,true,true,false,false,true] [.int .i64 (kI k),.int .i64 (i:Int),.agg [.u64 m,.str c1],.tup [.str r,.int .i64 z],.tup [],.tup [.str r,.int .i64 z],.tup []] (mask 11) 200 11 [.ptr 0 0,.agg (stC d a s wh n now)] (hF k x y (.slice 8 0 so.length 2) sl .nilSlice t c++[(8,.cells false (snC so))]) 16)=some (.bool (z == z),oF k x y (.slice 8 0 so.length 2) sl .nilSlice t c++[some (.cells false (snC so))],[r == r,oOd 776 (hX k x y (.slice 8 0 so.length 2) sl .nilSlice [(8,.cells false (snC so))] [] t c (stC d a s wh n now) [.u64 m,.str c1]) (hX k x y (.slice 8 0 so.length 2) sl .nilSlice [(8,.cells false (snC so))] [] t c (stC d a s wh n now) [.u64 m,.str c1]) now m c1 (.tup [.str r,.int .i64 z]),Ae.slR c1,oOp 672 (hX k x y (.slice 8 0 so.length 2) sl .nilSlice [(8,.cells false (snC so))] [] t c (stC d a s wh n now) [.u64 m,.str c1]) (hX k x y (.slice 8 0 so.length 2) sl .nilSlice [(8,.cells false (snC so))] [] t c (stC d a s wh n now) [.u64 m,.str c1]) now m c1 (.tup [.str r,.int .i64 z]),Ae.slR c1,!(d == 3),!decide (0 < (c1.length:Int)),d == 2,rowO so i m c1,inO i so.length,rmO wh so.length i,!((so.length:Int) == 0),decide (0 < (so.length:Int)),decide (d < 6),!(d == 5),!(d == 4),!(d == 0),atO a k]):=by cases k <;> kernel_rfl
theorem v01e1:ansM [0,1,2,3,4,5,8,776] (run1O Try.prog psT csT sy12 [false,false,false,true,true,true,false,false,true] [.int .i64 (kI k),.int .i64 (i:Int),.agg [.u64 m,.str c1],.tup [.str r,.int .i64 z],bk4 t2,.tup [.str r,.int .i64 z],.tup [.ptr 5 0,.agg (cD (.slice 776 0 q 1) c2),.ptr 776 0,.agg mk2]] (mask 11) 200 11 [.ptr 0 0,.agg (stC d a s wh n now)] (hF k x y (.slice 8 0 so.length 2) sl .nilSlice t c++[(8,.cells false (snC so))]) 16)=some (.bool (z == z),oF k x y (.slice 8 0 so.length 2) sl (.slice 776 0 q 1) t2 c2++[some (.cells false (snC so)),some (.cells false mk2)],[r == r,oOd 776 (hX k x y (.slice 8 0 so.length 2) sl .nilSlice [(8,.cells false (snC so))] [] t2 c (stC d a s wh n now) [.u64 m,.str c1]) (hF k x y (.slice 8 0 so.length 2) sl (.slice 776 0 q 1) t2 c2++([(8,.cells false (snC so))]++((16,.cells false (stC d a s wh n now))::(296,.cells false [.u64 m,.str c1])::([]++[(776,.cells false mk2)])))) now m c1 (.tup [.str r,.int .i64 z]),Ae.slR c1,oOp 672 (hX k x y (.slice 8 0 so.length 2) sl .nilSlice [(8,.cells false (snC so))] [] t c (stC d a s wh n now) [.u64 m,.str c1]) (hX k x y (.slice 8 0 so.length 2) sl .nilSlice [(8,.cells false (snC so))] [] t2 c (stC d a s wh n now) [.u64 m,.str c1]) now m c1 (.tup [.str r,.int .i64 z]),Ae.slR c1,!(d == 3),!decide (0 < (c1.length:Int)),d == 2,rowO so i m c1,inO i so.length,rmO wh so.length i,!((so.length:Int) == 0),decide (0 < (so.length:Int)),decide (d < 6),!(d == 5),!(d == 4),!(d == 0),atO a k]):=by cases k <;> kernel_rfl
theorem v01t0:ansM [0,1,2,3,4,5,8] (run1O Try.prog psT csT sy12 [false,false,false,true,true,true,true,false,true] [.int .i64 (kI k),.int .i64 (i:Int),.agg [.u64 m,.str c1],.int .i64 (j:Int),.u8 g,.str c3,.tup [.str r,.int .i64 z],.tup [],.tup [.str r,.int .i64 z],.tup []] (mask 11) 200 11 [.ptr 0 0,.agg (stC d a s wh n now)] (hF k x y (.slice 8 0 so.length 2) sl .nilSlice t c++[(8,.cells false (snC so))]) 16)=some (.bool (z == z),oF k x y (.slice 8 0 so.length 2) sl .nilSlice t c++[some (.cells false (snC so))],[r == r,oOd 936 (hX k x y (.slice 8 0 so.length 2) sl .nilSlice [(8,.cells false (snC so))] [(608,.cells false (turC c1 j g))] t c (stC d a s wh n now) [.u64 m,.str c3]) (hX k x y (.slice 8 0 so.length 2) sl .nilSlice [(8,.cells false (snC so))] [(608,.cells false (turC c1 j g))] t c (stC d a s wh n now) [.u64 m,.str c3]) now m c3 (.tup [.str r,.int .i64 z]),Ae.slR c3,oOp 832 (hX k x y (.slice 8 0 so.length 2) sl .nilSlice [(8,.cells false (snC so))] [(608,.cells false (turC c1 j g))] t c (stC d a s wh n now) [.u64 m,.str c3]) (hX k x y (.slice 8 0 so.length 2) sl .nilSlice [(8,.cells false (snC so))] [(608,.cells false (turC c1 j g))] t c (stC d a s wh n now) [.u64 m,.str c3]) now m c3 (.tup [.str r,.int .i64 z]),Ae.slR c3,!(d == 3),strAt (turC c1 j g) 0 c1.length c3,Nat.ble ((0+((Int.toNat (j:Int)) * 1))+[AVal.u8 (g+1)].length) (c1.map AVal.u8).length,inO j c1.length,isAt (c1.map .u8) (0+((Int.toNat (j:Int)) * 1)) (.u8 g),inO j c1.length,rmO n c1.length j,!((c1.length:Int) == 0),decide (0 < (c1.length:Int)),d == 2,rowO so i m c1,inO i so.length,rmO wh so.length i,!((so.length:Int) == 0),decide (0 < (so.length:Int)),decide (d < 6),!(d == 5),!(d == 4),!(d == 0),atO a k]):=by cases k <;> kernel_rfl
theorem v01t1:ansM [0,1,2,3,4,5,8,936] (run1O Try.prog psT csT sy12 [false,false,false,true,true,true,true,false,true] [.int .i64 (kI k),.int .i64 (i:Int),.agg [.u64 m,.str c1],.int .i64 (j:Int),.u8 g,.str c3,.tup [.str r,.int .i64 z],bk4 t2,.tup [.str r,.int .i64 z],.tup [.ptr 5 0,.agg (cD (.slice 936 0 q 1) c2),.ptr 936 0,.agg mk2]] (mask 11) 200 11 [.ptr 0 0,.agg (stC d a s wh n now)] (hF k x y (.slice 8 0 so.length 2) sl .nilSlice t c++[(8,.cells false (snC so))]) 16)=some (.bool (z == z),oF k x y (.slice 8 0 so.length 2) sl (.slice 936 0 q 1) t2 c2++[some (.cells false (snC so)),some (.cells false mk2)],[r == r,oOd 936 (hX k x y (.slice 8 0 so.length 2) sl .nilSlice [(8,.cells false (snC so))] [(608,.cells false (turC c1 j g))] t2 c (stC d a s wh n now) [.u64 m,.str c3]) (hF k x y (.slice 8 0 so.length 2) sl (.slice 936 0 q 1) t2 c2++([(8,.cells false (snC so))]++((16,.cells false (stC d a s wh n now))::(296,.cells false [.u64 m,.str c3])::([(608,.cells false (turC c1 j g))]++[(936,.cells false mk2)])))) now m c3 (.tup [.str r,.int .i64 z]),Ae.slR c3,oOp 832 (hX k x y (.slice 8 0 so.length 2) sl .nilSlice [(8,.cells false (snC so))] [(608,.cells false (turC c1 j g))] t c (stC d a s wh n now) [.u64 m,.str c3]) (hX k x y (.slice 8 0 so.length 2) sl .nilSlice [(8,.cells false (snC so))] [(608,.cells false (turC c1 j g))] t2 c (stC d a s wh n now) [.u64 m,.str c3]) now m c3 (.tup [.str r,.int .i64 z]),Ae.slR c3,!(d == 3),strAt (turC c1 j g) 0 c1.length c3,Nat.ble ((0+((Int.toNat (j:Int)) * 1))+[AVal.u8 (g+1)].length) (c1.map AVal.u8).length,inO j c1.length,isAt (c1.map .u8) (0+((Int.toNat (j:Int)) * 1)) (.u8 g),inO j c1.length,rmO n c1.length j,!((c1.length:Int) == 0),decide (0 < (c1.length:Int)),d == 2,rowO so i m c1,inO i so.length,rmO wh so.length i,!((so.length:Int) == 0),decide (0 < (so.length:Int)),decide (d < 6),!(d == 5),!(d == 4),!(d == 0),atO a k]):=by cases k <;> kernel_rfl
theorem v10rp0:ansM [0,1,2,3,4,5,8] (run1O Try.prog psT csT sy12 [false,false,false,true,false,true] [.int .i64 (kI k),.tup [.str r,.int .i64 z],.tup [],.tup [.str r,.int .i64 z],.tup []] (mask 11) 200 11 [.ptr 0 0,.agg (stC d a s wh n now)] (hF k x y .nilSlice sl (.slice 8 0 L.length 1) t c++[(8,.cells false (L.map .u64))]) 16)=some (.bool (z == z),oF k x y .nilSlice sl (.slice 8 0 L.length 1) t c++[some (.cells false (L.map .u64))],[r == r,oOd 600 (hX k x y .nilSlice sl (.slice 8 0 L.length 1) [(8,.cells false (L.map .u64))] [] t c (stC d a s wh n now) [.u64 (UInt64.ofInt n),.str s]) (hX k x y .nilSlice sl (.slice 8 0 L.length 1) [(8,.cells false (L.map .u64))] [] t c (stC d a s wh n now) [.u64 (UInt64.ofInt n),.str s]) now (UInt64.ofInt n) s (.tup [.str r,.int .i64 z]),Ae.slR s,oOp 496 (hX k x y .nilSlice sl (.slice 8 0 L.length 1) [(8,.cells false (L.map .u64))] [] t c (stC d a s wh n now) [.u64 (UInt64.ofInt n),.str s]) (hX k x y .nilSlice sl (.slice 8 0 L.length 1) [(8,.cells false (L.map .u64))] [] t c (stC d a s wh n now) [.u64 (UInt64.ofInt n),.str s]) now (UInt64.ofInt n) s (.tup [.str r,.int .i64 z]),Ae.slR s,true,decide (d < 6),!(d == 5),!(d == 4),!(d == 0),atO a k]):=by cases k <;> kernel_rfl
theorem v10rq0:ansM [0,1,2,3,4,5,8] (run1O Try.prog psT csT sy12 [false,false,false,false,true] [.int .i64 (kI k),.tup [.str r,.int .i64 z],.tup [],.tup [.str r,.int .i64 z],.tup []] (mask 11) 200 11 [.ptr 0 0,.agg (stC d a s wh n now)] (hF k x y .nilSlice sl (.slice 8 0 L.length 1) t c++[(8,.cells false (L.map .u64))]) 16)=some (.bool (z == z),oF k x y .nilSlice sl (.slice 8 0 L.length 1) t c++[some (.cells false (L.map .u64))],[r == r,oOd 600 (hX k x y .nilSlice sl (.slice 8 0 L.length 1) [(8,.cells false (L.map .u64))] [] t c (stC d a s wh n now) [.u64 (UInt64.ofInt n),.str s]) (hX k x y .nilSlice sl (.slice 8 0 L.length 1) [(8,.cells false (L.map .u64))] [] t c (stC d a s wh n now) [.u64 (UInt64.ofInt n),.str s]) now (UInt64.ofInt n) s (.tup [.str r,.int .i64 z]),Ae.slR s,oOp 496 (hX k x y .nilSlice sl (.slice 8 0 L.length 1) [(8,.cells false (L.map .u64))] [] t c (stC d a s wh n now) [.u64 (UInt64.ofInt n),.str s]) (hX k x y .nilSlice sl (.slice 8 0 L.length 1) [(8,.cells false (L.map .u64))] [] t c (stC d a s wh n now) [.u64 (UInt64.ofInt n),.str s]) now (UInt64.ofInt n) s (.tup [.str r,.int .i64 z]),Ae.slR s,!decide (d < 6),!(d == 5),!(d == 4),!(d == 0),atO a k]):=by cases k <;> kernel_rfl
theorem v10rp1:ansM [0,1,2,3,4,5,600] (run1O Try.prog psT csT sy12 [false,false,false,true,false,true] [.int .i64 (kI k),.tup [.str r,.int .i64 z],bk4 t2,.tup [.str r,.int .i64 z],.tup [.ptr 5 0,.agg (cD (.slice 600 0 q 1) c2),.ptr 600 0,.agg mk2,.ptr 8 0,.nilMap]] (mask 11) 200 11 [.ptr 0 0,.agg (stC d a s wh n now)] (hF k x y .nilSlice sl (.slice 8 0 L.length 1) t c++[(8,.cells false (L.map .u64))]) 16)=some (.bool (z == z),oF k x y .nilSlice sl (.slice 600 0 q 1) t2 c2++[some (.cells false mk2)],[r == r,oOd 600 (hX k x y .nilSlice sl (.slice 8 0 L.length 1) [(8,.cells false (L.map .u64))] [] t2 c (stC d a s wh n now) [.u64 (UInt64.ofInt n),.str s]) (hF k x y .nilSlice sl (.slice 600 0 q 1) t2 c2++([]++((16,.cells false (stC d a s wh n now))::(296,.cells false [.u64 (UInt64.ofInt n),.str s])::([]++[(600,.cells false mk2)])))) now (UInt64.ofInt n) s (.tup [.str r,.int .i64 z]),Ae.slR s,oOp 496 (hX k x y .nilSlice sl (.slice 8 0 L.length 1) [(8,.cells false (L.map .u64))] [] t c (stC d a s wh n now) [.u64 (UInt64.ofInt n),.str s]) (hX k x y .nilSlice sl (.slice 8 0 L.length 1) [(8,.cells false (L.map .u64))] [] t2 c (stC d a s wh n now) [.u64 (UInt64.ofInt n),.str s]) now (UInt64.ofInt n) s (.tup [.str r,.int .i64 z]),Ae.slR s,true,decide (d < 6),!(d == 5),!(d == 4),!(d == 0),atO a k]):=by cases k <;> kernel_rfl
theorem v10rq1:ansM [0,1,2,3,4,5,600] (run1O Try.prog psT csT sy12 [false,false,false,false,true] [.int .i64 (kI k),.tup [.str r,.int .i64 z],bk4 t2,.tup [.str r,.int .i64 z],.tup [.ptr 5 0,.agg (cD (.slice 600 0 q 1) c2),.ptr 600 0,.agg mk2,.ptr 8 0,.nilMap]] (mask 11) 200 11 [.ptr 0 0,.agg (stC d a s wh n now)] (hF k x y .nilSlice sl (.slice 8 0 L.length 1) t c++[(8,.cells false (L.map .u64))]) 16)=some (.bool (z == z),oF k x y .nilSlice sl (.slice 600 0 q 1) t2 c2++[some (.cells false mk2)],[r == r,oOd 600 (hX k x y .nilSlice sl (.slice 8 0 L.length 1) [(8,.cells false (L.map .u64))] [] t2 c (stC d a s wh n now) [.u64 (UInt64.ofInt n),.str s]) (hF k x y .nilSlice sl (.slice 600 0 q 1) t2 c2++([]++((16,.cells false (stC d a s wh n now))::(296,.cells false [.u64 (UInt64.ofInt n),.str s])::([]++[(600,.cells false mk2)])))) now (UInt64.ofInt n) s (.tup [.str r,.int .i64 z]),Ae.slR s,oOp 496 (hX k x y .nilSlice sl (.slice 8 0 L.length 1) [(8,.cells false (L.map .u64))] [] t c (stC d a s wh n now) [.u64 (UInt64.ofInt n),.str s]) (hX k x y .nilSlice sl (.slice 8 0 L.length 1) [(8,.cells false (L.map .u64))] [] t2 c (stC d a s wh n now) [.u64 (UInt64.ofInt n),.str s]) now (UInt64.ofInt n) s (.tup [.str r,.int .i64 z]),Ae.slR s,!decide (d < 6),!(d == 5),!(d == 4),!(d == 0),atO a k]):=by cases k <;> kernel_rfl
theorem v11rq0:ansM [0,1,2,3,4,5,8,9] (run1O Try.prog psT csT sy12 [false,false,false,false,true] [.int .i64 (kI k),.tup [.str r,.int .i64 z],.tup [],.tup [.str r,.int .i64 z],.tup []] (mask 11) 200 11 [.ptr 0 0,.agg (stC d a s wh n now)] (hF k x y (.slice 9 0 so.length 2) sl (.slice 8 0 L.length 1) t c++[(8,.cells false (L.map .u64)),(9,.cells false (snC so))]) 16)=some (.bool (z == z),oF k x y (.slice 9 0 so.length 2) sl (.slice 8 0 L.length 1) t c++[some (.cells false (L.map .u64)),some (.cells false (snC so))],[r == r,oOd 600 (hX k x y (.slice 9 0 so.length 2) sl (.slice 8 0 L.length 1) [(8,.cells false (L.map .u64)),(9,.cells false (snC so))] [] t c (stC d a s wh n now) [.u64 (UInt64.ofInt n),.str s]) (hX k x y (.slice 9 0 so.length 2) sl (.slice 8 0 L.length 1) [(8,.cells false (L.map .u64)),(9,.cells false (snC so))] [] t c (stC d a s wh n now) [.u64 (UInt64.ofInt n),.str s]) now (UInt64.ofInt n) s (.tup [.str r,.int .i64 z]),Ae.slR s,oOp 496 (hX k x y (.slice 9 0 so.length 2) sl (.slice 8 0 L.length 1) [(8,.cells false (L.map .u64)),(9,.cells false (snC so))] [] t c (stC d a s wh n now) [.u64 (UInt64.ofInt n),.str s]) (hX k x y (.slice 9 0 so.length 2) sl (.slice 8 0 L.length 1) [(8,.cells false (L.map .u64)),(9,.cells false (snC so))] [] t c (stC d a s wh n now) [.u64 (UInt64.ofInt n),.str s]) now (UInt64.ofInt n) s (.tup [.str r,.int .i64 z]),Ae.slR s,!decide (d < 6),!(d == 5),!(d == 4),!(d == 0),atO a k]):=by cases k <;> kernel_rfl
theorem v11rq1:ansM [0,1,2,3,4,5,9,600] (run1O Try.prog psT csT sy12 [false,false,false,false,true] [.int .i64 (kI k),.tup [.str r,.int .i64 z],bk4 t2,.tup [.str r,.int .i64 z],.tup [.ptr 5 0,.agg (cD (.slice 600 0 q 1) c2),.ptr 600 0,.agg mk2,.ptr 8 0,.nilMap]] (mask 11) 200 11 [.ptr 0 0,.agg (stC d a s wh n now)] (hF k x y (.slice 9 0 so.length 2) sl (.slice 8 0 L.length 1) t c++[(8,.cells false (L.map .u64)),(9,.cells false (snC so))]) 16)=some (.bool (z == z),oF k x y (.slice 9 0 so.length 2) sl (.slice 600 0 q 1) t2 c2++[some (.cells false (snC so)),some (.cells false mk2)],[r == r,oOd 600 (hX k x y (.slice 9 0 so.length 2) sl (.slice 8 0 L.length 1) [(8,.cells false (L.map .u64)),(9,.cells false (snC so))] [] t2 c (stC d a s wh n now) [.u64 (UInt64.ofInt n),.str s]) (hF k x y (.slice 9 0 so.length 2) sl (.slice 600 0 q 1) t2 c2++([(9,.cells false (snC so))]++((16,.cells false (stC d a s wh n now))::(296,.cells false [.u64 (UInt64.ofInt n),.str s])::([]++[(600,.cells false mk2)])))) now (UInt64.ofInt n) s (.tup [.str r,.int .i64 z]),Ae.slR s,oOp 496 (hX k x y (.slice 9 0 so.length 2) sl (.slice 8 0 L.length 1) [(8,.cells false (L.map .u64)),(9,.cells false (snC so))] [] t c (stC d a s wh n now) [.u64 (UInt64.ofInt n),.str s]) (hX k x y (.slice 9 0 so.length 2) sl (.slice 8 0 L.length 1) [(8,.cells false (L.map .u64)),(9,.cells false (snC so))] [] t2 c (stC d a s wh n now) [.u64 (UInt64.ofInt n),.str s]) now (UInt64.ofInt n) s (.tup [.str r,.int .i64 z]),Ae.slR s,!decide (d < 6),!(d == 5),!(d == 4),!(d == 0),atO a k]):=by cases k <;> kernel_rfl
theorem v1110:ansM [0,1,2,3,4,5,8,9] (run1O Try.prog psT csT sy12 [false,false,false,true,true,false,false,true] [.int .i64 (kI k),.int .i64 (i:Int),.agg [.u64 m,.str c1],.tup [.str r,.int .i64 z],.tup [],.tup [.str r,.int .i64 z],.tup []] (mask 11) 200 11 [.ptr 0 0,.agg (stC d a s wh n now)] (hF k x y (.slice 9 0 so.length 2) sl (.slice 8 0 L.length 1) t c++[(8,.cells false (L.map .u64)),(9,.cells false (snC so))]) 16)=some (.bool (z == z),oF k x y (.slice 9 0 so.length 2) sl (.slice 8 0 L.length 1) t c++[some (.cells false (L.map .u64)),some (.cells false (snC so))],[r == r,oOd 776 (hX k x y (.slice 9 0 so.length 2) sl (.slice 8 0 L.length 1) [(8,.cells false (L.map .u64)),(9,.cells false (snC so))] [] t c (stC d a s wh n now) [.u64 m,.str c1]) (hX k x y (.slice 9 0 so.length 2) sl (.slice 8 0 L.length 1) [(8,.cells false (L.map .u64)),(9,.cells false (snC so))] [] t c (stC d a s wh n now) [.u64 m,.str c1]) now m c1 (.tup [.str r,.int .i64 z]),Ae.slR c1,oOp 672 (hX k x y (.slice 9 0 so.length 2) sl (.slice 8 0 L.length 1) [(8,.cells false (L.map .u64)),(9,.cells false (snC so))] [] t c (stC d a s wh n now) [.u64 m,.str c1]) (hX k x y (.slice 9 0 so.length 2) sl (.slice 8 0 L.length 1) [(8,.cells false (L.map .u64)),(9,.cells false (snC so))] [] t c (stC d a s wh n now) [.u64 m,.str c1]) now m c1 (.tup [.str r,.int .i64 z]),Ae.slR c1,!(d == 3),!(d == 2),rowO so i m c1,inO i so.length,rmO wh so.length i,!((so.length:Int) == 0),decide (0 < (so.length:Int)),decide (d < 6),!(d == 5),!(d == 4),!(d == 0),atO a k]):=by cases k <;> kernel_rfl
theorem v1111:ansM [0,1,2,3,4,5,9,776] (run1O Try.prog psT csT sy12 [false,false,false,true,true,false,false,true] [.int .i64 (kI k),.int .i64 (i:Int),.agg [.u64 m,.str c1],.tup [.str r,.int .i64 z],bk4 t2,.tup [.str r,.int .i64 z],.tup [.ptr 5 0,.agg (cD (.slice 776 0 q 1) c2),.ptr 776 0,.agg mk2,.ptr 8 0,.nilMap]] (mask 11) 200 11 [.ptr 0 0,.agg (stC d a s wh n now)] (hF k x y (.slice 9 0 so.length 2) sl (.slice 8 0 L.length 1) t c++[(8,.cells false (L.map .u64)),(9,.cells false (snC so))]) 16)=some (.bool (z == z),oF k x y (.slice 9 0 so.length 2) sl (.slice 776 0 q 1) t2 c2++[some (.cells false (snC so)),some (.cells false mk2)],[r == r,oOd 776 (hX k x y (.slice 9 0 so.length 2) sl (.slice 8 0 L.length 1) [(8,.cells false (L.map .u64)),(9,.cells false (snC so))] [] t2 c (stC d a s wh n now) [.u64 m,.str c1]) (hF k x y (.slice 9 0 so.length 2) sl (.slice 776 0 q 1) t2 c2++([(9,.cells false (snC so))]++((16,.cells false (stC d a s wh n now))::(296,.cells false [.u64 m,.str c1])::([]++[(776,.cells false mk2)])))) now m c1 (.tup [.str r,.int .i64 z]),Ae.slR c1,oOp 672 (hX k x y (.slice 9 0 so.length 2) sl (.slice 8 0 L.length 1) [(8,.cells false (L.map .u64)),(9,.cells false (snC so))] [] t c (stC d a s wh n now) [.u64 m,.str c1]) (hX k x y (.slice 9 0 so.length 2) sl (.slice 8 0 L.length 1) [(8,.cells false (L.map .u64)),(9,.cells false (snC so))] [] t2 c (stC d a s wh n now) [.u64 m,.str c1]) now m c1 (.tup [.str r,.int .i64 z]),Ae.slR c1,!(d == 3),!(d == 2),rowO so i m c1,inO i so.length,rmO wh so.length i,!((so.length:Int) == 0),decide (0 < (so.length:Int)),decide (d < 6),!(d == 5),!(d == 4),!(d == 0),atO a k]):=by cases k <;> kernel_rfl
theorem v1130:ansM [0,1,2,3,4,5,8,9] (run1O Try.prog psT csT sy12 [false,false,false,true,true,false,true,true] [.int .i64 (kI k),.int .i64 (i:Int),.agg [.u64 m,.str c1],.tup [.str r,.int .i64 z],.tup [],.tup [.str r,.int .i64 z],.tup []] (mask 11) 200 11 [.ptr 0 0,.agg (stC d a s wh n now)] (hF k x y (.slice 9 0 so.length 2) sl (.slice 8 0 L.length 1) t c++[(8,.cells false (L.map .u64)),(9,.cells false (snC so))]) 16)=some (.bool (z == z),oF k x y (.slice 9 0 so.length 2) sl (.slice 8 0 L.length 1) t c++[some (.cells false (L.map .u64)),some (.cells false (snC so))],[r == r,oOd 816 (hX k x y (.slice 9 0 so.length 2) sl (.slice 8 0 L.length 1) [(8,.cells false (L.map .u64)),(9,.cells false (snC so))] [] t c (stC d a s wh n now) [.u64 (UInt64.ofInt n),.str c1]) (hX k x y (.slice 9 0 so.length 2) sl (.slice 8 0 L.length 1) [(8,.cells false (L.map .u64)),(9,.cells false (snC so))] [] t c (stC d a s wh n now) [.u64 (UInt64.ofInt n),.str c1]) now (UInt64.ofInt n) c1 (.tup [.str r,.int .i64 z]),Ae.slR c1,oOp 712 (hX k x y (.slice 9 0 so.length 2) sl (.slice 8 0 L.length 1) [(8,.cells false (L.map .u64)),(9,.cells false (snC so))] [] t c (stC d a s wh n now) [.u64 (UInt64.ofInt n),.str c1]) (hX k x y (.slice 9 0 so.length 2) sl (.slice 8 0 L.length 1) [(8,.cells false (L.map .u64)),(9,.cells false (snC so))] [] t c (stC d a s wh n now) [.u64 (UInt64.ofInt n),.str c1]) now (UInt64.ofInt n) c1 (.tup [.str r,.int .i64 z]),Ae.slR c1,d == 3,!(d == 2),rowO so i m c1,inO i so.length,rmO wh so.length i,!((so.length:Int) == 0),decide (0 < (so.length:Int)),decide (d < 6),!(d == 5),!(d == 4),!(d == 0),atO a k]):=by cases k <;> kernel_rfl
theorem v1131:ansM [0,1,2,3,4,5,9,816] (run1O Try.prog psT csT sy12 [false,false,false,true,true,false,true,true] [.int .i64 (kI k),.int .i64 (i:Int),.agg [.u64 m,.str c1],.tup [.str r,.int .i64 z],bk4 t2,.tup [.str r,.int .i64 z],.tup [.ptr 5 0,.agg (cD (.slice 816 0 q 1) c2),.ptr 816 0,.agg mk2,.ptr 8 0,.nilMap]] (mask 11) 200 11 [.ptr 0 0,.agg (stC d a s wh n now)] (hF k x y (.slice 9 0 so.length 2) sl (.slice 8 0 L.length 1) t c++[(8,.cells false (L.map .u64)),(9,.cells false (snC so))]) 16)=some (.bool (z == z),oF k x y (.slice 9 0 so.length 2) sl (.slice 816 0 q 1) t2 c2++[some (.cells false (snC so)),some (.cells false mk2)],[r == r,oOd 816 (hX k x y (.slice 9 0 so.length 2) sl (.slice 8 0 L.length 1) [(8,.cells false (L.map .u64)),(9,.cells false (snC so))] [] t2 c (stC d a s wh n now) [.u64 (UInt64.ofInt n),.str c1]) (hF k x y (.slice 9 0 so.length 2) sl (.slice 816 0 q 1) t2 c2++([(9,.cells false (snC so))]++((16,.cells false (stC d a s wh n now))::(296,.cells false [.u64 (UInt64.ofInt n),.str c1])::([]++[(816,.cells false mk2)])))) now (UInt64.ofInt n) c1 (.tup [.str r,.int .i64 z]),Ae.slR c1,oOp 712 (hX k x y (.slice 9 0 so.length 2) sl (.slice 8 0 L.length 1) [(8,.cells false (L.map .u64)),(9,.cells false (snC so))] [] t c (stC d a s wh n now) [.u64 (UInt64.ofInt n),.str c1]) (hX k x y (.slice 9 0 so.length 2) sl (.slice 8 0 L.length 1) [(8,.cells false (L.map .u64)),(9,.cells false (snC so))] [] t2 c (stC d a s wh n now) [.u64 (UInt64.ofInt n),.str c1]) now (UInt64.ofInt n) c1 (.tup [.str r,.int .i64 z]),Ae.slR c1,d == 3,!(d == 2),rowO so i m c1,inO i so.length,rmO wh so.length i,!((so.length:Int) == 0),decide (0 < (so.length:Int)),decide (d < 6),!(d == 5),!(d == 4),!(d == 0),atO a k]):=by cases k <;> kernel_rfl
theorem v11e0:ansM [0,1,2,3,4,5,8,9] (run1O Try.prog psT csT sy12 [false,false,false,true,true,true,false,false,true] [.int .i64 (kI k),.int .i64 (i:Int),.agg [.u64 m,.str c1],.tup [.str r,.int .i64 z],.tup [],.tup [.str r,.int .i64 z],.tup []] (mask 11) 200 11 [.ptr 0 0,.agg (stC d a s wh n now)] (hF k x y (.slice 9 0 so.length 2) sl (.slice 8 0 L.length 1) t c++[(8,.cells false (L.map .u64)),(9,.cells false (snC so))]) 16)=some (.bool (z == z),oF k x y (.slice 9 0 so.length 2) sl (.slice 8 0 L.length 1) t c++[some (.cells false (L.map .u64)),some (.cells false (snC so))],[r == r,oOd 776 (hX k x y (.slice 9 0 so.length 2) sl (.slice 8 0 L.length 1) [(8,.cells false (L.map .u64)),(9,.cells false (snC so))] [] t c (stC d a s wh n now) [.u64 m,.str c1]) (hX k x y (.slice 9 0 so.length 2) sl (.slice 8 0 L.length 1) [(8,.cells false (L.map .u64)),(9,.cells false (snC so))] [] t c (stC d a s wh n now) [.u64 m,.str c1]) now m c1 (.tup [.str r,.int .i64 z]),Ae.slR c1,oOp 672 (hX k x y (.slice 9 0 so.length 2) sl (.slice 8 0 L.length 1) [(8,.cells false (L.map .u64)),(9,.cells false (snC so))] [] t c (stC d a s wh n now) [.u64 m,.str c1]) (hX k x y (.slice 9 0 so.length 2) sl (.slice 8 0 L.length 1) [(8,.cells false (L.map .u64)),(9,.cells false (snC so))] [] t c (stC d a s wh n now) [.u64 m,.str c1]) now m c1 (.tup [.str r,.int .i64 z]),Ae.slR c1,!(d == 3),!decide (0 < (c1.length:Int)),d == 2,rowO so i m c1,inO i so.length,rmO wh so.length i,!((so.length:Int) == 0),decide (0 < (so.length:Int)),decide (d < 6),!(d == 5),!(d == 4),!(d == 0),atO a k]):=by cases k <;> kernel_rfl
theorem v11e1:ansM [0,1,2,3,4,5,9,776] (run1O Try.prog psT csT sy12 [false,false,false,true,true,true,false,false,true] [.int .i64 (kI k),.int .i64 (i:Int),.agg [.u64 m,.str c1],.tup [.str r,.int .i64 z],bk4 t2,.tup [.str r,.int .i64 z],.tup [.ptr 5 0,.agg (cD (.slice 776 0 q 1) c2),.ptr 776 0,.agg mk2,.ptr 8 0,.nilMap]] (mask 11) 200 11 [.ptr 0 0,.agg (stC d a s wh n now)] (hF k x y (.slice 9 0 so.length 2) sl (.slice 8 0 L.length 1) t c++[(8,.cells false (L.map .u64)),(9,.cells false (snC so))]) 16)=some (.bool (z == z),oF k x y (.slice 9 0 so.length 2) sl (.slice 776 0 q 1) t2 c2++[some (.cells false (snC so)),some (.cells false mk2)],[r == r,oOd 776 (hX k x y (.slice 9 0 so.length 2) sl (.slice 8 0 L.length 1) [(8,.cells false (L.map .u64)),(9,.cells false (snC so))] [] t2 c (stC d a s wh n now) [.u64 m,.str c1]) (hF k x y (.slice 9 0 so.length 2) sl (.slice 776 0 q 1) t2 c2++([(9,.cells false (snC so))]++((16,.cells false (stC d a s wh n now))::(296,.cells false [.u64 m,.str c1])::([]++[(776,.cells false mk2)])))) now m c1 (.tup [.str r,.int .i64 z]),Ae.slR c1,oOp 672 (hX k x y (.slice 9 0 so.length 2) sl (.slice 8 0 L.length 1) [(8,.cells false (L.map .u64)),(9,.cells false (snC so))] [] t c (stC d a s wh n now) [.u64 m,.str c1]) (hX k x y (.slice 9 0 so.length 2) sl (.slice 8 0 L.length 1) [(8,.cells false (L.map .u64)),(9,.cells false (snC so))] [] t2 c (stC d a s wh n now) [.u64 m,.str c1]) now m c1 (.tup [.str r,.int .i64 z]),Ae.slR c1,!(d == 3),!decide (0 < (c1.length:Int)),d == 2,rowO so i m c1,inO i so.length,rmO wh so.length i,!((so.length:Int) == 0),decide (0 < (so.length:Int)),decide (d < 6),!(d == 5),!(d == 4),!(d == 0),atO a k]):=by cases k <;> kernel_rfl
theorem v11t0:ansM [0,1,2,3,4,5,8,9] (run1O Try.prog psT csT sy12 [false,false,false,true,true,true,true,false,true] [.int .i64 (kI k),.int .i64 (i:Int),.agg [.u64 m,.str c1],.int .i64 (j:Int),.u8 g,.str c3,.tup [.str r,.int .i64 z],.tup [],.tup [.str r,.int .i64 z],.tup []] (mask 11) 200 11 [.ptr 0 0,.agg (stC d a s wh n now)] (hF k x y (.slice 9 0 so.length 2) sl (.slice 8 0 L.length 1) t c++[(8,.cells false (L.map .u64)),(9,.cells false (snC so))]) 16)=some (.bool (z == z),oF k x y (.slice 9 0 so.length 2) sl (.slice 8 0 L.length 1) t c++[some (.cells false (L.map .u64)),some (.cells false (snC so))],[r == r,oOd 936 (hX k x y (.slice 9 0 so.length 2) sl (.slice 8 0 L.length 1) [(8,.cells false (L.map .u64)),(9,.cells false (snC so))] [(608,.cells false (turC c1 j g))] t c (stC d a s wh n now) [.u64 m,.str c3]) (hX k x y (.slice 9 0 so.length 2) sl (.slice 8 0 L.length 1) [(8,.cells false (L.map .u64)),(9,.cells false (snC so))] [(608,.cells false (turC c1 j g))] t c (stC d a s wh n now) [.u64 m,.str c3]) now m c3 (.tup [.str r,.int .i64 z]),Ae.slR c3,oOp 832 (hX k x y (.slice 9 0 so.length 2) sl (.slice 8 0 L.length 1) [(8,.cells false (L.map .u64)),(9,.cells false (snC so))] [(608,.cells false (turC c1 j g))] t c (stC d a s wh n now) [.u64 m,.str c3]) (hX k x y (.slice 9 0 so.length 2) sl (.slice 8 0 L.length 1) [(8,.cells false (L.map .u64)),(9,.cells false (snC so))] [(608,.cells false (turC c1 j g))] t c (stC d a s wh n now) [.u64 m,.str c3]) now m c3 (.tup [.str r,.int .i64 z]),Ae.slR c3,!(d == 3),strAt (turC c1 j g) 0 c1.length c3,Nat.ble ((0+((Int.toNat (j:Int)) * 1))+[AVal.u8 (g+1)].length) (c1.map AVal.u8).length,inO j c1.length,isAt (c1.map .u8) (0+((Int.toNat (j:Int)) * 1)) (.u8 g),inO j c1.length,rmO n c1.length j,!((c1.length:Int) == 0),decide (0 < (c1.length:Int)),d == 2,rowO so i m c1,inO i so.length,rmO wh so.length i,!((so.length:Int) == 0),decide (0 < (so.length:Int)),decide (d < 6),!(d == 5),!(d == 4),!(d == 0),atO a k]):=by cases k <;> kernel_rfl
theorem v11t1:ansM [0,1,2,3,4,5,9,936] (run1O Try.prog psT csT sy12 [false,false,false,true,true,true,true,false,true] [.int .i64 (kI k),.int .i64 (i:Int),.agg [.u64 m,.str c1],.int .i64 (j:Int),.u8 g,.str c3,.tup [.str r,.int .i64 z],bk4 t2,.tup [.str r,.int .i64 z],.tup [.ptr 5 0,.agg (cD (.slice 936 0 q 1) c2),.ptr 936 0,.agg mk2,.ptr 8 0,.nilMap]] (mask 11) 200 11 [.ptr 0 0,.agg (stC d a s wh n now)] (hF k x y (.slice 9 0 so.length 2) sl (.slice 8 0 L.length 1) t c++[(8,.cells false (L.map .u64)),(9,.cells false (snC so))]) 16)=some (.bool (z == z),oF k x y (.slice 9 0 so.length 2) sl (.slice 936 0 q 1) t2 c2++[some (.cells false (snC so)),some (.cells false mk2)],[r == r,oOd 936 (hX k x y (.slice 9 0 so.length 2) sl (.slice 8 0 L.length 1) [(8,.cells false (L.map .u64)),(9,.cells false (snC so))] [(608,.cells false (turC c1 j g))] t2 c (stC d a s wh n now) [.u64 m,.str c3]) (hF k x y (.slice 9 0 so.length 2) sl (.slice 936 0 q 1) t2 c2++([(9,.cells false (snC so))]++((16,.cells false (stC d a s wh n now))::(296,.cells false [.u64 m,.str c3])::([(608,.cells false (turC c1 j g))]++[(936,.cells false mk2)])))) now m c3 (.tup [.str r,.int .i64 z]),Ae.slR c3,oOp 832 (hX k x y (.slice 9 0 so.length 2) sl (.slice 8 0 L.length 1) [(8,.cells false (L.map .u64)),(9,.cells false (snC so))] [(608,.cells false (turC c1 j g))] t c (stC d a s wh n now) [.u64 m,.str c3]) (hX k x y (.slice 9 0 so.length 2) sl (.slice 8 0 L.length 1) [(8,.cells false (L.map .u64)),(9,.cells false (snC so))] [(608,.cells false (turC c1 j g))] t2 c (stC d a s wh n now) [.u64 m,.str c3]) now m c3 (.tup [.str r,.int .i64 z]),Ae.slR c3,!(d == 3),strAt (turC c1 j g) 0 c1.length c3,Nat.ble ((0+((Int.toNat (j:Int)) * 1))+[AVal.u8 (g+1)].length) (c1.map AVal.u8).length,inO j c1.length,isAt (c1.map .u8) (0+((Int.toNat (j:Int)) * 1)) (.u8 g),inO j c1.length,rmO n c1.length j,!((c1.length:Int) == 0),decide (0 < (c1.length:Int)),d == 2,rowO so i m c1,inO i so.length,rmO wh so.length i,!((so.length:Int) == 0),decide (0 < (so.length:Int)),decide (d < 6),!(d == 5),!(d == 4),!(d == 0),atO a k]):=by cases k <;> kernel_rfl
end
end Go.Proofs.Ytjdhndicgifnbaa.Tun
namespace Go.Proofs.Ytjdhndicgifnbaa.Tun
open Go Go.Eng Go.Proofs.Ytjdhndicgifnbaa
def bt (L:List UInt64) (p:Nat):Bool:=(L.getD (p / 64) 0).toNat.testBit (p % 64)
theorem pos_eq (n sz:UInt64):(n % sz / 64).toNat=(n % sz).toNat / 64∧(n % sz % 64).toNat=(n % sz).toNat % 64:=⟨by rw [UInt64.toNat_div]; rfl,by rw [UInt64.toNat_mod (n % sz) 64]; rfl⟩
theorem bitM_nat (n sz:UInt64):(bitM n sz).toNat=2 ^ ((n % sz).toNat % 64):=by
 unfold bitM
 have h:=(pos_eq n sz).2
 have hlt:(n % sz % 64).toNat < 64:=by rw [h]; omega
 rw [shl_nat 1 _ hlt (by
  have:(1:UInt64).toNat=1:=rfl
  rw [this,Nat.one_mul]
  exact Nat.pow_lt_pow_right (by decide) hlt),h]
 show 1 * _=_
 rw [Nat.one_mul]
theorem and_bit (x k:Nat):(x &&& 2 ^ k != 0)=x.testBit k:=by
 cases h:x.testBit k with
 | true =>
  have e:x &&& 2 ^ k=2 ^ k:=Nat.eq_of_testBit_eq fun i=>by
   rw [Nat.testBit_and,Nat.testBit_two_pow]
   by_cases c:k=i
   ·subst c; simp [h]
   ·simp [c]
  rw [e]
  have:=Nat.two_pow_pos k
  simp
 | false =>
  have e:x &&& 2 ^ k=0:=Nat.eq_of_testBit_eq fun i=>by
   rw [Nat.testBit_and,Nat.testBit_two_pow,Nat.zero_testBit]
   by_cases c:k=i
   ·subst c; simp [h]
   ·simp [c]
  rw [e]; rfl
theorem bitAt_bt (s:Wn) (n:UInt64):bitAt s n=bt s.L (n % s.sz).toNat:=by
 unfold bitAt bt
 rw [(pos_eq n s.sz).1]
 rw [← and_bit,← bitM_nat]
 have:∀ x y:UInt64,((x &&& y) != 0)=(x.toNat &&& y.toNat != 0):=fun x y=>by
  rw [← UInt64.toNat_and]
  cases h:((x &&& y) != 0) with
  | false =>
   have:(x &&& y)=0:=by simpa using h
   rw [this]; rfl
  | true =>
   have h1:(x &&& y) ≠ 0:=by simpa using h
   have:(x &&& y).toNat ≠ 0:=fun e=>h1 (UInt64.toNat_inj.1 (e.trans rfl))
   rw [UInt64.toNat_and] at this
   rw [UInt64.toNat_and]
   simpa using this
 exact this _ _
theorem getD_set {L:List UInt64}{i j:Nat}{v:UInt64}(hi:i < L.length):(L.set i v).getD j 0=if i=j then v else L.getD j 0:=by
 rw [List.getD_eq_getElem?_getD,List.getElem?_set,List.getD_eq_getElem?_getD]
 by_cases h:i=j
 ·subst h; rw [if_pos rfl,if_pos hi,if_pos rfl]; rfl
 ·rw [if_neg h,if_neg h]
theorem div_mod_ne {p q:Nat}(h:p ≠ q) (e:p / 64=q / 64):p % 64 ≠ q % 64:=by omega
theorem bt_set {L:List UInt64}{n sz:UInt64}(hl:(n % sz).toNat / 64 < L.length) (p:Nat):bt (setL n sz L) p=(decide (p=(n % sz).toNat) || bt L p):=by
 unfold bt setL
 rw [(pos_eq n sz).1,getD_set hl]
 by_cases h:(n % sz).toNat / 64=p / 64
 ·rw [if_pos h,UInt64.toNat_or,Nat.testBit_or,bitM_nat,Nat.testBit_two_pow,h,Bool.or_comm]
  congr 1
  by_cases e:p=(n % sz).toNat
  ·subst e; simp
  ·have:=div_mod_ne e h.symm
   rw [decide_eq_false e,decide_eq_false (fun q=>this q.symm)]
 ·rw [if_neg h]
  have:p ≠ (n % sz).toNat:=fun e=>h (by rw [e])
  rw [decide_eq_false this,Bool.false_or]
theorem not_and_bit (x:UInt64) (m:UInt64){k i:Nat}(hm:m.toNat=2 ^ k) (hi:i < 64):(x &&& ~~~m).toNat.testBit i=(x.toNat.testBit i && !decide (k=i)):=by
 rw [UInt64.toNat_and,Nat.testBit_and]
 congr 1
 have:(~~~m).toNat=(~~~m.toBitVec).toNat:=by rw [← UInt64.toBitVec_not]; rfl
 rw [this,← BitVec.getLsbD,BitVec.getLsbD_not]
 have e2:m.toBitVec.getLsbD i=(m.toNat).testBit i:=rfl
 rw [e2,hm,Nat.testBit_two_pow]
 simp [hi]
theorem bt_clr {L:List UInt64}{n sz:UInt64}(hl:(n % sz).toNat / 64 < L.length) (p:Nat):bt (clr1 n sz L) p=(bt L p && !decide (p=(n % sz).toNat)):=by
 unfold bt clr1
 rw [(pos_eq n sz).1,getD_set hl]
 by_cases h:(n % sz).toNat / 64=p / 64
 ·rw [if_pos h,not_and_bit _ _ (bitM_nat n sz) (by omega),h]
  congr 2
  by_cases e:p=(n % sz).toNat
  ·subst e; simp
  ·have:=div_mod_ne e h.symm
   rw [decide_eq_false e,decide_eq_false (fun q=>this q.symm)]
 ·rw [if_neg h]
  have:p ≠ (n % sz).toNat:=fun e=>h (by rw [e])
  rw [decide_eq_false this]; simp
theorem bt_zero (L:List UInt64) (p:Nat):bt (zL L) p=false:=by
 unfold bt
 rw [zL_get]
 simp
structure WRel (w:Wn) (size:Int) (L:List UInt64):Prop where
 ok:okW w=true
 sz:w.sz=UInt64.ofInt size
 any:w.any = !L.isEmpty
 hi:L ≠ []→w.hi=maxU L
 bit:L ≠ []→∀ n:UInt64,n≤w.hi→w.hi - n < w.sz→bitAt w n=L.contains n
theorem le_fold (L:List UInt64):∀ (a:UInt64),a≤L.foldl (fun x y=>if x < y then y else x) a∧∀ n,n ∈ L→n≤L.foldl (fun x y=>if x < y then y else x) a:=by
 induction L with
 | nil=>intro a; exact ⟨UInt64.le_refl _,fun n h=>by simp at h⟩
 | cons b l ih =>
  intro a
  obtain ⟨h1,h2⟩:=ih (if a < b then b else a)
  have ha:a≤(if a < b then b else a)∧b≤(if a < b then b else a):=by
   by_cases c:a < b
   ·rw [if_pos c]; exact ⟨UInt64.le_of_lt c,UInt64.le_refl _⟩
   ·rw [if_neg c]; exact ⟨UInt64.le_refl _,UInt64.not_lt.1 c⟩
  refine ⟨UInt64.le_trans ha.1 h1,fun n hn => ?_⟩
  rcases List.mem_cons.1 hn with rfl | hn
  ·exact UInt64.le_trans ha.2 h1
  ·exact h2 n hn
theorem le_maxU {L:List UInt64}{n:UInt64}(h:n ∈ L):n≤maxU L:=(le_fold L 0).2 n h
theorem maxU_app (L:List UInt64) (n:UInt64):maxU (L++[n])=if maxU L < n then n else maxU L:=by
 unfold maxU
 rw [List.foldl_append]; rfl
theorem sub_nat {a b:UInt64}(h:b≤a):(a - b).toNat=a.toNat - b.toNat:=UInt64.toNat_sub_of_le _ _ h
theorem may_eq {w:Wn}{c:Dc}{L:List UInt64}(h:WRel w c.size L) (n:UInt64):mayW n w=mayR n (c,L):=by
 have hsz:=(okW_parts h.ok).2.1
 unfold mayW
 cases L with
 | nil =>
  have:=h.any
  rw [this]; rfl
 | cons a l =>
  have ha:w.any=true:=h.any
  have hh:=h.hi (by simp)
  rw [ha,cond_true]
  show _=cond (decide (n < maxU (a::l)) && decide (UInt64.ofInt c.size≤maxU (a::l) - n)) 170 (cond ((a::l).contains n) 9 0)
  rw [← hh,← h.sz]
  by_cases h1:w.hi < n
  ·have e1:decide (n < w.hi)=false:=decide_eq_false (fun q=>by have:=UInt64.lt_iff_toNat_lt.1 q; have:=UInt64.lt_iff_toNat_lt.1 h1; omega)
   have e2:(a::l).contains n=false:=by
    rw [Bool.eq_false_iff]
    intro q
    have:=le_maxU (List.contains_iff_mem.1 q)
    rw [← hh] at this
    have:=UInt64.le_iff_toNat_le.1 this
    have:=UInt64.lt_iff_toNat_lt.1 h1
    omega
   rw [decide_eq_true h1,e1,e2]; rfl
  ·have hle:n≤w.hi:=UInt64.not_lt.1 h1
   have hn:=sub_nat hle
   rw [decide_eq_false h1,cond_false]
   by_cases h2:w.sz≤w.hi - n
   ·have e1:n < w.hi:=by
     refine UInt64.lt_iff_toNat_lt.2 ?_
     have:=UInt64.le_iff_toNat_le.1 h2
     rw [hn] at this
     omega
    rw [decide_eq_true h2,decide_eq_true e1]; rfl
   ·rw [decide_eq_false h2,Bool.and_false,cond_false,cond_false,h.bit (by simp) n hle (UInt64.not_le.1 h2)]
theorem contains_app (L:List UInt64) (n m:UInt64):(L++[n]).contains m=(L.contains m || decide (m=n)):=by
 rw [Bool.eq_iff_iff]
 simp
theorem mod_ne {a b s:Nat}(hs:0 < s) (h:a < b) (hd:b - a < s):a % s ≠ b % s:=by
 intro e
 have h1:b=a+(b - a):=by omega
 have h2:(b - a) % s=0:=by
  have:(b - a) % s=(b - a):=Nat.mod_eq_of_lt hd
  have e1:=Nat.div_add_mod a s
  have e2:=Nat.div_add_mod b s
  have e3:b - a=s * (b / s) - s * (a / s):=by omega
  rw [e3,← Nat.mul_sub]
  exact Nat.mul_mod_right s _
 rw [Nat.mod_eq_of_lt hd] at h2
 omega
theorem pos_nat (n sz:UInt64):(n % sz).toNat=n.toNat % sz.toNat:=UInt64.toNat_mod _ _
theorem pos_lt {w:Wn}(h:okW w=true) (n:UInt64):(n % w.sz).toNat / 64 < w.L.length:=by
 have:=bit_lt h n
 rwa [(pos_eq n w.sz).1] at this
theorem dist_pos {sz m n:UInt64}(hs:0 < sz.toNat) (h:m < n) (hd:n - m < sz):(m % sz).toNat ≠ (n % sz).toNat:=by
 rw [pos_nat,pos_nat]
 have h1:=UInt64.lt_iff_toNat_lt.1 h
 have h2:=UInt64.lt_iff_toNat_lt.1 hd
 rw [sub_nat (UInt64.le_of_lt h)] at h2
 exact mod_ne hs h1 h2
end Go.Proofs.Ytjdhndicgifnbaa.Tun
