/- Texts Td8, Td9, TAe9, Te1, Te2, Eng54, Eng55, Tf1, Tf2, Tf3, Tf4, Tf5, Tf6, Tf7, Tf8, Tf9, Tg1, Tg2, Tg3, Tg4, Tg5, Tg6, Eng56, Tg7, Eng20, Eng29, Eng57, Eng58, Tg8, Tg9, Th1, Th2, Ti1, Ti2, Ti3, Ti4, Tk1, Tk2, Tk3, Tk4, Tk5: what they show that this claim uses. -/
import Derived.Test.YtjdhndicgifnbaaQ10
import Derived.Test.YtjdhndicgifnbaaQ9
import Derived.Test.YtjdhndicgifnbaaQ3
import Derived.WalkKit
import Derived.ProofKit
import Derived.OpenShut
import Derived.ShutString
import Derived.ChangeSame
import Derived.Deep.Slices
import Derived.WideKeyArgs
set_option maxRecDepth 100000
set_option maxHeartbeats 1000000
set_option linter.unusedVariables false
set_option linter.unusedSimpArgs false
namespace Go.Proofs.Ytjdhndicgifnbaa.Tun
open Go Go.Eng Go.Proofs.Ytjdhndicgifnbaa Go.Proofs.Ytjdhndicgifnbaa.Pol
def newD (g3 g4:List UInt8) (first:Bool) (now rc ct rk lf:UInt64) (sz:Int):Dc:=⟨g3,g4,first,now,rc,ct,rk,lf,sz,0,sz,first,false⟩
section
variable (g1 g2 g3 g4 g5:List UInt8) (first:Bool) (now rc ct rk lf:UInt64) (sz:Int)
def sy10:List Nat:=[13,18,22]
theorem w10a:ansO (run1O Try.prog noPS (csOne 33 g33) sy10 [true] [] (mask 10) 100 10 [gotA g1 g2 g3 g4 g5,.bool first,.u64 now,limA rc ct rk lf sz] [] 0)=some (.tup [.nilPtr,.int .i64 2],[(g3.length:Int) != 32]):=by kernel_rfl
theorem w10b:ansO (run1O Try.prog noPS (csOne 33 g33) sy10 [false,true] [] (mask 10) 100 10 [gotA g1 g2 g3 g4 g5,.bool first,.u64 now,limA rc ct rk lf sz] [] 0)=some (.tup [.nilPtr,.int .i64 2],[(g4.length:Int) != 32,!((g3.length:Int) != 32)]):=by kernel_rfl
theorem w10c:ansO (run1O Try.prog noPS (csOne 33 g33) sy10 [false,false,false] [] (mask 10) 100 10 [gotA g1 g2 g3 g4 g5,.bool first,.u64 now,limA rc ct rk lf sz] [] 0)=some (.tup [.nilPtr,.int .i64 2],[!mayD rc ct rk lf sz,!((g4.length:Int) != 32),!((g3.length:Int) != 32)]):=by kernel_rfl
theorem w10d:ansM [248] (run1O Try.prog noPS (csOne 33 g33) sy10 [false,false,true] [] (mask 10) 100 10 [gotA g1 g2 g3 g4 g5,.bool first,.u64 now,limA rc ct rk lf sz] [] 0)=some (.tup [.ptr 248 0,.int .i64 0],[some (.cells false (cD .nilSlice (newD g3 g4 first now rc ct rk lf sz)))],[mayD rc ct rk lf sz,!((g4.length:Int) != 32),!((g3.length:Int) != 32)]):=by kernel_rfl
end
def g10:List AVal→Option EffA
 | [.agg [.str g1,.str g2,.str g3,.str g4,.str g5],.bool first,.u64 now,.agg [.u64 rc,.u64 ct,.u64 rk,.u64 lf,.int .i64 sz]]=>some (cond (newG g3 g4 rc ct rk lf sz) (newE obD 1 [0] winV (newD g3 g4 first now rc ct rk lf sz,[])) (.pure (.tup [.nilPtr,.int .i64 2])))
 | _=>none
theorem g10_ok:CSOk Try.prog (csOne 10 g10):=csOne_ok fun args e he=>by
 unfold g10 at he
 split at he
 ·rename_i g1 g2 g3 g4 g5 first now rc ct rk lf sz
  cases he
  unfold newG
  cases h1:((g3.length:Int) != 32) with
  | true =>
   simp only [Bool.not_true,Bool.false_and,cond_false]
   exact callOk_ans g33_ok (noPS_ok _) hmix gl (w10a g1 g2 g3 g4 g5 first now rc ct rk lf sz) (allT_c h1 rfl) rfl rfl
  | false =>
   have n1:(!((g3.length:Int) != 32))=true:=by rw [h1]; rfl
   cases h2:((g4.length:Int) != 32) with
   | true =>
    simp only [Bool.not_true,Bool.not_false,Bool.true_and,Bool.false_and,cond_false]
    exact callOk_ans g33_ok (noPS_ok _) hmix gl (w10b g1 g2 g3 g4 g5 first now rc ct rk lf sz) (allT_c h2 (allT_c n1 rfl)) rfl rfl
   | false =>
    have n2:(!((g4.length:Int) != 32))=true:=by rw [h2]; rfl
    cases h3:mayD rc ct rk lf sz with
    | true =>
     simp only [Bool.not_false,Bool.true_and,cond_true]
     exact newE_ok g33_ok hmix (by decide) rfl (relD _) (nameWin (show 0 < 1 by decide)) rfl (by decide) (by decide) (runF_ofR (nn:=mask 10) (F:=100) (fr:=0) gl [248] (ansR_of (noPS_ok _) (w10d g1 g2 g3 g4 g5 first now rc ct rk lf sz) (allT_c h3 (allT_c n2 (allT_c n1 rfl)))) rfl rfl rfl rfl)
    | false =>
     simp only [Bool.not_false,Bool.true_and,cond_false]
     exact callOk_ans g33_ok (noPS_ok _) hmix gl (w10c g1 g2 g3 g4 g5 first now rc ct rk lf sz) (allT_c (by rw [h3]; rfl) (allT_c n2 (allT_c n1 rfl))) rfl rfl
 ·cases he
def keyA:List UInt8:=List.replicate 31 0++[97]
def keyB:List UInt8:=List.replicate 31 0++[98]
theorem w18t:(run1 Try.prog noCS (mask 18) 200 18 [.bool true] [] Try.prog.globals.size).map (·.1)=some (gotA [] [] keyA keyB []):=by kernel_rfl
theorem w18f:(run1 Try.prog noCS (mask 18) 200 18 [.bool false] [] Try.prog.globals.size).map (·.1)=some (gotA [] [] keyB keyA []):=by kernel_rfl
def g18:List AVal→Option EffA
 | [.bool true]=>some (.pure (gotA [] [] keyA keyB []))
 | [.bool false]=>some (.pure (gotA [] [] keyB keyA []))
 | _=>none
theorem g18_ok:CSOk Try.prog (csOne 18 g18):=csOne_ok fun args e he=>by
 unfold g18 at he
 split at he
 ·cases he; exact callOk_val (noCS_ok _) hmix w18t rfl rfl
 ·cases he; exact callOk_val (noCS_ok _) hmix w18f rfl rfl
 ·cases he
theorem w43n:(run1 Try.prog noCS (mask 43) 100 43 [.nilPtr] [] Try.prog.globals.size).map (·.1)=some (.bool true):=by kernel_rfl
def g43n:List AVal→Option EffA
 | [.nilPtr]=>some (.pure (.bool true))
 | _=>none
theorem g43n_ok:CSOk Try.prog (csOne 43 g43n):=csOne_ok fun args e he=>by
 unfold g43n at he
 split at he
 ·cases he; exact callOk_val (noCS_ok _) hmix w43n rfl rfl
 ·cases he
section
variable (n:UInt64) (i:UInt32)
theorem w22n:(run1 Try.prog (csOne 43 g43n) (mask 22) 100 22 [.nilPtr,.u32 i] [] Try.prog.globals.size).map (·.1)=some (.tup [.nilPtr,.int .i64 1]):=by kernel_rfl
theorem w23n:(run1 Try.prog (csOne 43 g43n) (mask 23) 100 23 [.nilPtr,.u64 n] [] Try.prog.globals.size).map (·.1)=some (.tup [.u32 0,.nilPtr,.int .i64 1]):=by kernel_rfl
theorem w24n:(run1 Try.prog (csOne 43 g43n) (mask 24) 100 24 [.nilPtr,.u32 i,.nilPtr] [] Try.prog.globals.size).map (·.1)=some (.int .i64 1):=by kernel_rfl
theorem w25n:(run1 Try.prog (csOne 43 g43n) (mask 25) 100 25 [.nilPtr,.u64 n] [] Try.prog.globals.size).map (·.1)=some .nilSlice:=by kernel_rfl
theorem w26n:(run1 Try.prog (csOne 43 g43n) (mask 26) 100 26 [.nilPtr] [] Try.prog.globals.size).map (·.1)=some .nilSlice:=by kernel_rfl
theorem w14n:(run1 Try.prog csP14 (mask 14) 100 14 [.nilPtr,.u64 n] [] Try.prog.globals.size).map (·.1)=some (.bool false):=by kernel_rfl
end
def csNil:CS:=fun f args=>match f,args with
 | 22,[.nilPtr,.u32 i]=>some (.pure (.tup [.nilPtr,.int .i64 1]))
 | 23,[.nilPtr,.u64 n]=>some (.pure (.tup [.u32 0,.nilPtr,.int .i64 1]))
 | 24,[.nilPtr,.u32 i,.nilPtr]=>some (.pure (.int .i64 1))
 | 25,[.nilPtr,.u64 n]=>some (.pure .nilSlice)
 | 26,[.nilPtr]=>some (.pure .nilSlice)
 | 14,[.nilPtr,.u64 n]=>some (.pure (.bool false))
 | _,_=>none
theorem csNil_ok:CSOk Try.prog csNil:=fun f args e he=>by
 unfold csNil at he
 split at he
 ·cases he; exact callOk_val g43n_ok hmix (w22n _) rfl rfl
 ·cases he; exact callOk_val g43n_ok hmix (w23n _) rfl rfl
 ·cases he; exact callOk_val g43n_ok hmix (w24n _) rfl rfl
 ·cases he; exact callOk_val g43n_ok hmix (w25n _) rfl rfl
 ·cases he; exact callOk_val g43n_ok hmix w26n rfl rfl
 ·cases he; exact callOk_val csP14_ok hmix (w14n _) rfl rfl
 ·cases he
end Go.Proofs.Ytjdhndicgifnbaa.Tun
namespace Go.Proofs.Ytjdhndicgifnbaa.Tun
open Go Go.Eng Go.Proofs.Ytjdhndicgifnbaa Go.Proofs.Ytjdhndicgifnbaa.Pol
def m20 (t:Nat) (now n:UInt64) (c:List UInt8):EffA:=methE clsT clsT srcT t (fun _ s=>openV now n c s) (openN now n c) fun s=>okW s.w
def q20:List AVal→Option (EffA × Bool)
 | [.ptr t 0,.u64 now,.u64 n,.str c]=>some (m20 t now n c,Ae.slR c)
 | [.nilPtr,.u64 now,.u64 n,.str c]=>some (.pure (.tup [.str [],.int .i64 1]),true)
 | _=>none
def q35:List AVal→Option (EffA × Bool)
 | [.ptr p 0,.u64 now,.u64 n,.str t]=>some (meO p now n t,Ae.slR t)
 | _=>none
theorem q20_ok:CSOk Try.prog (csP (psOne 20 q20)):=csP_one fun args v he=>by
 unfold q20 at he
 split at he
 ·rename_i t now n c
  simp only [Option.some.injEq,Prod.mk.injEq] at he
  obtain ⟨rfl,h⟩:=he
  exact g20_ok 20 [.ptr t 0,.u64 now,.u64 n,.str c] _ (by
   have:g20 [.ptr t 0,.u64 now,.u64 n,.str c]=some (m20 t now n c):=by
    unfold g20
    simp only [h,cond_true]
    rfl
   rw [← this]
   rfl)
 ·rename_i now n c
  simp only [Option.some.injEq,Prod.mk.injEq] at he
  obtain ⟨rfl,h⟩:=he
  exact g20_ok 20 [.nilPtr,.u64 now,.u64 n,.str c] _ rfl
 ·cases he
theorem q35_ok:CSOk Try.prog (csP (psOne 35 q35)):=csP_one fun args v he=>by
 unfold q35 at he
 split at he
 ·rename_i t now n c
  simp only [Option.some.injEq,Prod.mk.injEq] at he
  obtain ⟨rfl,h⟩:=he
  exact g35_ok 35 [.ptr t 0,.u64 now,.u64 n,.str c] _ (by
   have:g35 [.ptr t 0,.u64 now,.u64 n,.str c]=some (meO t now n c):=by
    unfold g35
    simp only [h,cond_true]
   rw [← this]
   rfl)
 ·cases he
def psT:PS:=psAlt (psOne 20 q20) (psOne 35 q35)
theorem psT_ok:CSOk Try.prog (csP psT):=csP_alt q20_ok q35_ok
def csT:CS:=csAlt (csP psT) (csAlt (csOne 18 g18) (csAlt (csOne 9 g9) (csAlt (csOne 10 g10) (csAlt (csOne 19 g19) (csAlt (csOne 34 g34) (csAlt (csOne 12 g12) (csAlt (csOne 13 g13) (csAlt (csOne 14 g14) (csAlt (csOne 15 g15) (csAlt (csOne 16 g16) (csAlt (csOne 17 g17) (csAlt (csOne 21 g21) csNil))))))))))))
theorem csT_ok:CSOk Try.prog csT:=csAlt_ok psT_ok (csAlt_ok g18_ok (csAlt_ok g9_ok (csAlt_ok g10_ok (csAlt_ok g19_ok (csAlt_ok g34_ok (csAlt_ok g12_ok (csAlt_ok g13_ok (csAlt_ok g14_ok (csAlt_ok g15_ok (csAlt_ok g16_ok (csAlt_ok g17_ok (csAlt_ok g21_ok csNil_ok))))))))))))
theorem csT_ps:PSOk psT csT:=csP_ok
end Go.Proofs.Ytjdhndicgifnbaa.Tun
namespace Go.Proofs.Ytjdhndicgifnbaa.Ae
open Go Go.Eng Go.Proofs.Ytjdhndicgifnbaa
theorem se_ok {k n a s:List UInt8}(hm:Cha.may k n=true) (ha:a.length≤65536) (hs:s.length≤65536):seF k n a s=(ct k n s++tagA k n a (ct k n s),0):=by
 unfold seF
 rw [hm,cond_true,if_neg (by omega)]
theorem op_open {k n a c t:List UInt8}(hm:Cha.may k n=true) (ha:a.length≤65536) (hc:c.length≤65536) (ht:t.length=16):opF k n a (c++t)=if tagA k n a c=t then (ct k n c,0) else ([],100):=by
 unfold opF
 have hl:(c++t).length=c.length+16:=by rw [List.length_append,ht]
 rw [hm,cond_true,hl,if_neg (by omega),if_neg (by omega),Nat.add_sub_cancel,List.take_left,List.drop_left]
theorem ct_back (k n s:List UInt8):ct k n (ct k n s)=s:=Cha.trn_back k n 1 s
theorem op_se {k n a s:List UInt8}(hm:Cha.may k n=true) (ha:a.length≤65536) (hs:s.length≤65536):opF k n a (ct k n s++tagA k n a (ct k n s))=(s,0):=by
 rw [op_open hm ha (by rw [ct_len]; exact hs) (tag_len hm),if_pos rfl,ct_back]
theorem mayN {k:List UInt8}(h:k.length=32) (n:UInt64):Cha.may k (nonL n)=true:=by
 unfold Cha.may
 rw [h]
 rfl
theorem se_len {k n s:List UInt8}(hm:Cha.may k n=true) (hs:s.length≤65536):(seF k n [] s).1.length=s.length+16:=by
 rw [se_ok hm (by simp) hs]
 show (ct k n s++tagA k n [] (ct k n s)).length=_
 rw [List.length_append,ct_len,tag_len hm]
end Go.Proofs.Ytjdhndicgifnbaa.Ae
namespace Go.Proofs.Ytjdhndicgifnbaa.Tun
open Go Go.Eng Go.Proofs.Ytjdhndicgifnbaa Go.Proofs.Ytjdhndicgifnbaa.Pol
def tA0:Tn:=newT keyA keyB true 5 2 3 10 20 8
def tA1:Tn:=incT tA0
def tA2:Tn:=incT tA1
def tB0:Tn:=newT keyB keyA false 5 2 3 10 20 8
def tB1:Tn:=opnT 1 tB0
def tB2:Tn:=incT tB1
def sOne:List UInt8:=[111,110,101]
def sTwo:List UInt8:=[116,119,111]
def c0:List UInt8:=(Ae.seF keyA (Ae.nonL 0) [] sOne).1
def c1:List UInt8:=(Ae.seF keyA (Ae.nonL 1) [] sTwo).1
def c2:List UInt8:=(Ae.seF keyB (Ae.nonL 0) [] [120]).1
theorem keyA_len:keyA.length=32:=rfl
theorem keyB_len:keyB.length=32:=rfl
theorem seA (n:UInt64){s:List UInt8}(h:s.length≤65536):(Ae.seF keyA (Ae.nonL n) [] s).2=0:=by rw [Ae.se_ok (Ae.mayN keyA_len n) (by simp) h]
theorem seB (n:UInt64){s:List UInt8}(h:s.length≤65536):(Ae.seF keyB (Ae.nonL n) [] s).2=0:=by rw [Ae.se_ok (Ae.mayN keyB_len n) (by simp) h]
theorem opA:Ae.opF keyA (Ae.nonL 1) [] c1=(sTwo,0):=by
 unfold c1
 rw [Ae.se_ok (Ae.mayN keyA_len 1) (by simp) (by simp [sTwo])]
 exact Ae.op_se (Ae.mayN keyA_len 1) (by simp) (by simp [sTwo])
def hAl (ta tb:Tn):HL:=(16,.cells false [.u64 2,.u64 3,.u64 10,.u64 20,.int .i64 8])::(hT 48 49 50 51 ta++hT 112 113 114 115 tb)
def hA1 (ta:Tn):HL:=(16,.cells false [.u64 2,.u64 3,.u64 10,.u64 20,.int .i64 8])::hT 48 49 50 51 ta
def hA0:HL:=[(16,.cells false [.u64 2,.u64 3,.u64 10,.u64 20,.int .i64 8])]
def bkA (t:Tn):AVal:=.tup [.ptr 48 0,.agg (cT 49 51 t),.ptr 49 0,.agg (cW 50 t.w),.ptr 50 0,.agg (t.w.L.map .u64),.ptr 51 0,.agg [.u64 t.made]]
def bkB (t:Tn):AVal:=.tup [.ptr 112 0,.agg (cT 113 115 t),.ptr 113 0,.agg (cW 114 t.w),.ptr 114 0,.agg (t.w.L.map .u64),.ptr 115 0,.agg [.u64 t.made]]
theorem mA {val:List Nat→Tn→AVal}{next:Tn→Tn}{ok:Tn→Bool}{ta tb t2:Tn}{v:AVal}{base:Nat}(hb:nodupB [base,48,49,50,51]=true) (ho:ok ta=true) (hv:val [48,49,50,51] ta=v) (hn:next ta=t2):mOb (methE clsT clsT srcT 48 val next ok) base (hAl ta tb) v (hAl t2 tb)=true:=by
 subst hv hn
 refine decP_of ?_
 rw [methE_app (C:=clsT) (C2:=clsT) (ns:=[48,49,50,51]) (s:=ta) (tFind_at (t:=48) (w:=49) (b:=50) (a:=51) rfl rfl rfl rfl) hb ho]
 rfl
theorem mB {val:List Nat→Tn→AVal}{next:Tn→Tn}{ok:Tn→Bool}{ta tb t2:Tn}{v:AVal}{base:Nat}(hb:nodupB [base,112,113,114,115]=true) (ho:ok tb=true) (hv:val [112,113,114,115] tb=v) (hn:next tb=t2):mOb (methE clsT clsT srcT 112 val next ok) base (hAl ta tb) v (hAl ta t2)=true:=by
 subst hv hn
 refine decP_of ?_
 rw [methE_app (C:=clsT) (C2:=clsT) (ns:=[112,113,114,115]) (s:=tb) (tFind_at (t:=112) (w:=113) (b:=114) (a:=115) rfl rfl rfl rfl) hb ho]
 rfl
noncomputable def oNewA:Bool:=mOb ((g9 [gotA [] [] keyA keyB [],.bool true,.u64 5,limA 2 3 10 20 8]).getD (.pure (.tup []))) 48 hA0 (.tup [.ptr 48 0,.int .i64 0]) (hA1 tA0)
noncomputable def oNewB:Bool:=mOb ((g9 [gotA [] [] keyB keyA [],.bool false,.u64 5,limA 2 3 10 20 8]).getD (.pure (.tup []))) 112 (hA1 tA0) (.tup [.ptr 112 0,.int .i64 0]) (hAl tA0 tB0)
theorem newG_al (a b:List UInt8) (ha:a.length=32) (hb:b.length=32):newG a b 2 3 10 20 8=true:=by
 unfold newG
 rw [ha,hb]
 rfl
theorem g9_at {g1 g2 g3 g4 g5:List UInt8}{first:Bool}{now rc ct rk lf:UInt64}{sz:Int}{d:EffA}(h:newG g3 g4 rc ct rk lf sz=true):(g9 [gotA g1 g2 g3 g4 g5,.bool first,.u64 now,limA rc ct rk lf sz]).getD d=newE obT 4 [0,1,2,3] winV (newT g3 g4 first now rc ct rk lf sz):=by
 simp only [g9,gotA,limA,h,cond_true,Option.getD_some]
theorem oNewA_ok:oNewA=true:=by
 refine decP_of ?_
 rw [g9_at (newG_al _ _ keyA_len keyB_len),newE_app (O2:=obT) (by decide)]
 rfl
theorem oNewB_ok:oNewB=true:=by
 refine decP_of ?_
 rw [g9_at (newG_al _ _ keyB_len keyA_len),newE_app (O2:=obT) (by decide)]
 rfl
noncomputable def oal0:Bool:=mOb (methE clsT clsT srcT 112 (fun _ s=>sealV 5 [120] s) (sealN 5 [120]) (fun _=>true)) 280 (hAl tA0 tB0) (.tup [.u64 0,.str [],.int .i64 3]) (hAl tA0 tB0)
noncomputable def oal1:Bool:=mOb (methE clsT clsT srcT 48 (fun _ s=>sealV 5 sOne s) (sealN 5 sOne) (fun _=>true)) 352 (hAl tA0 tB0) (.tup [.u64 0,.str c0,.int .i64 0]) (hAl tA1 tB0)
noncomputable def oal2:Bool:=mOb (methE clsT clsT srcT 48 (fun _ s=>sealV 5 sTwo s) (sealN 5 sTwo) (fun _=>true)) 368 (hAl tA1 tB0) (.tup [.u64 1,.str c1,.int .i64 0]) (hAl tA2 tB0)
noncomputable def oal3:Bool:=mOb (methE clsT clsT srcT 112 (fun _ s=>openV 5 1 c1 s) (openN 5 1 c1) (fun s=>okW s.w)) 456 (hAl tA2 tB0) (.tup [.str sTwo,.int .i64 0]) (hAl tA2 tB1)
noncomputable def oal4:Bool:=mOb (methE clsT clsT srcT 112 (fun _ s=>openV 5 1 c1 s) (openN 5 1 c1) (fun s=>okW s.w)) 528 (hAl tA2 tB1) (.tup [.str [],.int .i64 9]) (hAl tA2 tB1)
noncomputable def oal5:Bool:=mOb (methE clsT clsT srcT 112 (fun _ s=>sealV 5 [120] s) (sealN 5 [120]) (fun _=>true)) 584 (hAl tA2 tB1) (.tup [.u64 0,.str c2,.int .i64 0]) (hAl tA2 tB2)
noncomputable def oal6:Bool:=mOb (methE clsT clsT srcT 48 (fun _ s=>.bool (wantsT 5 s)) id (fun _=>true)) 872 (hAl tA2 tB2) (.bool true) (hAl tA2 tB2)
noncomputable def oal7:Bool:=mOb (methE clsT clsT srcT 112 (fun _ s=>.bool (wantsT 5 s)) id (fun _=>true)) 904 (hAl tA2 tB2) (.bool false) (hAl tA2 tB2)
noncomputable def oal8:Bool:=mOb (methE clsT clsT srcT 48 (fun _ s=>.bool (overT 24 s)) id (fun _=>true)) 944 (hAl tA2 tB2) (.bool false) (hAl tA2 tB2)
noncomputable def oal9:Bool:=mOb (methE clsT clsT srcT 48 (fun _ s=>.bool (overT 25 s)) id (fun _=>true)) 984 (hAl tA2 tB2) (.bool true) (hAl tA2 tB2)
noncomputable def oal10:Bool:=mOb (methE clsT clsT srcT 48 (fun _ s=>.u64 s.next) id (fun _=>true)) 1016 (hAl tA2 tB2) (.u64 2) (hAl tA2 tB2)
noncomputable def oal11:Bool:=mOb (methE clsT clsT srcT 48 (fun _ s=>.bool s.sure) id (fun _=>true)) 1056 (hAl tA2 tB2) (.bool true) (hAl tA2 tB2)
noncomputable def oal12:Bool:=mOb (methE clsT clsT srcT 112 (fun _ s=>.bool s.sure) id (fun _=>true)) 1088 (hAl tA2 tB2) (.bool true) (hAl tA2 tB2)
def sy8:List Nat:=[300023,300029,300048,300053,300056,64,71,300064,300071,300076,300108,300112,300117,300122,300126,300131,300135]
theorem w8:ansO (run1O Try.prog psT csT sy8 [] [.tup [.ptr 48 0,.int .i64 0],bkA tA0,.tup [.ptr 112 0,.int .i64 0],bkB tB0,.tup [.u64 0,.str [],.int .i64 3],bkB tB0,.tup [.u64 0,.str c0,.int .i64 0],bkA tA1,.tup [.u64 1,.str c1,.int .i64 0],bkA tA2,.tup [.str sTwo,.int .i64 0],bkB tB1,.tup [.str [],.int .i64 9],bkB tB1,.tup [.u64 0,.str c2,.int .i64 0],bkB tB2,.bool true,bkA tA2,.bool false,bkB tB2,.bool false,bkA tA2,.bool true,bkA tA2,.u64 2,bkA tA2,.bool true,bkA tA2,.bool true,bkB tB2] (mask 8) 200 8 [] [] 0)=some (.bool true,[oal12,oal11,oal10,oal9,oal8,oal7,oal6,oal5,oal4,Ae.slR c1,oal3,Ae.slR c1,oal2,oal1,oal0,oNewB,oNewA]):=by kernel_rfl
theorem sealGa (n:UInt64) (t:Tn) (x:List UInt8) (h1:overT 5 t=false) (h2:decide (t.ct≤t.next)=false) (h3:t.sure=true) (h4:(Ae.seF t.send (Ae.nonL t.next) [] x).2=0):sealG 5 x t=true:=by
 unfold sealG
 rw [h1,h2,h3,h4]
 rfl
theorem sealVa (t:Tn) (x:List UInt8) (h:sealG 5 x t=true):sealV 5 x t=.tup [.u64 t.next,.str (Ae.seF t.send (Ae.nonL t.next) [] x).1,.int .i64 0]∧sealN 5 x t=incT t:=by
 unfold sealV sealN
 rw [h]
 exact ⟨rfl,rfl⟩
theorem gA0:sealG 5 sOne tA0=true:=sealGa 0 _ _ (by decide) (by decide) rfl (seA 0 (by simp [sOne]))
theorem gA1:sealG 5 sTwo tA1=true:=sealGa 1 _ _ (by decide) (by decide) rfl (seA 1 (by simp [sTwo]))
theorem gB1:sealG 5 [120] tB1=true:=sealGa 0 _ _ (by decide) (by decide) rfl (seB 0 (by simp))
theorem gB0:sealG 5 [120] tB0=false:=by
 unfold sealG
 have:tB0.sure=false:=rfl
 rw [this,Bool.false_and,Bool.and_false,Bool.and_false]
theorem oB0:openG 5 1 c1 tB0=true:=by
 unfold openG
 have h1:overT 5 tB0=false:=by decide
 have h2:decide (tB0.ct≤1)=false:=by decide
 have h3:mayW 1 tB0.w=0:=by decide
 have h4:(Ae.opF tB0.recv (Ae.nonL 1) [] c1).2=0:=by
  have:tB0.recv=keyA:=rfl
  rw [this,opA]
 rw [h1,h2,h3,h4]
 rfl
theorem may2:mayW 1 tB1.w=9:=by decide
theorem oB1:openG 5 1 c1 tB1=false:=by
 unfold openG
 rw [may2]
 have h1:overT 5 tB1=false:=by decide
 have h2:decide (tB1.ct≤1)=false:=by decide
 rw [h1,h2]
 rfl
theorem c1_len:Ae.slR c1=true:=by
 unfold Ae.slR c1
 rw [Ae.se_len (Ae.mayN keyA_len 1) (by simp [sTwo])]
 rfl
theorem oal0_ok:oal0=true:=mB rfl rfl (by unfold sealV; rw [gB0]; rfl) (by unfold sealN; rw [gB0]; rfl)
theorem oal1_ok:oal1=true:=mA rfl rfl (sealVa _ _ gA0).1 (sealVa _ _ gA0).2
theorem oal2_ok:oal2=true:=mA rfl rfl (sealVa _ _ gA1).1 (sealVa _ _ gA1).2
theorem oal3_ok:oal3=true:=mB rfl (by decide) (by
  show openV 5 1 c1 tB0=_
  unfold openV
  have:tB0.recv=keyA:=rfl
  rw [oB0,this,opA]; rfl) (by show openN 5 1 c1 tB0=_; unfold openN; rw [oB0]; rfl)
theorem oal4_ok:oal4=true:=mB rfl (by decide) (by
  show openV 5 1 c1 tB1=_
  unfold openV openE
  have h1:overT 5 tB1=false:=by decide
  have h2:decide (tB1.ct≤1)=false:=by decide
  rw [oB1,may2,h1,h2]; rfl) (by show openN 5 1 c1 tB1=_; unfold openN; rw [oB1]; rfl)
theorem oal5_ok:oal5=true:=mB rfl rfl (sealVa _ _ gB1).1 (sealVa _ _ gB1).2
theorem oal6_ok:oal6=true:=mA rfl rfl (congrArg AVal.bool (show wantsT 5 tA2=true by decide)) rfl
theorem oal7_ok:oal7=true:=mB rfl rfl (congrArg AVal.bool (show wantsT 5 tB2=false by decide)) rfl
theorem oal8_ok:oal8=true:=mA rfl rfl (congrArg AVal.bool (show overT 24 tA2=false by decide)) rfl
theorem oal9_ok:oal9=true:=mA rfl rfl (congrArg AVal.bool (show overT 25 tA2=true by decide)) rfl
theorem oal10_ok:oal10=true:=mA rfl rfl (congrArg AVal.u64 (show tA2.next=2 by decide)) rfl
theorem oal11_ok:oal11=true:=mA rfl rfl rfl rfl
theorem oal12_ok:oal12=true:=mB rfl rfl rfl rfl
theorem run8:(run1 Try.prog csT (mask 8) 200 8 [] [] Try.prog.globals.size).map (·.1)=some (.bool true):=by
 rw [gl]
 exact ansO_run csT_ps w8 (allT_c oal12_ok (allT_c oal11_ok (allT_c oal10_ok (allT_c oal9_ok (allT_c oal8_ok (allT_c oal7_ok (allT_c oal6_ok (allT_c oal5_ok (allT_c oal4_ok (allT_c c1_len (allT_c oal3_ok (allT_c c1_len (allT_c oal2_ok (allT_c oal1_ok (allT_c oal0_ok (allT_c oNewB_ok (allT_c oNewA_ok rfl)))))))))))))))))
def g8:List AVal→Option EffA
 | []=>some (.pure (.bool true))
 | _=>none
theorem g8_ok:CSOk Try.prog (csOne 8 g8):=csOne_ok fun args e he=>by
 unfold g8 at he
 split at he
 ·cases he; exact callOk_val csT_ok hmix run8 rfl rfl
 ·cases he
end Go.Proofs.Ytjdhndicgifnbaa.Tun
namespace Go.Proofs.Ytjdhndicgifnbaa.Tun
open Go Go.Eng Go.Proofs.Ytjdhndicgifnbaa Go.Proofs.Ytjdhndicgifnbaa.Pol
def csL:CS:=csAlt (csOne 8 g8) csT
theorem csL_ok:CSOk Try.prog csL:=csAlt_ok g8_ok csT_ok
end Go.Proofs.Ytjdhndicgifnbaa.Tun
namespace Go.Proofs.Ytjdhndicgifnbaa.Tun
open Go Go.Eng Go.Proofs.Ytjdhndicgifnbaa Go.Proofs.Ytjdhndicgifnbaa.Pol
abbrev SL:=List (UInt64 × List UInt8)
def snC (l:SL):List AVal:=l.flatMap fun x=>[.u64 x.1,.str x.2]
def e1 {α:Type}:List α→Nat
 | []=>0
 | _::_=>1
def oneN (m:Nat){α:Type}:List α→List Nat
 | []=>[]
 | _::_=>[m]
end Go.Proofs.Ytjdhndicgifnbaa.Tun
namespace Go.Proofs.Ytjdhndicgifnbaa.Tun
open Go Go.Eng Go.Proofs.Ytjdhndicgifnbaa Go.Proofs.Ytjdhndicgifnbaa.Pol
def stC (d:Int) (a:UInt8) (s:List UInt8) (wh n:Int) (now:UInt64):List AVal:=[.int .i64 d,.u8 a,.str s,.int .i64 wh,.int .i64 n,.u64 now]
section
variable (k:Bool) (x y zo sl slm:AVal) (sk:SL) (t t2:Tn) (c c2:Dc) (d wh n:Int) (a:UInt8) (s z:List UInt8) (now m:UInt64) (e:Int)
end
end Go.Proofs.Ytjdhndicgifnbaa.Tun
namespace Go.Proofs.Ytjdhndicgifnbaa.Tun
open Go Go.Eng Go.Proofs.Ytjdhndicgifnbaa
def bt (L:List UInt64) (p:Nat):Bool:=(L.getD (p / 64) 0).toNat.testBit (p % 64)
theorem pos_eq (n sz:UInt64):(n % sz / 64).toNat=(n % sz).toNat / 64∧(n % sz % 64).toNat=(n % sz).toNat % 64:=⟨by rw [UInt64.toNat_div]; rfl,by rw [UInt64.toNat_mod (n % sz) 64]; rfl⟩
theorem bitM_nat (n sz:UInt64):(bitM n sz).toNat=2 ^ ((n % sz).toNat % 64):=by
 unfold bitM
 have h:=(pos_eq n sz).2
 have hlt:(n % sz % 64).toNat < 64:=by rw [h]; omega
 rw [shl_nat 1 _ hlt (by
  have:(1:UInt64).toNat=1:=rfl
  rw [this,Nat.one_mul]
  exact Nat.pow_lt_pow_right (by decide) hlt),h]
 show 1 * _=_
 rw [Nat.one_mul]
theorem and_bit (x k:Nat):(x &&& 2 ^ k != 0)=x.testBit k:=by
 cases h:x.testBit k with
 | true =>
  have e:x &&& 2 ^ k=2 ^ k:=Nat.eq_of_testBit_eq fun i=>by
   rw [Nat.testBit_and,Nat.testBit_two_pow]
   by_cases c:k=i
   ·subst c; simp [h]
   ·simp [c]
  rw [e]
  have:=Nat.two_pow_pos k
  simp
 | false =>
  have e:x &&& 2 ^ k=0:=Nat.eq_of_testBit_eq fun i=>by
   rw [Nat.testBit_and,Nat.testBit_two_pow,Nat.zero_testBit]
   by_cases c:k=i
   ·subst c; simp [h]
   ·simp [c]
  rw [e]; rfl
theorem bitAt_bt (s:Wn) (n:UInt64):bitAt s n=bt s.L (n % s.sz).toNat:=by
 unfold bitAt bt
 rw [(pos_eq n s.sz).1]
 rw [← and_bit,← bitM_nat]
 have:∀ x y:UInt64,((x &&& y) != 0)=(x.toNat &&& y.toNat != 0):=fun x y=>by
  rw [← UInt64.toNat_and]
  cases h:((x &&& y) != 0) with
  | false =>
   have:(x &&& y)=0:=by simpa using h
   rw [this]; rfl
  | true =>
   have h1:(x &&& y) ≠ 0:=by simpa using h
   have:(x &&& y).toNat ≠ 0:=fun e=>h1 (UInt64.toNat_inj.1 (e.trans rfl))
   rw [UInt64.toNat_and] at this
   rw [UInt64.toNat_and]
   simpa using this
 exact this _ _
theorem getD_set {L:List UInt64}{i j:Nat}{v:UInt64}(hi:i < L.length):(L.set i v).getD j 0=if i=j then v else L.getD j 0:=by
 rw [List.getD_eq_getElem?_getD,List.getElem?_set,List.getD_eq_getElem?_getD]
 by_cases h:i=j
 ·subst h; rw [if_pos rfl,if_pos hi,if_pos rfl]; rfl
 ·rw [if_neg h,if_neg h]
theorem div_mod_ne {p q:Nat}(h:p ≠ q) (e:p / 64=q / 64):p % 64 ≠ q % 64:=by omega
theorem bt_set {L:List UInt64}{n sz:UInt64}(hl:(n % sz).toNat / 64 < L.length) (p:Nat):bt (setL n sz L) p=(decide (p=(n % sz).toNat) || bt L p):=by
 unfold bt setL
 rw [(pos_eq n sz).1,getD_set hl]
 by_cases h:(n % sz).toNat / 64=p / 64
 ·rw [if_pos h,UInt64.toNat_or,Nat.testBit_or,bitM_nat,Nat.testBit_two_pow,h,Bool.or_comm]
  congr 1
  by_cases e:p=(n % sz).toNat
  ·subst e; simp
  ·have:=div_mod_ne e h.symm
   rw [decide_eq_false e,decide_eq_false (fun q=>this q.symm)]
 ·rw [if_neg h]
  have:p ≠ (n % sz).toNat:=fun e=>h (by rw [e])
  rw [decide_eq_false this,Bool.false_or]
theorem not_and_bit (x:UInt64) (m:UInt64){k i:Nat}(hm:m.toNat=2 ^ k) (hi:i < 64):(x &&& ~~~m).toNat.testBit i=(x.toNat.testBit i && !decide (k=i)):=by
 rw [UInt64.toNat_and,Nat.testBit_and]
 congr 1
 have:(~~~m).toNat=(~~~m.toBitVec).toNat:=by rw [← UInt64.toBitVec_not]; rfl
 rw [this,← BitVec.getLsbD,BitVec.getLsbD_not]
 have e2:m.toBitVec.getLsbD i=(m.toNat).testBit i:=rfl
 rw [e2,hm,Nat.testBit_two_pow]
 simp [hi]
theorem bt_clr {L:List UInt64}{n sz:UInt64}(hl:(n % sz).toNat / 64 < L.length) (p:Nat):bt (clr1 n sz L) p=(bt L p && !decide (p=(n % sz).toNat)):=by
 unfold bt clr1
 rw [(pos_eq n sz).1,getD_set hl]
 by_cases h:(n % sz).toNat / 64=p / 64
 ·rw [if_pos h,not_and_bit _ _ (bitM_nat n sz) (by omega),h]
  congr 2
  by_cases e:p=(n % sz).toNat
  ·subst e; simp
  ·have:=div_mod_ne e h.symm
   rw [decide_eq_false e,decide_eq_false (fun q=>this q.symm)]
 ·rw [if_neg h]
  have:p ≠ (n % sz).toNat:=fun e=>h (by rw [e])
  rw [decide_eq_false this]; simp
theorem bt_zero (L:List UInt64) (p:Nat):bt (zL L) p=false:=by
 unfold bt
 rw [zL_get]
 simp
structure WRel (w:Wn) (size:Int) (L:List UInt64):Prop where
 ok:okW w=true
 sz:w.sz=UInt64.ofInt size
 any:w.any = !L.isEmpty
 hi:L ≠ []→w.hi=maxU L
 bit:L ≠ []→∀ n:UInt64,n≤w.hi→w.hi - n < w.sz→bitAt w n=L.contains n
theorem le_fold (L:List UInt64):∀ (a:UInt64),a≤L.foldl (fun x y=>if x < y then y else x) a∧∀ n,n ∈ L→n≤L.foldl (fun x y=>if x < y then y else x) a:=by
 induction L with
 | nil=>intro a; exact ⟨UInt64.le_refl _,fun n h=>by simp at h⟩
 | cons b l ih =>
  intro a
  obtain ⟨h1,h2⟩:=ih (if a < b then b else a)
  have ha:a≤(if a < b then b else a)∧b≤(if a < b then b else a):=by
   by_cases c:a < b
   ·rw [if_pos c]; exact ⟨UInt64.le_of_lt c,UInt64.le_refl _⟩
   ·rw [if_neg c]; exact ⟨UInt64.le_refl _,UInt64.not_lt.1 c⟩
  refine ⟨UInt64.le_trans ha.1 h1,fun n hn => ?_⟩
  rcases List.mem_cons.1 hn with rfl | hn
  ·exact UInt64.le_trans ha.2 h1
  ·exact h2 n hn
theorem le_maxU {L:List UInt64}{n:UInt64}(h:n ∈ L):n≤maxU L:=(le_fold L 0).2 n h
theorem maxU_app (L:List UInt64) (n:UInt64):maxU (L++[n])=if maxU L < n then n else maxU L:=by
 unfold maxU
 rw [List.foldl_append]; rfl
theorem sub_nat {a b:UInt64}(h:b≤a):(a - b).toNat=a.toNat - b.toNat:=UInt64.toNat_sub_of_le _ _ h
theorem may_eq {w:Wn}{c:Dc}{L:List UInt64}(h:WRel w c.size L) (n:UInt64):mayW n w=mayR n (c,L):=by
 have hsz:=(okW_parts h.ok).2.1
 unfold mayW
 cases L with
 | nil =>
  have:=h.any
  rw [this]; rfl
 | cons a l =>
  have ha:w.any=true:=h.any
  have hh:=h.hi (by simp)
  rw [ha,cond_true]
  show _=cond (decide (n < maxU (a::l)) && decide (UInt64.ofInt c.size≤maxU (a::l) - n)) 170 (cond ((a::l).contains n) 9 0)
  rw [← hh,← h.sz]
  by_cases h1:w.hi < n
  ·have e1:decide (n < w.hi)=false:=decide_eq_false (fun q=>by have:=UInt64.lt_iff_toNat_lt.1 q; have:=UInt64.lt_iff_toNat_lt.1 h1; omega)
   have e2:(a::l).contains n=false:=by
    rw [Bool.eq_false_iff]
    intro q
    have:=le_maxU (List.contains_iff_mem.1 q)
    rw [← hh] at this
    have:=UInt64.le_iff_toNat_le.1 this
    have:=UInt64.lt_iff_toNat_lt.1 h1
    omega
   rw [decide_eq_true h1,e1,e2]; rfl
  ·have hle:n≤w.hi:=UInt64.not_lt.1 h1
   have hn:=sub_nat hle
   rw [decide_eq_false h1,cond_false]
   by_cases h2:w.sz≤w.hi - n
   ·have e1:n < w.hi:=by
     refine UInt64.lt_iff_toNat_lt.2 ?_
     have:=UInt64.le_iff_toNat_le.1 h2
     rw [hn] at this
     omega
    rw [decide_eq_true h2,decide_eq_true e1]; rfl
   ·rw [decide_eq_false h2,Bool.and_false,cond_false,cond_false,h.bit (by simp) n hle (UInt64.not_le.1 h2)]
theorem contains_app (L:List UInt64) (n m:UInt64):(L++[n]).contains m=(L.contains m || decide (m=n)):=by
 rw [Bool.eq_iff_iff]
 simp
theorem mod_ne {a b s:Nat}(hs:0 < s) (h:a < b) (hd:b - a < s):a % s ≠ b % s:=by
 intro e
 have h1:b=a+(b - a):=by omega
 have h2:(b - a) % s=0:=by
  have:(b - a) % s=(b - a):=Nat.mod_eq_of_lt hd
  have e1:=Nat.div_add_mod a s
  have e2:=Nat.div_add_mod b s
  have e3:b - a=s * (b / s) - s * (a / s):=by omega
  rw [e3,← Nat.mul_sub]
  exact Nat.mul_mod_right s _
 rw [Nat.mod_eq_of_lt hd] at h2
 omega
theorem pos_nat (n sz:UInt64):(n % sz).toNat=n.toNat % sz.toNat:=UInt64.toNat_mod _ _
theorem pos_lt {w:Wn}(h:okW w=true) (n:UInt64):(n % w.sz).toNat / 64 < w.L.length:=by
 have:=bit_lt h n
 rwa [(pos_eq n w.sz).1] at this
theorem dist_pos {sz m n:UInt64}(hs:0 < sz.toNat) (h:m < n) (hd:n - m < sz):(m % sz).toNat ≠ (n % sz).toNat:=by
 rw [pos_nat,pos_nat]
 have h1:=UInt64.lt_iff_toNat_lt.1 h
 have h2:=UInt64.lt_iff_toNat_lt.1 hd
 rw [sub_nat (UInt64.le_of_lt h)] at h2
 exact mod_ne hs h1 h2
end Go.Proofs.Ytjdhndicgifnbaa.Tun
namespace Go.Proofs.Ytjdhndicgifnbaa.Tun
open Go Go.Eng Go.Proofs.Ytjdhndicgifnbaa
theorem bt_clrL {w:Wn}(h:okW w=true) (n:UInt64):∀ (j p:Nat),bt (clrL n w.sz w.L j) p=(bt w.L p && !decide (∃ i,i < j∧p=((n - UInt64.ofNat i) % w.sz).toNat))
 | 0,p=>by simp [clrL]
 | j+1,p=>by
  unfold clrL
  rw [bt_clr (by rw [clrL_len]; exact pos_lt h _),bt_clrL h n j p,Bool.and_assoc]
  congr 1
  rw [← Bool.not_or]
  congr 1
  rw [Bool.eq_iff_iff]
  simp only [Bool.or_eq_true,decide_eq_true_eq]
  constructor
  ·rintro (⟨i,h1,h2⟩ | h2)
   ·exact ⟨i,by omega,h2⟩
   ·exact ⟨j,by omega,h2⟩
  ·rintro ⟨i,h1,h2⟩
   by_cases e:i=j
   ·subst e; exact .inr h2
   ·exact .inl ⟨i,by omega,h2⟩
theorem le_nat {a b:UInt64}:a≤b ↔ a.toNat≤b.toNat:=UInt64.le_iff_toNat_le
theorem lt_nat {a b:UInt64}:a < b ↔ a.toNat < b.toNat:=UInt64.lt_iff_toNat_lt
theorem eq_nat {a b:UInt64}:a=b ↔ a.toNat=b.toNat:=⟨fun h=>by rw [h],UInt64.toNat_inj.1⟩
theorem mark_rel {w:Wn}{c:Dc}{L:List UInt64}(h:WRel w c.size L){n:UInt64}(hm:mayR n (c,L)=0):WRel (markW n w) c.size (L++[n]):=by
 have hz:=(okW_parts h.ok).2.1
 have hmw:mayW n w=0:=by rw [may_eq h,hm]
 have e0:(mayW n w != 0)=false:=by rw [hmw]; rfl
 have hok:=okW_mark (n:=n) h.ok
 have hne:L++[n] ≠ []:=by simp
 obtain ⟨W,hW⟩:∃ W,W=markW n w:=⟨_,rfl⟩
 rw [← hW] at hok ⊢
 have key:∀ w2:Wn,W=w2→w2.sz=w.sz→w2.any=true→w2.hi=maxU (L++[n])→(∀ m:UInt64,m≤w2.hi→w2.hi - m < w2.sz→bt w2.L (m % w2.sz).toNat=(L.contains m || decide (m=n)))→WRel W c.size (L++[n]):=fun w2 e a1 a2 a3 a4=>by
  rw [e] at hok ⊢
  refine ⟨hok,by rw [a1,h.sz],by rw [a2]; simp,fun _=>a3,fun _ m h1 h2 => ?_⟩
  rw [bitAt_bt,a4 m h1 h2,contains_app]
 unfold markW at hW
 rw [e0,cond_false] at hW
 have hnotin:∀ m:UInt64,maxU L < m→L.contains m=false:=fun m hlt=>by
  rw [Bool.eq_false_iff]
  intro q
  have:=le_maxU (List.contains_iff_mem.1 q)
  rw [le_nat] at this; rw [lt_nat] at hlt; omega
 -- of the numbers within a window below n only n stands at n's place
 have only:∀ m:UInt64,m≤n→n - m < w.sz→((m % w.sz).toNat=(n % w.sz).toNat ↔ m=n):=fun m h1 h2=>by
  constructor
  ·intro e
   by_cases c:m=n
   ·exact c
   ·have hlt:m < n:=by
     rw [le_nat] at h1
     rw [lt_nat]
     have:m.toNat ≠ n.toNat:=fun q=>c (eq_nat.2 q)
     omega
    exact absurd e (dist_pos hz hlt h2)
  ·intro e; rw [e]
 cases ha:w.any with
 | false =>
  have hL:L=[]:=by
   have:=h.any
   rw [ha] at this
   cases L with
   | nil=>rfl
   | cons a l=>simp at this
  subst hL
  rw [ha,cond_false] at hW
  refine key _ hW rfl rfl ?_ fun m h1 h2 => ?_
  ·rw [maxU_app]
   show n=if (0:UInt64) < n then n else 0
   split
   ·rfl
   ·rename_i c
    have:n.toNat=0:=by rw [lt_nat] at c; have:(0:UInt64).toNat=0:=rfl; omega
    exact eq_nat.2 (this.trans rfl)
  ·rw [bt_set (by rw [zL_len]; exact pos_lt h.ok n),bt_zero,Bool.or_false]
   show _=(false || _)
   rw [Bool.false_or,decide_eq_decide]
   exact only m h1 h2
 | true =>
  have hL:L ≠ []:=by
   have:=h.any
   rw [ha] at this
   cases L with
   | nil=>simp at this
   | cons a l=>simp
  have hh:=h.hi hL
  rw [ha,cond_true] at hW
  by_cases c1:w.hi < n
  ·rw [decide_eq_true c1,cond_true] at hW
   have hmx:maxU (L++[n])=n:=by rw [maxU_app,← hh,if_pos c1]
   by_cases c2:w.sz≤n - w.hi
   ·rw [decide_eq_true c2,cond_true] at hW
    refine key _ hW rfl rfl hmx.symm fun m h1 h2 => ?_
    show bt (setL n w.sz (zL w.L)) (m % w.sz).toNat=_
    have h1:m≤n:=h1
    have h2:n - m < w.sz:=h2
    rw [bt_set (by rw [zL_len]; exact pos_lt h.ok n),bt_zero,Bool.or_false]
    have hni:L.contains m=false:=hnotin m (by
     rw [← hh,lt_nat]
     rw [le_nat,sub_nat (UInt64.le_of_lt c1)] at c2
     rw [lt_nat,sub_nat h1] at h2
     rw [lt_nat] at c1
     rw [le_nat] at h1
     omega)
    rw [hni,Bool.false_or,decide_eq_decide]
    exact only m h1 h2
   ·rw [decide_eq_false c2,cond_false] at hW
    refine key _ hW rfl rfl hmx.symm fun m h1 h2 => ?_
    show bt (setL n w.sz (clrL n w.sz w.L (n - w.hi).toNat)) (m % w.sz).toNat=_
    have h1:m≤n:=h1
    have h2:n - m < w.sz:=h2
    rw [bt_set (by rw [clrL_len]; exact pos_lt h.ok n),bt_clrL h.ok]
    have hN:(n - w.hi).toNat=n.toNat - w.hi.toNat:=sub_nat (UInt64.le_of_lt c1)
    have hsi:∀ i,i < (n - w.hi).toNat→(n - UInt64.ofNat i).toNat=n.toNat - i:=fun i hi=>by
     have hb:=n.toNat_lt
     have e:(UInt64.ofNat i).toNat=i:=by rw [UInt64.toNat_ofNat']; exact Nat.mod_eq_of_lt (by omega)
     rw [sub_nat (by rw [le_nat,e]; omega),e]
    rw [lt_nat,sub_nat h1] at h2
    rw [lt_nat] at c1
    rw [le_nat] at h1
    by_cases e:m=n
    ·subst e; simp
    ·have hne2:¬ (m % w.sz).toNat=(n % w.sz).toNat:=fun q=>e ((only m (le_nat.2 h1) (by rw [lt_nat,sub_nat (le_nat.2 h1)]; exact h2)).1 q)
     have hmn:m.toNat ≠ n.toNat:=fun q=>e (eq_nat.2 q)
     rw [decide_eq_false hne2,decide_eq_false e,Bool.false_or,Bool.or_false]
     by_cases c3:m≤w.hi
     ·-- kept
      have c3':=le_nat.1 c3
      have hex:¬ ∃ i,i < (n - w.hi).toNat∧(m % w.sz).toNat=((n - UInt64.ofNat i) % w.sz).toNat:=by
       rintro ⟨i,hi,hq⟩
       have hi':=hsi i hi
       rw [pos_nat,pos_nat,hi'] at hq
       exact absurd hq (mod_ne hz (by omega) (by omega))
      rw [decide_eq_false hex,Bool.not_false,Bool.and_true,← bitAt_bt,h.bit hL m c3 (by rw [lt_nat,sub_nat c3]; omega)]
     ·have c3':w.hi.toNat < m.toNat:=by rw [le_nat] at c3; omega
      have hex:∃ i,i < (n - w.hi).toNat∧(m % w.sz).toNat=((n - UInt64.ofNat i) % w.sz).toNat:=by
       refine ⟨n.toNat - m.toNat,by omega,?_⟩
       rw [pos_nat,pos_nat,hsi _ (by omega)]
       congr 1
       omega
      rw [decide_eq_true hex,Bool.not_true,Bool.and_false,hnotin m (by rw [← hh,lt_nat]; exact c3')]
  ·rw [decide_eq_false c1,cond_false] at hW
   have hle:n≤w.hi:=UInt64.not_lt.1 c1
   have hmx:maxU (L++[n])=w.hi:=by
    rw [maxU_app,← hh,if_neg c1]
   refine key _ hW rfl rfl hmx.symm fun m h1 h2 => ?_
   show bt (setL n w.sz w.L) (m % w.sz).toNat=_
   have h1:m≤w.hi:=h1
   have h2:w.hi - m < w.sz:=h2
   rw [bt_set (pos_lt h.ok n),Bool.or_comm,← bitAt_bt,h.bit hL m h1 h2]
   congr 1
   rw [decide_eq_decide]
   -- n is within the window,for it may be
   have hn2:w.hi - n < w.sz:=by
    have:=hmw
    unfold mayW at this
    rw [ha,cond_true,decide_eq_false c1,cond_false] at this
    by_cases q:w.sz≤w.hi - n
    ·rw [decide_eq_true q,cond_true] at this; exact absurd this (by decide)
    ·exact UInt64.not_le.1 q
   rw [lt_nat,sub_nat h1] at h2
   rw [lt_nat,sub_nat hle] at hn2
   rw [le_nat] at h1 hle
   constructor
   ·intro q
    rw [pos_nat,pos_nat] at q
    by_cases e:m.toNat=n.toNat
    ·exact eq_nat.2 e
    ·rcases Nat.lt_or_ge m.toNat n.toNat with g | g
     ·exact absurd q (mod_ne hz g (by omega))
     ·exact absurd q.symm (mod_ne hz (show n.toNat < m.toNat by omega) (by omega))
   ·intro q; rw [q]
structure TRel (t:Tn) (c:Dc) (L:List UInt64):Prop where
 first:t.first=c.first
 sure:t.sure=c.sure
 made:t.made=c.made
 rc:t.rc=c.rc
 ct:t.ct=c.ct
 rk:t.rk=c.rk
 lf:t.lf=c.lf
 next:t.next=c.next
 w:WRel t.w c.size L
 gone:c.gone=true→t.send=[]
 keys:c.gone=false→t.send=c.send∧t.recv=c.recv∧t.send.length=32∧t.recv.length=32
theorem over_eq {t:Tn}{c:Dc}{L:List UInt64}(h:TRel t c L) (now:UInt64):overT now t=overD now c:=by
 unfold overT overD
 rw [h.made,h.lf]
 cases hg:c.gone with
 | true=>rw [h.gone hg]; rfl
 | false =>
  obtain ⟨_,_,h3,_⟩:=h.keys hg
  have:(t.send == [])=false:=by
   cases hs:t.send with
   | nil=>rw [hs] at h3; cases h3
   | cons a l=>rfl
  rw [this]
theorem over_gone {now:UInt64}{c:Dc}(h:c.gone=true):overD now c=true:=by unfold overD; rw [h]; rfl
theorem open_eq {t:Tn}{c:Dc}{L:List UInt64}(h:TRel t c L) (now n:UInt64) (x:List UInt8):openV now n x t=openDV now n x (c,L)∧openG now n x t=openDG now n x (c,L)∧TRel (openN now n x t) (openDN now n x (c,L)).1 (openDN now n x (c,L)).2:=by
 have ho:=over_eq h now
 have hm:=may_eq h.w n
 cases hg:c.gone with
 | true =>
  have hd:=over_gone (now:=now) hg
  have g1:openG now n x t=false:=by unfold openG; rw [ho,hd]; rfl
  have g2:openDG now n x (c,L)=false:=by unfold openDG; rw [hd]; rfl
  refine ⟨?_,by rw [g1,g2],?_⟩
  ·unfold openV openDV openE openDE
   rw [g1,g2,ho,hd]; simp only [cond_true,cond_false]
  ·unfold openN openDN; rw [g1,g2]; exact h
 | false =>
  obtain ⟨k1,k2,k3,k4⟩:=h.keys hg
  have g:openG now n x t=openDG now n x (c,L):=by unfold openG openDG; rw [ho,h.ct,hm,k2]
  refine ⟨?_,g,?_⟩
  ·unfold openV openDV openE openDE
   rw [g,ho,h.ct,hm,k2]
  ·unfold openN openDN
   rw [g]
   cases hq:openDG now n x (c,L) with
   | false=>exact h
   | true =>
    have h0:mayR n (c,L)=0:=by
     unfold openDG at hq
     simp only [Bool.and_eq_true,Bool.not_eq_true',bne_eq_false_iff_eq] at hq
     exact hq.2.2.1
    exact ⟨h.first,rfl,h.made,h.rc,h.ct,h.rk,h.lf,h.next,mark_rel h.w h0,h.gone,h.keys⟩
end Go.Proofs.Ytjdhndicgifnbaa.Tun
namespace Go.Proofs.Ytjdhndicgifnbaa.Tun
open Go Go.Eng Go.Proofs.Ytjdhndicgifnbaa
structure Stp where
 d:Int
 a:UInt8
 s:List UInt8
 wh:Int
 n:Int
 now:UInt64
def Stp.C (q:Stp):List AVal:=stC q.d q.a q.s q.wh q.n q.now
end Go.Proofs.Ytjdhndicgifnbaa.Tun
namespace Go.Proofs.Ytjdhndicgifnbaa.Tun
open Go Go.Eng Go.Proofs.Ytjdhndicgifnbaa
theorem snC_app (sk:SL) (m:UInt64) (z:List UInt8):(snC sk).take (sk.length * 2)++[.u64 m,.str z]=snC (sk++[(m,z)]):=by
 have hl:(snC sk).length=sk.length * 2:=by
  induction sk with
  | nil=>rfl
  | cons a l ih =>
   have:snC (a::l)=.u64 a.1::.str a.2::snC l:=rfl
   rw [this]
   simp only [List.length_cons,ih]
   omega
 rw [List.take_of_length_le (by omega)]
 unfold snC
 rw [List.flatMap_append]
 rfl
end Go.Proofs.Ytjdhndicgifnbaa.Tun
namespace Go.Eng
theorem nodupB_of:∀ {l:List Nat},l.Nodup→nodupB l=true
 | [],_=>rfl
 | n::l,h=>by
  rw [List.nodup_cons] at h
  have e:(l.all fun k => !Nat.beq n k)=true:=List.all_eq_true.2 fun k hk=>by
   cases hb:Nat.beq n k with
   | false=>rfl
   | true=>rw [Nat.eq_of_beq_eq_true hb] at h; exact absurd hk h.1
  rw [nodupB,e,cond_true]
  exact nodupB_of h.2
theorem iter_inv {P:Program}{cs:CS}{nt nn F bs:Nat}{b:Code}(s0:SA) (J:Nat→SA→Prop) (N:Nat) (h0:J 0 s0) (hstep:∀ j s,j < N→J j s→∃ s',roundA (evC P cs nt nn F bs b) (headA P bs s0) s=some s'∧J (j+1) s') :
  ∃ I:Nat→SA,I 0=s0∧J N (I N)∧∀ j,j < N→roundA (evC P cs nt nn F bs b) (headA P bs (I 0)) (I j)=some (I (j+1)):=by
 have key:∀ n,n≤N→∃ I:Nat→SA,I 0=s0∧J n (I n)∧∀ j,j < n→roundA (evC P cs nt nn F bs b) (headA P bs s0) (I j)=some (I (j+1)):=by
  intro n
  induction n with
  | zero=>intro _; exact ⟨fun _=>s0,rfl,h0,fun j hj=>by omega⟩
  | succ n ih =>
   intro hn
   obtain ⟨I,h1,h2,h3⟩:=ih (by omega)
   obtain ⟨s',h4,h5⟩:=hstep n (I n) (by omega) h2
   refine ⟨fun m=>if m≤n then I m else s',by simp [h1],by simp only; rw [if_neg (by omega)]; exact h5,fun j hj => ?_⟩
   by_cases c:j < n
   ·simp only [show j≤n by omega,show j+1≤n by omega,if_true]
    exact h3 j c
   ·have:j=n:=by omega
    subst this
    simp only [Nat.le_refl,if_true,show ¬ j+1≤j by omega,if_false]
    exact h4
 obtain ⟨I,h1,h2,h3⟩:=key N (Nat.le_refl _)
 exact ⟨I,h1,h2,by rw [h1]; exact h3⟩
theorem aget_app {α:Type}:∀ (A B:List (Nat × α)) (n:Nat),aget (A++B) n=match aget A n with | some v=>some v | none=>aget B n
 | [],B,n=>rfl
 | (k,v)::A,B,n=>by
  show aget ((k,v)::(A++B)) n=_
  rcases beq_cases k n with ⟨he,hb⟩ | ⟨he,hb⟩
  ·simp only [aget,hb,cond_true]
  ·simp only [aget,hb,cond_false]
   exact aget_app A B n
theorem reshapeH_at (H:HL) (n:Nat):∀ l:HL,aget (reshapeH l H) n=match aget l n with | some _=>aget H n | none=>none
 | []=>rfl
 | (k,v)::l=>by
  have ih:=reshapeH_at H n l
  unfold reshapeH
  rcases beq_cases k n with ⟨he,hb⟩ | ⟨he,hb⟩
  ·subst he
   cases hk:aget H k with
   | some o=>simp only [aget,hb,cond_true]
   | none =>
    simp only [aget,hb,cond_true]
    rw [ih]
    cases aget l k <;> first | rfl | exact hk
  ·cases hk:aget H k with
   | some o=>simp only [aget,hb,cond_false]; exact ih
   | none=>simp only [aget,hb,cond_false]; exact ih
theorem extraH_at (l:HL) (m n:Nat):∀ H:HL,aget (extraH l m H) n=match aget l n with | some _=>none | none=>if n < m then aget H n else none
 | []=>by cases aget l n <;> simp [extraH,aget]
 | (k,o)::H=>by
  have ih:=extraH_at l m n H
  unfold extraH
  rcases beq_cases k n with ⟨he,hb⟩ | ⟨he,hb⟩
  ·subst he
   cases hk:aget l k with
   | some x=>simp only; rw [ih,hk]
   | none =>
    simp only
    cases hm:Nat.ble (k+1) m with
    | true =>
     have:=Nat.le_of_ble_eq_true hm
     simp only [cond_true,aget,hb]
     rw [if_pos (by omega)]
    | false =>
     have hn:¬ k < m:=fun h=>by rw [Nat.ble_eq_true_of_le h] at hm; cases hm
     simp only [cond_false]
     rw [ih,hk,if_neg hn]
     simp only [if_neg hn]
  ·have e0:aget ((k,o)::H) n=aget H n:=by simp only [aget,hb,cond_false]
   rw [e0]
   cases hk:aget l k with
   | some x=>simp only; exact ih
   | none =>
    simp only
    cases hm:Nat.ble (k+1) m with
    | true=>simp only [cond_true,aget,hb,cond_false]; exact ih
    | false=>simp only [cond_false]; exact ih
end Go.Eng
namespace Go.Proofs.Ytjdhndicgifnbaa.Tun
open Go Go.Eng Go.Proofs.Ytjdhndicgifnbaa
structure Ns where
 t:Nat
 w:Nat
 b:Nat
 a:Nat
 r:Nat
 m:Nat
 x:Nat
structure En where
 t:Tn
 c:Dc
 L:List UInt64
 s:SL
def own (N:Ns) (E:En):List Nat:=[N.t,N.w,N.b,N.a,N.r]++(oneN N.x E.s++oneN N.m E.L)
section
variable {k:Bool}{p:Nat}{N N':Ns}{E E':En}{H:HL}{fr:Nat}
end
end Go.Proofs.Ytjdhndicgifnbaa.Tun
namespace Go.Eng
open Go Go.WideShapes Go.ChangeShapes
theorem post_of_grew {H:Type}{enc:TypeId × Value→H}{P:Program}{f:Func}{s:ChangeSpec}{apart fresh handsOn again:Bool}{W W':World}{args:Array Value}{v:Value}{ds gs:List (DataW H)}{before pa pv:List MemPlace}
  (hW:DataW.Whole enc P f.params.toList s.vars apart W args.toList ds gs before)
  (hres:∀ (b:Nat) (sp:Nat→Bool) (hd:Bool),DataW.TrodAll enc P W' b sp hd f.resultTypes.toList (v.resultList f.resultTypes.size) (s.fn H (ds++gs)).results [])
  (hargs:∀ sp:Nat→Bool,(∀ p ∈ before,sp p.block=true)→DataW.TrodAll enc P W' 0 sp true f.params.toList args.toList (s.fn H (ds++gs)).args pa)
  (hvars:∀ sp:Nat→Bool,(∀ p ∈ before,sp p.block=true)→DataW.TrodVars enc P W' sp s.vars (s.fn H (ds++gs)).vars pv)
  (hps:before=pa++pv) (hg:Grew W W')
  (hok:∀ (j:Nat) (t:TypeId) (r:Value),f.resultTypes[j]? = some t→(v.resultList f.resultTypes.size)[j]? = some r→Value.okWide P W' .any 0 t r) :
  s.post enc P f apart fresh handsOn again W args v W':=by
 have hlt:=hW.lt
 have hold:∀ p ∈ before,(fun b=>decide (b < W.heap.size)) p.block=true:=fun p hp=>by simpa using hlt p hp
 refine ⟨ds,gs,before,[],pa,pv,hW,hres _ _ _,hargs _ hold,hvars _ hold,World.keptBut_mono (fun p hp=>hp.elim) hg.1,fun _ => ?_⟩
 obtain ⟨_,_,_,_,_,hz,hn⟩:=hW
 have hmem:∀ p,p ∈ ([]++pa)++pv→p ∈ before:=fun p hp=>by rw [hps]; simpa using hp
 refine ⟨hok,_,_,([]++pa)++pv,⟨[]++pa,pv,trodAll_append (hargs _ (fun _ _=>rfl)) (hres _ _ _),hvars _ (fun _ _=>rfl),rfl,fun b off hp => ?_,fun ha => ?_⟩,fun p hp _ => ?_⟩
 ·have hb:=hmem _ hp
  rw [hg.2.1 ⟨b,off,none⟩ (hlt _ hb)]
  exact hz b off hb
 ·have:=hn ha
  rw [hps] at this
  simpa using this
 ·exact hmem _ hp
theorem vr_str (σ:Sig) (a:ByteArray):VR σ (.str a.data.toList) (.string a):=by
 have:=VR.str (σ:=σ) a.data.toList
 rwa [Array.toArray_toList] at this
theorem wf_le {k:IntKind}{n:Int}(h:(Lit.int k n).wf=true):k.min≤n∧n≤k.max:=by
 simpa only [Lit.wf,Bool.and_eq_true,decide_eq_true_eq] using h
theorem vr_u8 {a:Int}(h:(Lit.int .u8 a).wf=true):∃ x:UInt8,∀ σ,VR σ (.u8 x) (.int .u8 a):=by
 have h':=wf_le h
 have h1:(0:Int)≤a:=h'.1
 have h2:a≤255:=h'.2
 refine ⟨UInt8.ofNat a.toNat,fun σ => ?_⟩
 have e:((UInt8.ofNat a.toNat).toNat:Int)=a:=by rw [UInt8.toNat_ofNat_of_lt' (show a.toNat < 256 by omega)]; omega
 have:=VR.u8 (σ:=σ) (UInt8.ofNat a.toNat)
 rwa [e] at this
theorem vr_u64 {a:Int}(h:(Lit.int .u64 a).wf=true):∃ x:UInt64,∀ σ,VR σ (.u64 x) (.int .u64 a):=by
 have h':=wf_le h
 have h1:(0:Int)≤a:=h'.1
 have h2:a≤18446744073709551615:=h'.2
 refine ⟨UInt64.ofNat a.toNat,fun σ => ?_⟩
 have e:((UInt64.ofNat a.toNat).toNat:Int)=a:=by rw [UInt64.toNat_ofNat_of_lt' (show a.toNat < 18446744073709551616 by omega)]; omega
 have:=VR.u64 (σ:=σ) (UInt64.ofNat a.toNat)
 rwa [e] at this
end Go.Eng
namespace Go.Eng
open Go Go.WideShapes Go.ChangeShapes
inductive Kd where
 | bool
 | int (k:IntKind)
 | str
def HasK:Kd→Value→Prop
 | .bool,v => ∃ b,v=.bool b
 | .int k,v => ∃ n,v=.int k n∧(Lit.int k n).wf=true
 | .str,v => ∃ s:ByteArray,v=.string s∧s.size≤maxLen
def KindsP:List Kd→List Value→Prop
 | [],[]=>True
 | k::ks,v::vs=>HasK k v∧KindsP ks vs
 | _,_=>False
theorem KindsP.append:∀ {ks ks':List Kd}{vs vs':List Value},KindsP ks vs→KindsP ks' vs'→KindsP (ks++ks') (vs++vs')
 | [],_,[],_,_,h=>h
 | k::ks,_,v::vs,_,h,h'=>⟨h.1,h.2.append h'⟩
def kindsFs (rec:TypeId→Option (List Kd)) (P:Program):List Field→Nat→Option (List Kd)
 | [],_=>some []
 | f::l,a=>match rec f.type with
  | some ks=>cond (Nat.beq f.offset a && Nat.beq ks.length (P.cellsOf f.type)) (match kindsFs rec P l (a+ks.length) with
   | some r=>some (ks++r)
   | none=>none) none
  | none=>none
def kindsOf (P:Program):Nat→TypeId→Option (List Kd)
 | 0,_=>none
 | n+1,t=>match P.underlying t with
  | some .bool=>some [.bool]
  | some (.int k)=>some [.int k]
  | some .string=>some [.str]
  | some (.struct fs)=>match kindsFs (kindsOf P n) P fs.toList 0 with
   | some ks=>cond (Nat.beq ks.length (P.cellsOf t)) (some ks) none
   | none=>none
  | _=>none
section
variable {H:Type}{enc:TypeId × Value→H}{P:Program}{w:World}{base:Nat}{spare:Nat→Bool}{held:Bool}
theorem kindsFs_ok {rec:TypeId→Option (List Kd)}{m:Nat}{cs:List Value}(hr:∀ t ks cs' x,rec t=some ks→DataW.trod enc P w base spare held m t cs'=some x→KindsP ks cs') :
  ∀ (l:List Field) (a:Nat) (ks:List Kd),kindsFs rec P l a=some ks→a+ks.length≤cs.length→(∀ f ∈ l,∃ x,DataW.trod enc P w base spare held m f.type ((cs.drop f.offset).take (P.cellsOf f.type))=some x)→KindsP ks ((cs.drop a).take ks.length)
 | [],a,ks,h,_,_=>by
  cases h
  rw [List.length_nil,List.take_zero]; trivial
 | f::l,a,ks,h,hle,hx=>by
  unfold kindsFs at h
  split at h
  ·rename_i k1 hk1
   cases hc:(Nat.beq f.offset a && Nat.beq k1.length (P.cellsOf f.type)) with
   | false=>rw [hc] at h; cases h
   | true =>
    rw [hc,cond_true] at h
    simp only [Bool.and_eq_true] at hc
    have e1:=Nat.eq_of_beq_eq_true hc.1
    have e2:=Nat.eq_of_beq_eq_true hc.2
    split at h
    ·rename_i r hr2
     cases h
     obtain ⟨x,hx1⟩:=hx f (List.mem_cons_self ..)
     have h1:=hr _ _ _ _ hk1 hx1
     rw [e1,← e2] at h1
     rw [List.length_append] at hle
     have h2:=kindsFs_ok hr l (a+k1.length) r hr2 (by omega) (fun g hg=>hx g (List.mem_cons_of_mem _ hg))
     have:=h1.append h2
     rw [List.length_append,List.take_add]
     rw [List.drop_drop]
     exact this
    ·cases h
  ·cases h
theorem kindsOf_ok:∀ (n:Nat) (t:TypeId) (ks:List Kd),kindsOf P n t=some ks→∀ (m:Nat) (cs:List Value) (x:DataW H × List MemPlace),DataW.trod enc P w base spare held m t cs=some x→KindsP ks cs
 | 0,_,_,h,_,_,_,_=>by cases h
 | n+1,t,ks,h,m,cs,x,hx=>by
  unfold kindsOf at h
  split at h
  ·rename_i ht
   cases h
   obtain ⟨b,rfl,_⟩:=DataW.trod_bool ht hx
   exact ⟨⟨b,rfl⟩,trivial⟩
  ·rename_i k ht
   cases h
   obtain ⟨z,rfl,_,hz⟩:=DataW.trod_int ht hx
   exact ⟨⟨z,rfl,hz⟩,trivial⟩
  ·rename_i ht
   cases h
   obtain ⟨s,rfl,_,hs⟩:=DataW.trod_string ht hx
   exact ⟨⟨s,rfl,hs⟩,trivial⟩
  ·rename_i fs ht
   split at h
   ·rename_i ks' hk
    cases hc:Nat.beq ks'.length (P.cellsOf t) with
    | false=>rw [hc] at h; cases h
    | true =>
     rw [hc] at h
     cases h
     have e:=Nat.eq_of_beq_eq_true hc
     obtain ⟨xs,m',rfl,_,hl,hxl,hf⟩:=DataW.trod_struct ht hx
     have:=kindsFs_ok (cs:=cs) (m:=m') (fun t ks cs' x h1 h2=>kindsOf_ok n t ks h1 m' cs' x h2) fs.toList 0 _ hk (by omega) (fun f hmem=>by
      obtain ⟨i,hi⟩:=List.getElem?_of_mem hmem
      have hi2:fs[i]? = some f:=by simpa using hi
      have:=hf i f hi2
      have hlt:i < xs.length:=by rw [hxl]; exact (Array.getElem?_eq_some_iff.1 hi2).1
      exact ⟨xs[i],by rw [this]; simp [hlt]⟩)
     rw [List.drop_zero,e,← hl,List.take_length] at this
     exact this
   ·cases h
  ·cases h
end
structure RowAt (W:World) (ks:List Kd) (b o len cap:Nat) (c:Array Value) (t:TypeId) (fz:Nat × Nat):Prop where
 blk:W.heap[b]? = some (.cells c t fz)
 fits:o+cap * ks.length≤c.size
 el:∀ i,i < len→∃ cs',cs'.length=ks.length∧(∀ j,j < ks.length→c[o+i * ks.length+j]? = cs'[j]?)∧KindsP ks cs'
theorem cellAt29 {W:World}{a:Addr}{v:Value}(h:W.cell? a=some v):a.spot=none∧∃ c t fz,W.heap[a.block]? = some (.cells c t fz)∧c[a.off]? = some v:=by
 unfold World.cell? at h
 split at h
 ·rename_i c t fz hb
  cases hs:a.spot with
  | none=>rw [hs] at h; exact ⟨rfl,c,t,fz,hb,by simpa using h⟩
  | some s=>rw [hs] at h; simp at h
 ·cases h
theorem add_off (a:Addr) (i:Nat):(a.add i).block=a.block∧(a.add i).off=a.off+i∧(a.spot=none→(a.add i).spot=none)∧((a.add i).spot=none→i=0→a.spot=none):=by
 unfold Addr.add
 by_cases h:i=0
 ·subst h; simp
 ·simp [h]
theorem open_flat {H:Type}{enc:TypeId × Value→H}{P:Program}{W:World}{t e:TypeId}(ht:P.underlying t=some (.slice e)){n:Nat}{ks:List Kd}(hk:kindsOf P n e=some ks) (hc:P.cellsOf e=ks.length) (hpos:0 < ks.length){v:Value}{d:DataW H}{p:List MemPlace}{b0:Nat}
  (hval:Value.okWide P W .any b0 t v) (h:DataW.Trod enc P W 0 (fun _=>true) true t v d p) :
  v=.slice none 0 0 ∨ ∃ b o len cap,v=.slice (some ⟨b,o,none⟩) len cap∧len≤cap∧cap≤maxLen∧(0 < len→∃ c t' fz,RowAt W ks b o len cap c t' fz):=by
 obtain ⟨fuel,hf⟩:=h
 have hv:v.cells.toList=[v] ∨ ∃ cs,v=.agg cs:=by
  cases v <;> first | exact .inl rfl | exact .inr ⟨_,rfl⟩
 unfold Value.okWide at hval
 rw [ht] at hval
 unfold Cell.okWide at hval
 rw [ht] at hval
 rcases hv with hv | ⟨cs,rfl⟩
 ·rw [hv] at hf
  rcases Go.Deep.open_slice ht hf with ⟨h1,_⟩ | ⟨a,len,cap,m,n',D,Pl,h1,hb,hl,hm,hmm,_,hel⟩
  ·left; simpa using h1
  ·right
   simp only [List.cons.injEq,and_true] at h1
   subst h1
   unfold Cell.ok at hval
   rw [ht] at hval
   have hsp:a.spot=none:=hval.2.2.2.1
   obtain ⟨b,o,sp⟩:=a
   cases hsp
   refine ⟨b,o,len,cap,rfl,hl,hm,fun hlen => ?_⟩
   simp only [if_true] at hmm
   subst hmm
   have cellAt:∀ i,i < m→∃ cs',cs'.length=ks.length∧(∀ j,j < ks.length→W.cell? ⟨b,o+i * ks.length+j,none⟩=cs'[j]?)∧KindsP ks cs':=fun i hi=>by
    obtain ⟨cs',g1,g2⟩:=hel i hi
    obtain ⟨_,g3,g4⟩:=World.cells?_some g1
    rw [hc] at g3 g4
    refine ⟨cs',g3,fun j hj => ?_,kindsOf_ok n e ks hk _ _ _ g2⟩
    rw [← g4 j hj]
    congr 1
    unfold Addr.add
    by_cases h1:i * ks.length=0 <;> by_cases h2:j=0 <;> simp [h1,h2]
   have first:∃ c t' fz,W.heap[b]? = some (.cells c t' fz):=by
    obtain ⟨cs',g1,g2,_⟩:=cellAt 0 (by omega)
    have:(cs'[0]?).isSome=true:=by simp [g1,hpos]
    rw [← g2 0 hpos] at this
    obtain ⟨v,hv⟩:=Option.isSome_iff_exists.1 this
    obtain ⟨_,c,t',fz,h3,_⟩:=cellAt29 hv
    exact ⟨c,t',fz,h3⟩
   obtain ⟨c,t',fz,hblk⟩:=first
   have cellIn:∀ k v,W.cell? ⟨b,k,none⟩=some v→c[k]? = some v:=fun k v hv=>by
    obtain ⟨_,c2,t2,fz2,h3,h4⟩:=cellAt29 hv
    rw [hblk] at h3
    cases h3
    exact h4
   refine ⟨c,t',fz,hblk,?_,fun i hi => ?_⟩
   ·obtain ⟨cs',g1,g2,_⟩:=cellAt (m - 1) (by omega)
    have:(cs'[ks.length - 1]?).isSome=true:=by simp [g1]; omega
    rw [← g2 (ks.length - 1) (by omega)] at this
    obtain ⟨v,hv⟩:=Option.isSome_iff_exists.1 this
    have:=(Array.getElem?_eq_some_iff.1 (cellIn _ _ hv)).1
    have e1:m * ks.length=(m - 1) * ks.length+ks.length:=by
     rw [← Nat.succ_mul]; congr 1; omega
    omega
   ·obtain ⟨cs',g1,g2,g3⟩:=cellAt i (by omega)
    refine ⟨cs',g1,fun j hj => ?_,g3⟩
    have hj2:j < cs'.length:=by omega
    have:=g2 j hj
    rw [List.getElem?_eq_getElem hj2] at this ⊢
    exact cellIn _ _ this
 ·simp [Cell.ok,ht] at hval
theorem row_obj {W:World}{ks:List Kd}{b o len cap:Nat}{c:Array Value}{t:TypeId}{fz:Nat × Nat}(h:RowAt W ks b o len cap c t fz){E:Type} [Inhabited E] {cellsE:E→List AVal}(hE:∀ x,(cellsE x).length=ks.length)
  (hK:∀ cs',KindsP ks cs'→∃ x:E,∀ (j:Nat) u v,(cellsE x)[j]? = some u→cs'[j]? = some v→∀ σ,VR σ u v) :
  ∃ l:List E,l.length=len∧∀ σ,ORel σ W ⟨b,o,c.size,none⟩ (.cells true (l.flatMap cellsE)):=by
 have h1:∀ i,i < len→∃ x:E,∀ j,j < ks.length→∃ v,c[o+i * ks.length+j]? = some v∧∀ u,(cellsE x)[j]? = some u→∀ σ,VR σ u v:=fun i hi=>by
  obtain ⟨cs',g1,g2,g3⟩:=h.el i hi
  obtain ⟨x,hx⟩:=hK cs' g3
  refine ⟨x,fun j hj => ?_⟩
  have hj2:j < cs'.length:=by omega
  exact ⟨cs'[j],by rw [g2 j hj]; exact List.getElem?_eq_getElem hj2,fun u hu=>hx j u _ hu (List.getElem?_eq_getElem hj2)⟩
 obtain ⟨f,hf⟩:=Go.Deep.choose_lt h1
 refine ⟨(List.range len).map f,by simp,fun σ=>⟨c,t,fz,h.blk,rfl,?_,(fun h=>by cases h),fun T h=>by cases h⟩⟩
 have key:∀ (n:Nat),n≤len→∀ (i:Nat) v,(((List.range n).map f).flatMap cellsE)[i]? = some v→∃ v',c[o+i]? = some v'∧VR σ v v':=by
  intro n
  induction n with
  | zero=>intro _ i v hi; simp at hi
  | succ n ih =>
   intro hn i v hi
   have hlen:(((List.range n).map f).flatMap cellsE).length=n * ks.length:=by
    have:∀ (l:List E),(l.flatMap cellsE).length=l.length * ks.length:=fun l=>by
     induction l with
     | nil=>simp
     | cons x l ih=>rw [List.flatMap_cons,List.length_append,ih,hE,List.length_cons,Nat.succ_mul]; omega
    rw [this]; simp
   rw [List.range_succ,List.map_append,List.flatMap_append,List.getElem?_append,hlen] at hi
   split at hi
   ·exact ih (by omega) i v hi
   ·rename_i hge
    simp only [List.map_cons,List.map_nil,List.flatMap_cons,List.flatMap_nil,List.append_nil] at hi
    have hj:i - n * ks.length < ks.length:=by
     have:=(List.getElem?_eq_some_iff.1 hi).1
     rwa [hE (f n)] at this
    obtain ⟨v',g1,g2⟩:=hf n (by omega) _ hj
    refine ⟨v',?_,g2 v hi σ⟩
    rw [show o+i=o+n * ks.length+(i - n * ks.length) by omega]
    exact g1
 exact key len (Nat.le_refl _)
theorem KindsP.cons {k:Kd}{ks:List Kd}{cs:List Value}(h:KindsP (k::ks) cs):∃ v vs,cs=v::vs∧HasK k v∧KindsP ks vs:=by
 cases cs with
 | nil=>exact h.elim
 | cons v vs=>exact ⟨v,vs,rfl,h.1,h.2⟩
theorem KindsP.none {cs:List Value}(h:KindsP [] cs):cs=[]:=by
 cases cs with
 | nil=>rfl
 | cons v vs=>exact h.elim
inductive VRs:List AVal→List Value→Prop where
 | nil:VRs [] []
 | cons {u v us vs} (h:∀ σ,VR σ u v) (t:VRs us vs):VRs (u::us) (v::vs)
theorem VRs.get {us:List AVal}{vs:List Value}(h:VRs us vs):∀ (j:Nat) u v,us[j]? = some u→vs[j]? = some v→∀ σ,VR σ u v:=by
 induction h with
 | nil=>intro j u v hj; simp at hj
 | cons h t ih =>
  intro j u v h1 h2 σ
  cases j with
  | zero=>simp at h1 h2; subst h1 h2; exact h σ
  | succ j=>exact ih j u v (by simpa using h1) (by simpa using h2) σ
def Still (W w':World):Prop:=∀ b,b < W.heap.size→w'.heap[b]? = W.heap[b]?
theorem hrel_ro {σ:Sig}{H:Heap}{w:World}(h:∀ n o,H n=some o→o.ro=true∧∃ p,σ n=some p∧ORel σ w p o):HRel σ H w:=
 ⟨fun n o hn=>(h n o hn).2,fun n m o o' p q hn hm _ _ _=>.inr ⟨(h n o hn).1,(h m o' hm).1⟩⟩
theorem law_calls_H {P:Program}{cs:CS}(hcs:CSOk P cs) (hm:P.follows .mixedOrders=true){nn F:Nat}{f:FuncId}{args:List AVal}{H:HL}{fr:Nat}(h:(run1 P cs nn F f args H fr).map (·.1)=some (.bool true))
  {σ:Sig} {args':Array Value} {w:World} (hro:∀ n o,aget H n=some o→o.ro=true∧∃ p,σ n=some p∧ORel σ w p o) (hg:GRel P σ) (hfr:Fresh σ fr) (hl:LR σ args args') :
  Calls P f args' w fun r w'=>r=.returned (.bool true)∧Grew w w'∧Still w w':=by
 obtain ⟨r,hr,hrv⟩:=optMap h
 obtain ⟨v,H',fr'⟩:=r
 obtain ⟨fn,c,hf,hb,hrun⟩:=run1_some hr
 refine (runF_ok hcs hm hf hb hrun hl (hrel_ro hro) hg hfr).mono fun r w' ⟨σ',v',h1,h2,_,h4,_⟩ => ?_
 have hv:v=.bool true:=hrv
 subst hv
 cases h2
 have hs:Still w w':=fun b hb=>(h4.old b hb (by
  rintro ⟨n,o,p,g1,g2,_⟩
  rw [(hro n o g1).1] at g2
  cases g2)).1
 exact ⟨h1,grew_of h4.os h4.output h4.size hs,hs⟩
theorem args_stay {H:Type}{enc:TypeId × Value→H}{P:Program}(hl:laidOutB P=true){W W':World}(hs:Still W W') :
  ∀ {ts:List TypeId} {vs:List Value} {ds:List (DataW H)} {ps:List MemPlace},(ts.all fun t=>P.readableRec t && decide (t < P.types.size))=true→DataW.TrodAll enc P W 0 (fun _=>true) true ts vs ds ps→(∀ p ∈ ps,p.block < W.heap.size) →
  ∀ sp:Nat→Bool,(∀ p ∈ ps,sp p.block=true)→DataW.TrodAll enc P W' 0 sp true ts vs ds ps
 | [],[],[],_,_,h,_,_,_=>h
 | t::ts,v::vs,d::ds,ps,ht,⟨p,q,h1,h2,e⟩,hlt,sp,hsp=>by
  simp only [List.all_cons,Bool.and_eq_true,decide_eq_true_eq] at ht
  subst e
  have same:∀ x:MemPlace,x.block < W.heap.size→W.sameAt W' x:=fun x hx=>by
   cases x with
   | cell b off =>
    show W'.cell? _=W.cell? _
    unfold World.cell?
    rw [show W'.heap[(⟨b,off,none⟩:Addr).block]? = W.heap[b]? from hs b hx]
   | map b=>exact hs b hx
  exact ⟨p,q,Go.WideElems.Trod_stays hl ht.1.1 ht.1.2 h1 (fun x hx=>same x (hlt x (List.mem_append_left _ hx))) (fun x hx=>hsp x (List.mem_append_left _ hx)),
   args_stay hl hs (by simpa using ht.2) h2 (fun x hx=>hlt x (List.mem_append_right _ hx)) sp (fun x hx=>hsp x (List.mem_append_right _ hx)),rfl⟩
theorem sig0_fresh (P:Program):Fresh (sig0 P) P.globals.size:=fun n hn=>by
 unfold sig0
 rw [if_neg (by omega)]
theorem fresh_set {σ:Sig}{n:Nat}(h:Fresh σ n) (p:Place):Fresh (σ.set n p) (n+1):=fun m hm=>by
 rw [Sig.set_other σ p (by omega)]
 exact h m (by omega)
theorem grel_set {P:Program}{σ:Sig}(h:GRel P σ){n:Nat}(hn:P.globals.size≤n) (p:Place):GRel P (σ.set n p):=fun g hg=>by
 rw [Sig.set_other σ p (by omega)]
 exact h g hg
end Go.Eng
namespace Go.Proofs.Ytjdhndicgifnbaa.Tun
open Go Go.Eng Go.Proofs.Ytjdhndicgifnbaa Go.Proofs.Ytjdhndicgifnbaa.Pol
def acc (l:List Stp):Nat→Int
 | 0=>0
 | i+1=>IntKind.wrap .i64 (IntKind.wrap .i64 (acc l i+8)+((l.getD i ⟨0,0,[],0,0,0⟩).s.length:Int))
theorem acc_end (l:List Stp):∃ N,N≤l.length∧(∀ i,i < N→acc l i≤4096)∧(N=l.length ∨ 4096 < acc l N):=by
 have key:∀ m,(∀ i,i < m→acc l i≤4096) ∨ ∃ N,N < m∧(∀ i,i < N→acc l i≤4096)∧4096 < acc l N:=by
  intro m
  induction m with
  | zero=>exact .inl fun i h=>by omega
  | succ m ih =>
   rcases ih with h | ⟨N,h1,h2,h3⟩
   ·by_cases c:acc l m≤4096
    ·exact .inl fun i hi=>by
      by_cases e:i=m
      ·rw [e]; exact c
      ·exact h i (by omega)
    ·exact .inr ⟨m,by omega,h,by omega⟩
   ·exact .inr ⟨N,by omega,h2,h3⟩
 rcases key l.length with h | ⟨N,h1,h2,h3⟩
 ·exact ⟨l.length,Nat.le_refl _,h,.inl rfl⟩
 ·exact ⟨N,by omega,h2,.inr h3⟩
section
variable (ro:Bool) (l:List Stp) (x y:Int) (i j F:Nat) (s:List UInt8)
end
theorem eqI2 {i n:Nat}(h:i < n) (hn:n≤9223372036854775807):eqS (.int .i64 (IntKind.wrap .i64 ((i:Int)+1))) (.int .i64 ((i+1:Nat):Int))=true:=by
 rw [wrapI _ (by omega) (by omega)]
 simp [eqS]
end Go.Proofs.Ytjdhndicgifnbaa.Tun
namespace Go.Proofs.Ytjdhndicgifnbaa.Tun
open Go Go.Eng Go.Proofs.Ytjdhndicgifnbaa Go.Proofs.Ytjdhndicgifnbaa.Pol
noncomputable def ld (n off:Nat) (v:AVal) (b:Nat) (H:HL):Bool:=decP (EffA.app (.read n fun ob=>match ob with | .cells ro c=>c[off]?) b H=some (v,H))
theorem ld_of {n off b:Nat}{v:AVal}{H:HL}{ro:Bool}{c:List AVal}(h:aget H n=some (.cells ro c)) (hc:c[off]? = some v):ld n off v b H=true:=decP_of (by simp only [EffA.app,h,hc])
theorem mOb_of {e:EffA}{b:Nat}{H H':HL}{v:AVal}(h:e.app b H=some (v,H')):mOb e b H v H'=true:=decP_of h
section
variable (q:Stp) (o1 o2 o3:Bool) (v4:UInt64) (f0 n:Nat) (g1 g2 g3 g4 g5:List UInt8) (now rc ct rk lf:UInt64) (sz:Int) (X:List AVal) (j:Nat) (H:HL)
end
end Go.Proofs.Ytjdhndicgifnbaa.Tun
namespace Go.Proofs.Ytjdhndicgifnbaa.Tun
open Go Go.Eng Go.Proofs.Ytjdhndicgifnbaa
theorem ltL_mem {m:Nat}:∀ {c:List AVal},ltL m c=true→∀ v,v ∈ c→ltS m v=true
 | [],_,v,hv=>by simp at hv
 | x::c,h,v,hv=>by
  simp only [ltL] at h
  cases hx:ltS m x <;> rw [hx] at h <;> simp only [cond_true,cond_false] at h
  ·cases h
  ·rcases List.mem_cons.1 hv with rfl | hv
   ·exact hx
   ·exact ltL_mem h v hv
end Go.Proofs.Ytjdhndicgifnbaa.Tun
namespace Go.Proofs.Ytjdhndicgifnbaa.Tun
open Go Go.Eng Go.Proofs.Ytjdhndicgifnbaa Go.Proofs.Ytjdhndicgifnbaa.Pol
def bT (a:Nat) (t:Tn):HL:=[(a,.cells false (cT (a+1) (a+3) t)),(a+1,.cells false (cW (a+2) t.w)),(a+2,.cells false (t.w.L.map .u64)),(a+3,.cells false [.u64 t.made])]
def tT (a:Nat) (t:Tn):AVal:=.tup [.ptr a 0,.agg (cT (a+1) (a+3) t),.ptr (a+1) 0,.agg (cW (a+2) t.w),.ptr (a+2) 0,.agg (t.w.L.map .u64),.ptr (a+3) 0,.agg [.u64 t.made]]
section
variable (R:List AVal) (n:Nat) (g1 g2 g3 g4 g5:List UInt8) (now rc ct rk lf:UInt64) (sz:Int) (f0:Nat) (H:HL)
def hB:HL:=[(0,.cells true R),(1,.cells false [.str g1,.str g2,.str g3,.str g4,.str g5]),(9,.cells false [.u64 rc,.u64 ct,.u64 rk,.u64 lf,.int .i64 sz])]
end
section
variable {R:List AVal}{n:Nat}{g1 g2 g3 g4 g5:List UInt8}{now rc ct rk lf:UInt64}{sz:Int}
theorem new_rel {first:Bool}(h:newG g3 g4 rc ct rk lf sz=true):TRel (newT g3 g4 first now rc ct rk lf sz) (newD g3 g4 first now rc ct rk lf sz) []:=by
 unfold newG mayD at h
 simp only [Bool.and_eq_true,Bool.not_eq_true',bne_eq_false_iff_eq,decide_eq_true_eq] at h
 obtain ⟨h1,h2,h3,h4,h5⟩:=h
 refine ⟨rfl,rfl,rfl,rfl,rfl,rfl,rfl,rfl,⟨?_,rfl,rfl,fun h=>absurd rfl h,fun h=>absurd rfl h⟩,(by intro h; cases h),fun _=>⟨rfl,rfl,?_,?_⟩⟩
 ·obtain ⟨m,rfl⟩:∃ m:Nat,sz=m:=⟨sz.toNat,by omega⟩
  have e:(UInt64.ofInt (m:Int)).toNat=m:=by
   rw [ofInt_nat,UInt64.toNat_ofNat']
   omega
  unfold okW
  show (!(UInt64.ofInt (m:Int) == 0) && decide ((UInt64.ofInt (m:Int)).toNat≤64 * (List.replicate (((m:Int).toNat+63) / 64) (0:UInt64)).length))=true
  rw [e,List.length_replicate,Bool.and_eq_true]
  constructor
  ·rw [Bool.not_eq_true',beq_eq_false_iff_ne]
   intro e0
   rw [e0] at e
   have:(0:UInt64).toNat=0:=rfl
   omega
  ·refine decide_eq_true ?_
   rw [Int.toNat_natCast]
   omega
 ·show g3.length=32
  omega
 ·show g4.length=32
  omega
end
end Go.Proofs.Ytjdhndicgifnbaa.Tun
namespace Go.Proofs.Ytjdhndicgifnbaa.Tun
open Go Go.Eng Go.Proofs.Ytjdhndicgifnbaa Go.Proofs.Ytjdhndicgifnbaa.Pol
theorem may_parts {rc ct rk lf:UInt64}{sz:Int}(h:mayD rc ct rk lf sz=true):1≤ct.toNat∧ct.toNat≤1152921504606846976∧1≤lf.toNat∧1≤sz∧sz≤4096:=by
 unfold mayD mayL at h
 simp only [Bool.and_eq_true,decide_eq_true_eq] at h
 obtain ⟨⟨h1,h2,h3,h4,h5,h6⟩,h7,h8⟩:=h
 rw [le_nat] at h1 h2 h3 h4 h5
 have e1:(1:UInt64).toNat=1:=rfl
 have e2:(1152921504606846976:UInt64).toNat=1152921504606846976:=rfl
 rw [e1] at h1 h4
 rw [e2] at h3
 omega
theorem newG_AB {rc ct rk lf:UInt64}{sz:Int}:newG keyA keyB rc ct rk lf sz=mayD rc ct rk lf sz:=by
 unfold newG
 rw [keyA_len,keyB_len]
 simp
theorem newG_BA {rc ct rk lf:UInt64}{sz:Int}:newG keyB keyA rc ct rk lf sz=mayD rc ct rk lf sz:=by
 unfold newG
 rw [keyA_len,keyB_len]
 simp
theorem age_now (now:UInt64):ageU now now=0:=by
 unfold ageU
 rw [if_neg (UInt64.lt_irrefl _)]
 simp
def tAk (now rc ct rk lf:UInt64) (sz:Int) (n:UInt64):Tn:=⟨newW sz ((sz.toNat+63) / 64),keyA,keyB,true,true,rc,ct,rk,lf,sz,n,now⟩
theorem overA {now rc ct rk lf:UInt64}{sz:Int}(h:mayD rc ct rk lf sz=true) (n:UInt64):overT now (tAk now rc ct rk lf sz n)=false:=by
 obtain ⟨_,_,h3,_⟩:=may_parts h
 unfold overT
 have e:((tAk now rc ct rk lf sz n).send == [])=false:=rfl
 rw [e,cond_false]
 refine decide_eq_false ?_
 show ¬ lf≤ageU now now
 rw [age_now,le_nat]
 have:(0:UInt64).toNat=0:=rfl
 omega
def ciph (k:Nat) (x:List UInt8):List UInt8:=(Ae.seF keyA (Ae.nonL (UInt64.ofNat k)) [] x).1
theorem sealA_yes {now rc ct rk lf:UInt64}{sz:Int}(h:mayD rc ct rk lf sz=true){k:Nat}(hk:k < ct.toNat){x:List UInt8}(hx:x.length≤65536) :
  sealV now x (tAk now rc ct rk lf sz (UInt64.ofNat k))=.tup [.u64 (UInt64.ofNat k),.str (ciph k x),.int .i64 0]∧sealN now x (tAk now rc ct rk lf sz (UInt64.ofNat k))=tAk now rc ct rk lf sz (UInt64.ofNat (k+1)):=by
 obtain ⟨_,h2,_⟩:=may_parts h
 have e:sealG now x (tAk now rc ct rk lf sz (UInt64.ofNat k))=true:=by
  unfold sealG
  rw [overA h]
  have e1:decide ((tAk now rc ct rk lf sz (UInt64.ofNat k)).ct≤(tAk now rc ct rk lf sz (UInt64.ofNat k)).next)=false:=by
   refine decide_eq_false ?_
   show ¬ ct≤UInt64.ofNat k
   rw [le_nat,UInt64.toNat_ofNat']
   omega
  have e2:(Ae.seF (tAk now rc ct rk lf sz (UInt64.ofNat k)).send (Ae.nonL (tAk now rc ct rk lf sz (UInt64.ofNat k)).next) [] x).2=0:=seA _ hx
  rw [e1,e2]
  rfl
 unfold sealV sealN
 rw [e]
 refine ⟨rfl,?_⟩
 show incT _=_
 unfold incT tAk
 simp only [Tn.mk.injEq,true_and,and_true]
 refine UInt64.toNat_inj.1 ?_
 rw [UInt64.toNat_add,UInt64.toNat_ofNat',UInt64.toNat_ofNat']
 have:(1:UInt64).toNat=1:=rfl
 rw [this]
 omega
theorem sealA_no {now rc ct rk lf:UInt64}{sz:Int}(h:mayD rc ct rk lf sz=true) (x:List UInt8) :
  sealV now x (tAk now rc ct rk lf sz ct)=.tup [.u64 0,.str [],.int .i64 180]∧sealN now x (tAk now rc ct rk lf sz ct)=tAk now rc ct rk lf sz ct:=by
 have e1:decide ((tAk now rc ct rk lf sz ct).ct≤(tAk now rc ct rk lf sz ct).next)=true:=decide_eq_true (UInt64.le_refl ct)
 have e:sealG now x (tAk now rc ct rk lf sz ct)=false:=by
  unfold sealG
  rw [e1]
  simp
 unfold sealV sealN sealE
 rw [e,e1,overA h]
 exact ⟨rfl,rfl⟩
theorem seal_gone {now:UInt64}(x:List UInt8) (t:Tn):sealV now x (wipeT t)=.tup [.u64 0,.str [],.int .i64 180]∧sealN now x (wipeT t)=wipeT t:=by
 have e0:overT now (wipeT t)=true:=rfl
 have e:sealG now x (wipeT t)=false:=by unfold sealG; rw [e0]; rfl
 unfold sealV sealN sealE
 rw [e,e0]
 exact ⟨rfl,rfl⟩
theorem open_gone {now:UInt64}(n:UInt64) (x:List UInt8) (t:Tn):openV now n x (wipeT t)=.tup [.str [],.int .i64 180]∧openN now n x (wipeT t)=wipeT t:=by
 have e0:overT now (wipeT t)=true:=rfl
 have e:openG now n x (wipeT t)=false:=by unfold openG; rw [e0]; rfl
 unfold openV openN openE
 rw [e,e0]
 exact ⟨rfl,rfl⟩
theorem opA_k (k:Nat){x:List UInt8}(hx:x.length≤65536):Ae.opF keyA (Ae.nonL (UInt64.ofNat k)) [] (ciph k x)=(x,0):=by
 unfold ciph
 rw [Ae.se_ok (Ae.mayN keyA_len _) (by simp) hx]
 exact Ae.op_se (Ae.mayN keyA_len _) (by simp) hx
theorem ciph_len (k:Nat){x:List UInt8}(hx:x.length≤65536):Ae.slR (ciph k x)=true:=by
 unfold Ae.slR ciph
 rw [Ae.se_len (Ae.mayN keyA_len _) hx]
 exact Nat.ble_eq_true_of_le (by omega)
theorem maxU_lt {N:Nat}(hN:0 < N){L:List UInt64}(h:∀ n,n ∈ L→n.toNat < N):(maxU L).toNat < N:=by
 have key:∀ (l:List UInt64) (a:UInt64),a.toNat < N→(∀ n,n ∈ l→n.toNat < N)→(l.foldl (fun x y=>if x < y then y else x) a).toNat < N:=by
  intro l
  induction l with
  | nil=>intro a ha _; exact ha
  | cons b l ih =>
   intro a ha hl
   refine ih _ ?_ fun n hn=>hl n (List.mem_cons_of_mem _ hn)
   show (if a < b then b else a).toNat < N
   split
   ·exact hl b (List.mem_cons_self ..)
   ·exact ha
 exact key L 0 hN h
structure BI (now ct lf:UInt64) (sz:Int) (N:Nat) (t:Tn) (L:List UInt64):Prop where
 rel:∃ c,TRel t c L∧c.size=sz∧c.recv=keyA∧c.gone=false∧c.made=now∧c.ct=ct∧c.lf=lf
 lt:∀ n,n ∈ L→n.toNat < N
theorem BI.okw {now ct lf:UInt64}{sz:Int}{N:Nat}{t:Tn}{L:List UInt64}(h:BI now ct lf sz N t L):okW t.w=true:=by
 obtain ⟨⟨c,h1,_⟩,_⟩:=h
 exact h1.w.ok
theorem BI_new {now rc ct rk lf:UInt64}{sz:Int}(h:mayD rc ct rk lf sz=true) (N:Nat):BI now ct lf sz N (newT keyB keyA false now rc ct rk lf sz) []:=
 ⟨⟨_,new_rel (newG_BA.trans h),rfl,rfl,rfl,rfl,rfl,rfl⟩,fun n hn=>by cases hn⟩
theorem openB {now rc ct rk lf:UInt64}{sz:Int}(h:mayD rc ct rk lf sz=true){N:Nat}{t:Tn}{L:List UInt64}(hb:BI now ct lf sz N t L){k:Nat}(hk:k < N) (hN:N≤ct.toNat){x:List UInt8}(hx:x.length≤65536) :
  (L.contains (UInt64.ofNat k)=false∧openV now (UInt64.ofNat k) (ciph k x) t=.tup [.str x,.int .i64 0]∧BI now ct lf sz N (openN now (UInt64.ofNat k) (ciph k x) t) (L++[UInt64.ofNat k])) ∨
  (∃ e:Int,e ≠ 0∧openV now (UInt64.ofNat k) (ciph k x) t=.tup [.str [],.int .i64 e]∧openN now (UInt64.ofNat k) (ciph k x) t=t∧(L.contains (UInt64.ofNat k)=true ∨ sz < N)):=by
 obtain ⟨p1,p2,p3,p4,p5⟩:=may_parts h
 obtain ⟨⟨c,h1,c1,c2,c3,c4,c5,c6⟩,hl⟩:=hb
 obtain ⟨e1,e2,e3⟩:=open_eq h1 now (UInt64.ofNat k) (ciph k x)
 have kn:(UInt64.ofNat k).toNat=k:=by rw [UInt64.toNat_ofNat']; omega
 have ho:overD now c=false:=by
  unfold overD
  rw [c3,c4,c6,age_now,cond_false]
  refine decide_eq_false ?_
  rw [le_nat]
  have:(0:UInt64).toNat=0:=rfl
  omega
 have hc:decide (c.ct≤UInt64.ofNat k)=false:=by
  refine decide_eq_false ?_
  rw [c5,le_nat,kn]
  omega
 have hop:Ae.opF c.recv (Ae.nonL (UInt64.ofNat k)) [] (ciph k x)=(x,0):=by rw [c2]; exact opA_k k hx
 have hg:openDG now (UInt64.ofNat k) (ciph k x) (c,L) = !(mayR (UInt64.ofNat k) (c,L) != 0):=by
  unfold openDG
  simp only [ho,hc,hop,Bool.not_false,Bool.true_and]
  simp
 cases hm:(mayR (UInt64.ofNat k) (c,L) != 0) with
 | false =>
  left
  rw [hm] at hg
  have hm0:mayR (UInt64.ofNat k) (c,L)=0:=by simpa using hm
  refine ⟨?_,?_,?_,?_⟩
  ·cases L with
   | nil=>rfl
   | cons a l =>
    change cond (decide (UInt64.ofNat k < maxU (a::l)) && decide (UInt64.ofInt c.size≤maxU (a::l) - UInt64.ofNat k)) (170:Int) (cond ((a::l).contains (UInt64.ofNat k)) 9 0)=0 at hm0
    cases h1:(decide (UInt64.ofNat k < maxU (a::l)) && decide (UInt64.ofInt c.size≤maxU (a::l) - UInt64.ofNat k)) <;> rw [h1] at hm0 <;> simp only [cond_true,cond_false] at hm0
    ·cases h2:(a::l).contains (UInt64.ofNat k) <;> rw [h2] at hm0 <;> simp only [cond_true,cond_false] at hm0
     ·cases hm0
    ·cases hm0
  ·rw [e1]
   unfold openDV
   rw [hg]
   simp only [hop,Bool.not_false,cond_true]
  ·unfold openDN at e3
   rw [hg] at e3
   exact ⟨sureD c,e3,c1,c2,c3,c4,c5,c6⟩
  ·intro n hn
   rcases List.mem_append.1 hn with hn | hn
   ·exact hl n hn
   ·rw [List.mem_singleton.1 hn,kn]; exact hk
 | true =>
  right
  rw [hm] at hg
  have hne:mayR (UInt64.ofNat k) (c,L) ≠ 0:=by simpa using hm
  have hgt:openG now (UInt64.ofNat k) (ciph k x) t=false:=e2.trans hg
  refine ⟨mayR (UInt64.ofNat k) (c,L),hne,?_,?_,?_⟩
  ·rw [e1]
   unfold openDV openDE
   rw [hg]
   simp only [ho,hc,hm,Bool.not_true,cond_true,cond_false]
  ·unfold openN
   rw [hgt]
   rfl
  ·cases L with
   | nil=>exact absurd rfl hne
   | cons a l =>
    change cond (decide (UInt64.ofNat k < maxU (a::l)) && decide (UInt64.ofInt c.size≤maxU (a::l) - UInt64.ofNat k)) (170:Int) (cond ((a::l).contains (UInt64.ofNat k)) 9 0) ≠ 0 at hne
    cases h1:(decide (UInt64.ofNat k < maxU (a::l)) && decide (UInt64.ofInt c.size≤maxU (a::l) - UInt64.ofNat k)) <;> rw [h1] at hne <;> simp only [cond_true,cond_false] at hne
    ·left
     cases h2:(a::l).contains (UInt64.ofNat k) <;> rw [h2] at hne <;> simp only [cond_true,cond_false] at hne
     ·exact absurd rfl hne
    ·right
     simp only [Bool.and_eq_true,decide_eq_true_eq] at h1
     obtain ⟨a1,a2⟩:=h1
     have hM:=maxU_lt (by omega:0 < N) hl
     rw [lt_nat,kn] at a1
     rw [le_nat,UInt64.toNat_sub_of_le _ _ (by rw [le_nat,kn]; omega),kn,c1] at a2
     obtain ⟨m,hm2⟩:∃ m:Nat,sz=m:=⟨sz.toNat,by omega⟩
     rw [hm2,ofInt_nat,UInt64.toNat_ofNat'] at a2
     rw [hm2]
     have:m % 2 ^ 64=m:=Nat.mod_eq_of_lt (by omega)
     rw [this] at a2
     omega
def snt (ts:List (List UInt8)) (k:Nat):SL:=(List.range k).map fun i=>(UInt64.ofNat i,ciph i (ts.getD i []))
theorem snt_succ (ts:List (List UInt8)) (k:Nat):snt ts (k+1)=snt ts k++[(UInt64.ofNat k,ciph k (ts.getD k []))]:=by
 unfold snt
 rw [List.range_succ,List.map_append]
 rfl
theorem snt_len (ts:List (List UInt8)) (k:Nat):(snt ts k).length=k:=by unfold snt; simp
theorem snC_len (a:SL):(snC a).length=a.length * 2:=by
 induction a with
 | nil=>rfl
 | cons x l ih =>
  have:snC (x::l)=.u64 x.1::.str x.2::snC l:=rfl
  rw [this,List.length_cons,List.length_cons,ih,List.length_cons]
  omega
theorem snC_at {l:SL}{i:Nat}{x:UInt64 × List UInt8}(h:l[i]? = some x):(snC l)[i * 2]? = some (.u64 x.1)∧(snC l)[i * 2+1]? = some (.str x.2):=by
 constructor
 ·exact flatMap_at (f:=fun x:UInt64 × List UInt8=>[AVal.u64 x.1,AVal.str x.2]) (k:=2) (fun _=>rfl) (j:=0) h (by omega)
 ·exact flatMap_at (f:=fun x:UInt64 × List UInt8=>[AVal.u64 x.1,AVal.str x.2]) (k:=2) (fun _=>rfl) (j:=1) h (by omega)
theorem snt_at {ts:List (List UInt8)}{k i:Nat}(h:i < k):(snt ts k)[i]? = some (UInt64.ofNat i,ciph i (ts.getD i [])):=by
 unfold snt
 rw [List.getElem?_map,List.getElem?_range h]
 rfl
def cnt (L:List UInt64) (k:Nat):Int:=cond (L.contains (UInt64.ofNat k)) 1 0
def opC (L:List UInt64) (N:Nat):List AVal:=(List.range N).map fun k=>.int .i64 (cnt L k)
theorem opC_len (L:List UInt64) (N:Nat):(opC L N).length=N:=by unfold opC; simp
theorem opC_at (L:List UInt64){N k:Nat}(h:k < N):(opC L N)[k]? = some (.int .i64 (cnt L k)):=by
 unfold opC
 rw [List.getElem?_map,List.getElem?_range h]
 rfl
theorem opC_nil (N:Nat):opC [] N=List.replicate N (.int .i64 0):=by
 refine List.ext_getElem? fun i => ?_
 by_cases h:i < N
 ·rw [opC_at [] h,List.getElem?_replicate,if_pos h]; rfl
 ·rw [List.getElem?_eq_none (by rw [opC_len]; omega),List.getElem?_eq_none (by simp; omega)]
theorem ofNat_inj {i k:Nat}(hi:i < 2 ^ 64) (hk:k < 2 ^ 64) (h:UInt64.ofNat i=UInt64.ofNat k):i=k:=by
 have:=congrArg UInt64.toNat h
 rw [UInt64.toNat_ofNat',UInt64.toNat_ofNat'] at this
 omega
theorem opC_set {L:List UInt64}{N k:Nat}(h:k < N) (hN:N≤2 ^ 64):(opC L N).set k (.int .i64 1)=opC (L++[UInt64.ofNat k]) N:=by
 refine List.ext_getElem? fun i => ?_
 by_cases hi:i < N
 ·rw [opC_at _ hi,List.getElem?_set]
  by_cases e:k=i
  ·subst e
   rw [if_pos rfl,if_pos (by rw [opC_len]; exact h)]
   unfold cnt
   simp
  ·rw [if_neg e,opC_at _ hi]
   have:(L++[UInt64.ofNat k]).contains (UInt64.ofNat i)=L.contains (UInt64.ofNat i):=by
    cases hc:L.contains (UInt64.ofNat i) with
    | true=>simp at hc ⊢; exact .inl hc
    | false =>
     simp at hc ⊢
     exact ⟨hc,fun e2=>e (ofNat_inj (by omega) (by omega) e2.symm)⟩
   unfold cnt
   rw [this]
 ·rw [List.getElem?_eq_none (by rw [List.length_set,opC_len]; omega),List.getElem?_eq_none (by rw [opC_len]; omega)]
end Go.Proofs.Ytjdhndicgifnbaa.Tun
namespace Go.Proofs.Ytjdhndicgifnbaa.Tun
open Go Go.Eng Go.Proofs.Ytjdhndicgifnbaa Go.Proofs.Ytjdhndicgifnbaa.Pol
def newY:List AVal→Option (EffA × Bool)
 | [.agg [.str g1,.str g2,.str g3,.str g4,.str g5],.bool first,.u64 now,.agg [.u64 rc,.u64 ct,.u64 rk,.u64 lf,.int .i64 sz]]=>some (newE obT 4 [0,1,2,3] winV (newT g3 g4 first now rc ct rk lf sz),newG g3 g4 rc ct rk lf sz)
 | _=>none
def newX:List AVal→Option (EffA × Bool)
 | [.agg [.str g1,.str g2,.str g3,.str g4,.str g5],.bool first,.u64 now,.agg [.u64 rc,.u64 ct,.u64 rk,.u64 lf,.int .i64 sz]]=>some (.pure (.tup [.nilPtr,.int .i64 2]),!newG g3 g4 rc ct rk lf sz)
 | _=>none
theorem psT9 (args:List AVal):psT 9 args=none:=rfl
theorem csL9 {args:List AVal}{e:EffA}(h:g9 args=some e):csL 9 args=some e:=by
 show (match g9 args with | some v=>some v | none=>_)=_
 rw [h]
theorem csL_ps:PSOk psT csL:=fun f args e he=>by
 show (match csOne 8 g8 f args with | some v=>some v | none=>csT f args)=_
 by_cases h8:f=8
 ·subst h8
  cases he
 ·have:csOne 8 g8 f args=none:=by
   unfold csOne
   rw [show Nat.beq f 8=false from by
    cases hb:Nat.beq f 8 with
    | true=>exact absurd (Nat.eq_of_beq_eq_true hb) h8
    | false=>rfl]
  rw [this]
  exact csT_ps f args e he
theorem ps_new {g:List AVal→Option (EffA × Bool)}(h:∀ args e,g args=some (e,true)→g9 args=some e):PSOk (psAlt (psOne 9 g) psT) csL:=fun f args e he=>by
 unfold psAlt at he
 by_cases h9:f=9
 ·subst h9
  have e1:psOne 9 g 9 args=g args:=rfl
  rw [e1,psT9] at he
  cases hg:g args with
  | none=>rw [hg] at he; cases he
  | some x =>
   rw [hg] at he
   cases he
   exact csL9 (h args e hg)
 ·have:psOne 9 g f args=none:=by
   unfold psOne
   rw [show Nat.beq f 9=false from by
    cases hb:Nat.beq f 9 with
    | true=>exact absurd (Nat.eq_of_beq_eq_true hb) h9
    | false=>rfl]
  rw [this] at he
  exact csL_ps f args e he
def psY:PS:=psAlt (psOne 9 newY) psT
def psX:PS:=psAlt (psOne 9 newX) psT
theorem psY_ok:PSOk psY csL:=ps_new fun args e he=>by
 unfold newY at he
 split at he
 ·simp only [Option.some.injEq,Prod.mk.injEq] at he
  obtain ⟨rfl,h⟩:=he
  simp only [g9,h,cond_true]
 ·cases he
theorem psX_ok:PSOk psX csL:=ps_new fun args e he=>by
 unfold newX at he
 split at he
 ·simp only [Option.some.injEq,Prod.mk.injEq,Bool.not_eq_true'] at he
  obtain ⟨rfl,h⟩:=he
  simp only [g9,h,cond_false]
 ·cases he
end Go.Proofs.Ytjdhndicgifnbaa.Tun
namespace Go.Eng
open Go
theorem renL_none {m n:Nat}:∀ {c:List AVal}{v:AVal},v ∈ c→renS m n v=none→renL m n c=none
 | [],v,hv,_=>by cases hv
 | x::c,v,hv,h=>by
  unfold renL
  rcases List.mem_cons.1 hv with rfl | hv
  ·rw [h]
  ·rw [renL_none hv h]
   cases renS m n x <;> rfl
theorem renH_none {m n k:Nat}{ro:Bool}{c:List AVal}(hc:renL m n c=none):∀ {H:HL},aget H k=some (.cells ro c)→renH m n H=none
 | [],h=>by cases h
 | (k',.cells ro' c')::l,h=>by
  unfold renH
  simp only [aget] at h
  cases hb:Nat.beq k' k <;> rw [hb] at h <;> simp only [cond_true,cond_false] at h
  ·rw [renH_none hc h]
   cases renN m n k' <;> cases renL m n c' <;> rfl
  ·cases h
   rw [hc]
   cases renN m n k' <;> rfl
theorem head_stuck {P:Program}{bs:Nat}{s0 s:SA}{k:Nat}{c:List AVal}(hp:∀ p,p ∈ pairsT s0.fr 0 s0.T s.T→p.2 ≠ k) (h1:aget s.H k=some (.cells false c)) (hk:k < s0.fr) (hr:∀ m n,renL m n c=none) (hv:ltL s0.fr c=false):headA P bs s0 s=⟨reshape s0.T s.T,s.H,s.fr⟩:=by
 have e:∀ (l:List (Nat × Nat)),(∀ p,p ∈ l→p.2 ≠ k)→renAll P bs l s=s:=by
  intro l
  induction l with
  | nil=>intro _; rfl
  | cons p l ih =>
   intro h
   obtain ⟨m,n⟩:=p
   have hn:n ≠ k:=h _ (List.mem_cons_self ..)
   have e1:ren1 P bs m n s=none:=by
    unfold ren1 ren0
    have:renH m n (adel s.H n)=none:=renH_none (hr m n) (k:=k) (ro:=false) (by rw [aget_adel,if_neg hn]; exact h1)
    simp only [this]
    cases renT m n s.T <;> simp
   unfold renAll
   rw [e1]
   exact ih fun p hp=>h p (List.mem_cons_of_mem _ hp)
 unfold headA
 rw [e _ hp]
 unfold headB
 cases hc:(ltT s0.fr (reshape s0.T s.T) && ltH s0.fr (reshapeH s0.H s.H++extraH s0.H s0.fr s.H) && Nat.ble P.globals.size s0.fr) with
 | false=>rfl
 | true =>
  simp only [Bool.and_eq_true] at hc
  have e2:aget (reshapeH s0.H s.H++extraH s0.H s0.fr s.H) k=aget s.H k:=by
   rw [aget_app,reshapeH_at,extraH_at]
   cases h1:aget s0.H k with
   | some o =>
    simp only
    cases aget s.H k <;> rfl
   | none =>
    simp only
    rw [if_pos hk]
  have:=(ltH_get hc.1.2 k _ _ (e2.trans h1)).2
  rw [hv] at this
  cases this
end Go.Eng
namespace Go.Proofs.Ytjdhndicgifnbaa.Tun
open Go Go.Eng Go.Proofs.Ytjdhndicgifnbaa Go.Proofs.Ytjdhndicgifnbaa.Pol
theorem ren_cT (m n w a:Nat) (t:Tn):renL m n (cT w a t)=none:=renL_none (v:=.fn 32 [.ptr a 0]) (by simp [cT]) rfl
theorem lt_cT (m w a:Nat) (t:Tn):ltL m (cT w a t)=false:=by
 cases h:ltL m (cT w a t) with
 | false=>rfl
 | true=>exact absurd (ltL_mem h (.fn 32 [.ptr a 0]) (by simp [cT])) (by simp [ltS])
structure LkT (p:Nat) (t:Tn) (H:HL):Prop where
 ht:aget H p=some (.cells false (cT (p+1) (p+3) t))
 hw:aget H (p+1)=some (.cells false (cW (p+2) t.w))
 hb:aget H (p+2)=some (.cells false (t.w.L.map .u64))
 ha:aget H (p+3)=some (.cells false [.u64 t.made])
theorem LkT.keep {p:Nat}{t:Tn}{H H':HL}(h:LkT p t H) (hk:∀ n,p≤n→n < p+4→aget H' n=aget H n):LkT p t H':=
 ⟨(hk p (by omega) (by omega)).trans h.ht,(hk (p+1) (by omega) (by omega)).trans h.hw,(hk (p+2) (by omega) (by omega)).trans h.hb,(hk (p+3) (by omega) (by omega)).trans h.ha⟩
theorem nodup_p {base p:Nat}(hb:p+4≤base):nodupB (base::[p,p+1,p+2,p+3])=true:=nodupB_of (by
 simp only [List.nodup_cons,List.mem_cons,List.mem_nil_iff,or_false,not_or]
 refine ⟨⟨by omega,by omega,by omega,by omega⟩,⟨by omega,by omega,by omega⟩,⟨by omega,by omega⟩,by omega,by simp,by simp⟩)
theorem meth_at {p:Nat}{t t2:Tn}{H:HL}(h:LkT p t H){val:List Nat→Tn→AVal}{next:Tn→Tn}{ok:Tn→Bool}(ho:ok t=true){v:AVal}(hv:val [p,p+1,p+2,p+3] t=v) (hn:next t=t2){base:Nat}(hb:p+4≤base) :
  ∃ H',(methE clsT clsT srcT p val next ok).app base H=some (v,H')∧LkT p t2 H'∧∀ n,(n < p ∨ p+4≤n)→aget H' n=aget H n:=by
 subst hv hn
 refine ⟨aset (aset (aset (aset H p (.cells false (cT (p+1) (p+3) (next t)))) (p+1) (.cells false (cW (p+2) (next t).w))) (p+2) (.cells false ((next t).w.L.map .u64))) (p+3) (.cells false [.u64 (next t).made]),?_,?_,fun n hn => ?_⟩
 ·rw [methE_app (C:=clsT) (C2:=clsT) (ns:=[p,p+1,p+2,p+3]) (s:=t) (tFind_at h.ht h.hw h.hb h.ha) (nodup_p hb) ho]
  rfl
 ·refine ⟨?_,?_,?_,?_⟩
  ·rw [aget_aset,if_neg (by omega),aget_aset,if_neg (by omega),aget_aset,if_neg (by omega),aget_aset,if_pos rfl]
  ·rw [aget_aset,if_neg (by omega),aget_aset,if_neg (by omega),aget_aset,if_pos rfl]
  ·rw [aget_aset,if_neg (by omega),aget_aset,if_pos rfl]
  ·rw [aget_aset,if_pos rfl]
 ·rw [aget_aset,if_neg (by omega),aget_aset,if_neg (by omega),aget_aset,if_neg (by omega),aget_aset,if_neg (by omega)]
def appE (sv:AVal) (B:Nat):EffA:=.eff fun base H=>match srcA H 2 (.slice B 0 1 2) with
 | some (news,m)=>appendE base H 2 24 m news sv
 | none=>none
theorem src_one {H:HL}{B:Nat}{a b:AVal}(h:aget H B=some (.cells false [a,b])):srcA (aget H) 2 (.slice B 0 1 2)=some ([a,b],1):=by
 show cond (Nat.beq 2 2) (match aget H B with
  | some (.cells _ c)=>cond (Nat.ble (0+1 * 2) c.length) (some ((c.drop 0).take (1 * 2),1)) none
  | none=>none) none=_
 rw [h]
 rfl
theorem app_nil {H:HL}{B base:Nat}{a b:AVal}(h:aget H B=some (.cells false [a,b])):(appE .nilSlice B).app base H=some (.slice base 0 1 2,aset H base (.cells false [a,b])):=by
 unfold appE
 simp only [EffA.app,src_one h]
 rfl
theorem app_old {H:HL}{B base m q:Nat}{C:List AVal}{k:UInt64}{c:List UInt8}(h:aget H B=some (.cells false [.u64 k,.str c])) (hm:aget H m=some (.cells false C)) (hl:C.length=q * 2) (hq:q≤100000) :
  (appE (.slice m 0 q 2) B).app base H=some (.slice base 0 (q+1) 2,aset (adel H m) base (.cells false (C++[.u64 k,.str c]))):=by
 unfold appE
 simp only [EffA.app,src_one h]
 unfold appendE
 have e1:Nat.ble ((q+1) * 24) 140737488355328=true:=Nat.ble_eq_true_of_le (by omega)
 have e2:Nat.ble (q+1) 140737488355328=true:=Nat.ble_eq_true_of_le (by omega)
 have e3:Nat.ble (0+q * 2) C.length=true:=Nat.ble_eq_true_of_le (by omega)
 have e4:(C.drop 0).take (q * 2)=C:=by rw [List.drop_zero,← hl,List.take_length]
 simp only [e1,e2,hm,e3,e4,Bool.and_self,cond_true,show Nat.beq 2 2=true from rfl,show ([AVal.u64 k,AVal.str c]).all oneA=true from rfl]
 rfl
end Go.Proofs.Ytjdhndicgifnbaa.Tun
namespace Go.Proofs.Ytjdhndicgifnbaa.Tun
open Go Go.Eng Go.Proofs.Ytjdhndicgifnbaa Go.Proofs.Ytjdhndicgifnbaa.Pol
noncomputable def K12:Code:=loopOf ((pieces (bodyOf Try.f4)).getD 12 .skip)
noncomputable def K17:Code:=loopOf ((pieces (bodyOf Try.f4)).getD 17 .skip)
section
variable (cv sv:AVal) (n:Nat) (now rc ct rk lf:UInt64) (sz s i0:Int) (X Y:List AVal) (i j f0 m q:Nat) (x c:List UInt8) (H:HL) (k:UInt64)
def TS (sv:AVal) (i:Int):TL:=[(0,limA rc ct rk lf sz),(1,.slice 0 0 n 1),(2,cv),(3,.u64 now),(4,.ptr 2 0),(8,.bool false),(9,.int .i64 s),(10,.int .i64 i0),(37,.bool false),(54,.bool false),(11,.ptr 178 0),(12,.int .i64 0),(13,.ptr 250 0),(14,.int .i64 0),(75,.bool false),(15,sv),(16,.int .i64 i)]
theorem w4a:evT Try.prog psY csL [80,88,100,109,200082,300089,300090,300099,300119] Try.f4.ntmps (mask 4) 1000 2 K12 ⟨TS cv n now rc ct rk lf sz s i0 sv i,H,(f0+362)⟩ ⟨[true,true,false],[.str x,.tup [],.tup [.u64 k,.str c,.int .i64 0],.tup (.nilMap::X),.u64 ct,.tup [],.slice m 0 q 2,.tup (.nilMap::Y),.int .i64 (j:Int)],[]⟩=some (.normal,⟨TS cv n now rc ct rk lf sz s i0 (.slice m 0 q 2) j++[(80,.bool true),(17,.u64 k),(18,.str c),(19,.int .i64 0),(111,.bool false),(113,.bool true)],heapL Y,(((((((f0+362)+32)+112)+144)+16)+56)+24)⟩,⟨[],[],[eqS (.int .i64 (IntKind.wrap .i64 ((i:Int)+1))) (.int .i64 (j:Int)),mOb (appE sv (((((((((f0+362)+32)+112)+144)+16)+8)+8)+8)+8)) ((((((((((f0+362)+32)+112)+144)+16)+8)+8)+8)+8)+8) (aset (heapL X) (((((((((f0+362)+32)+112)+144)+16)+8)+8)+8)+8) (.cells false [.u64 k,.str c])) (.slice m 0 q 2) (heapL Y),!(k != UInt64.ofInt (i:Int)),decide (UInt64.ofInt (i:Int) < ct),ld 2 (0+1) (.u64 ct) ((((((((f0+362)+32)+112)+8)+8)+8)+8)+8) (heapL X),mOb (methE clsT clsT srcT 178 (fun _ s=>sealV now x s) (sealN now x) fun _=>true) ((((((((f0+362)+32)+8)+8)+8)+8)+8)+8) H (.tup [.u64 k,.str c,.int .i64 0]) (heapL X),ld 0 (0+(Int.toNat (i:Int)) * 1) (.str x) (((((((f0+362)+32)+8)+8)+8)+8)+8) H,(decide (0≤(i:Int)) && decide ((i:Int) < (n:Int))),decide ((i:Int) < (n:Int))]⟩):=by kernel_rfl
theorem w4b:evT Try.prog psY csL [80,88,100,109,200082,300089,300090,300099,300119] Try.f4.ntmps (mask 4) 1000 2 K12 ⟨TS cv n now rc ct rk lf sz s i0 sv i,H,(f0+362)⟩ ⟨[true,false],[.str x,.tup [],.tup [.u64 0,.str [],.int .i64 180],.tup (.nilMap::X),.u64 ct,.tup [],.int .i64 (j:Int)],[]⟩=some (.normal,⟨TS cv n now rc ct rk lf sz s i0 sv j++[(80,.bool true),(17,.u64 0),(18,.str []),(19,.int .i64 180),(111,.bool false),(113,.bool false)],heapL X,((((((f0+362)+32)+112)+144)+16)+24)⟩,⟨[],[],[eqS (.int .i64 (IntKind.wrap .i64 ((i:Int)+1))) (.int .i64 (j:Int)),!decide (UInt64.ofInt (i:Int) < ct),ld 2 (0+1) (.u64 ct) ((((((((f0+362)+32)+112)+8)+8)+8)+8)+8) (heapL X),mOb (methE clsT clsT srcT 178 (fun _ s=>sealV now x s) (sealN now x) fun _=>true) ((((((((f0+362)+32)+8)+8)+8)+8)+8)+8) H (.tup [.u64 0,.str [],.int .i64 180]) (heapL X),ld 0 (0+(Int.toNat (i:Int)) * 1) (.str x) (((((((f0+362)+32)+8)+8)+8)+8)+8) H,(decide (0≤(i:Int)) && decide ((i:Int) < (n:Int))),decide ((i:Int) < (n:Int))]⟩):=by kernel_rfl
theorem w4x:evT Try.prog psY csL [80] Try.f4.ntmps (mask 4) 1000 2 K12 ⟨TS cv n now rc ct rk lf sz s i0 sv i,H,(f0+362)⟩ ⟨[false],[],[]⟩=some (.exit 2,⟨TS cv n now rc ct rk lf sz s i0 sv i++[(80,.bool false)],H,((f0+362)+32)⟩,⟨[],[],[!decide ((i:Int) < (n:Int))]⟩):=by kernel_rfl
end
section
variable (cv:AVal) (n:Nat) (now rc ct rk lf:UInt64) (sz s i0:Int) (X Y Z:List AVal) (i j f0 m p mc N a kk:Nat) (x c:List UInt8) (H:HL) (k:UInt64) (y:UInt8) (e:Int)
def TO (N m p:Nat) (j:Int):TL:=TS cv n now rc ct rk lf sz s i0 (.slice m 0 N 2) i++[(80,.bool false),(122,.bool false),(20,.slice p 0 N 1),(21,.int .i64 j)]
def seeB (m fr b:Nat):Bool:=Nat.ble (m+1) fr || b.testBit ((m - fr) / 8)
theorem seeB_of {m fr b:Nat}(h:m < fr):seeB m fr b=true:=by
 unfold seeB
 rw [Nat.ble_eq_true_of_le (by omega),Bool.true_or]
theorem w4m:segO (evSO Try.prog psY csL [122,126,300126] Try.f4.ntmps (mask 4) 1000 2 (((pieces (bodyOf Try.f4)).drop 13).take 4) ⟨TS cv n now rc ct rk lf sz s i0 (.slice m 0 N 2) i++[(80,.bool false)],H,(f0+362)⟩ ⟨[false],[.slice p 0 N 1,.tup (.nilMap::X)],[]⟩)=some (⟨TO cv n now rc ct rk lf sz s i0 i N m p 0,heapL X,((((f0+362)+24)+32)+8)⟩,[mOb (sliceRowA (zrow (cellsA (.int .i64 0)) ((Int.toNat (N:Int)) * 1)) (Int.toNat (N:Int)) 1) ((((f0+362)+24)+8)+8) H (.slice p 0 N 1) (heapL X),(((decide (0≤(N:Int)) && decide ((N:Int)≤(N:Int))) && decide (((8:Nat):Int) * (N:Int)≤281474976710656)) && decide ((N:Int)≤281474976710656)),!((N:Int) == 0)]):=by kernel_rfl
theorem w5x:evT Try.prog psY csL [130] Try.f4.ntmps (mask 4) 1000 2 K17 ⟨TO (.slice 1 0 mc 1) n now rc ct rk lf sz s i0 i N m p a,H,(f0+362)⟩ ⟨[false],[],[]⟩=some (.exit 4,⟨TO (.slice 1 0 mc 1) n now rc ct rk lf sz s i0 i N m p a++[(130,.bool false)],H,((f0+362)+32)⟩,⟨[],[],[!decide ((a:Int) < (mc:Int))]⟩):=by kernel_rfl
theorem w5x0:evT Try.prog psY csL [] Try.f4.ntmps (mask 4) 1000 2 K17 ⟨TO .nilSlice n now rc ct rk lf sz s i0 i N m p 0,H,(f0+362)⟩ ⟨[],[],[]⟩=some (.exit 4,⟨TO .nilSlice n now rc ct rk lf sz s i0 i N m p 0++[(130,.bool false)],H,((f0+362)+32)⟩,⟨[],[],[]⟩):=by kernel_rfl
theorem w5f:evT Try.prog psY csL [130,135,140,146,151,154,158,161,164,168,170,173,179,187,200140,200132,300136,300148,600148,300153,600153,300154,300162,500164,300169,300174,300180,300186] Try.f4.ntmps (mask 4) 1000 2 K17 ⟨TO (.slice 1 0 mc 1) n now rc ct rk lf sz s i0 i N m p a,H,(f0+362)⟩ ⟨[true,false],[.u8 y,.tup [],.int .i64 (kk:Int),.u64 k,.tup [],.str c,.tup [],.tup [.str [],.int .i64 e],.tup (.nilMap::X),.int .i64 1,.tup [],.int .i64 1,.tup [],.int .i64 (j:Int)],[]⟩=some (.normal,⟨TO (.slice 1 0 mc 1) n now rc ct rk lf sz s i0 i N m p j++[(130,.bool true),(22,.int .i64 (kk:Int)),(23,.str []),(24,.int .i64 e),(158,.bool false),(189,.bool false)],heapL X,(((((((f0+362)+32)+72)+144)+16)+152)+24)⟩,⟨[],[],[eqS (.int .i64 (IntKind.wrap .i64 ((a:Int)+1))) (.int .i64 (j:Int)),ld p (0+(Int.toNat (kk:Int)) * 1) (.int .i64 1) ((((((((((((((f0+362)+32)+72)+144)+16)+8)+8)+8)+8)+8)+8)+8)+8)+8) (heapL X),(decide (0≤(kk:Int)) && decide ((kk:Int) < (N:Int))),ld p (0+(Int.toNat (kk:Int)) * 1) (.int .i64 1) ((((((((f0+362)+32)+72)+144)+16)+8)+8)+8) (heapL X),(decide (0≤(kk:Int)) && decide ((kk:Int) < (N:Int))),!(e == 0),mOb (m20 250 now k c) ((((f0+362)+32)+72)+96) H (.tup [.str [],.int .i64 e]) (heapL X),Ae.slR c,ld m ((0+(Int.toNat (kk:Int)) * 2)+1) (.str c) ((((f0+362)+32)+72)+88) H,seeB m (((f0+362)+32)+72) 1920,(decide (0≤(kk:Int)) && decide ((kk:Int) < (N:Int))),ld m ((0+(Int.toNat (kk:Int)) * 2)+0) (.u64 k) ((((f0+362)+32)+72)+48) H,seeB m (((f0+362)+32)+72) 60,(decide (0≤(kk:Int)) && decide ((kk:Int) < (N:Int))),eqS (.int .i64 (Int.tmod ((UInt8.toNat y:Nat):Int) (N:Int))) (.int .i64 (kk:Int)),!((N:Int) == 0),ld 1 (0+(Int.toNat (a:Int)) * 1) (.u8 y) (((((f0+362)+32)+8)+8)+8) H,(decide (0≤(a:Int)) && decide ((a:Int) < (mc:Int))),decide ((a:Int) < (mc:Int))]⟩):=by kernel_rfl
theorem w5g:evT Try.prog psY csL [130,135,140,146,151,154,158,161,164,168,170,173,179,187,200140,200132,300136,300148,600148,300153,600153,300154,300162,500164,300169,300174,300180,300186] Try.f4.ntmps (mask 4) 1000 2 K17 ⟨TO (.slice 1 0 mc 1) n now rc ct rk lf sz s i0 i N m p a,H,(f0+362)⟩ ⟨[true,false,false],[.u8 y,.tup [],.int .i64 (kk:Int),.u64 k,.tup [],.str c,.tup [],.tup [.str [],.int .i64 e],.tup (.nilMap::X),.int .i64 0,.tup [],.int .i64 0,.tup [],.int .i64 sz,.tup [],.int .i64 (j:Int)],[]⟩=some (.normal,⟨TO (.slice 1 0 mc 1) n now rc ct rk lf sz s i0 i N m p j++[(130,.bool true),(22,.int .i64 (kk:Int)),(23,.str []),(24,.int .i64 e),(158,.bool false),(189,.bool false)],heapL X,(((((((f0+362)+32)+72)+144)+16)+152)+24)⟩,⟨[],[],[eqS (.int .i64 (IntKind.wrap .i64 ((a:Int)+1))) (.int .i64 (j:Int)),!decide ((N:Int)≤sz),ld 2 (0+4) (.int .i64 sz) ((((((((((((((((((((f0+362)+32)+72)+144)+16)+8)+8)+8)+8)+8)+8)+8)+8)+8)+8)+8)+8)+8)+8)+8) (heapL X),ld p (0+(Int.toNat (kk:Int)) * 1) (.int .i64 0) ((((((((((((((f0+362)+32)+72)+144)+16)+8)+8)+8)+8)+8)+8)+8)+8)+8) (heapL X),(decide (0≤(kk:Int)) && decide ((kk:Int) < (N:Int))),ld p (0+(Int.toNat (kk:Int)) * 1) (.int .i64 0) ((((((((f0+362)+32)+72)+144)+16)+8)+8)+8) (heapL X),(decide (0≤(kk:Int)) && decide ((kk:Int) < (N:Int))),!(e == 0),mOb (m20 250 now k c) ((((f0+362)+32)+72)+96) H (.tup [.str [],.int .i64 e]) (heapL X),Ae.slR c,ld m ((0+(Int.toNat (kk:Int)) * 2)+1) (.str c) ((((f0+362)+32)+72)+88) H,seeB m (((f0+362)+32)+72) 1920,(decide (0≤(kk:Int)) && decide ((kk:Int) < (N:Int))),ld m ((0+(Int.toNat (kk:Int)) * 2)+0) (.u64 k) ((((f0+362)+32)+72)+48) H,seeB m (((f0+362)+32)+72) 60,(decide (0≤(kk:Int)) && decide ((kk:Int) < (N:Int))),eqS (.int .i64 (Int.tmod ((UInt8.toNat y:Nat):Int) (N:Int))) (.int .i64 (kk:Int)),!((N:Int) == 0),ld 1 (0+(Int.toNat (a:Int)) * 1) (.u8 y) (((((f0+362)+32)+8)+8)+8) H,(decide (0≤(a:Int)) && decide ((a:Int) < (mc:Int))),decide ((a:Int) < (mc:Int))]⟩):=by kernel_rfl
theorem w5s:evT Try.prog psY csL [130,135,140,146,151,154,158,161,164,168,170,173,179,187,200140,200132,300136,300148,600148,300153,600153,300154,300162,500164,300169,300174,300180,300186] Try.f4.ntmps (mask 4) 1000 2 K17 ⟨TO (.slice 1 0 mc 1) n now rc ct rk lf sz s i0 i N m p a,H,(f0+362)⟩ ⟨[true,true,false],[.u8 y,.tup [],.int .i64 (kk:Int),.u64 k,.tup [],.str c,.tup [],.tup [.str x,.int .i64 0],.tup (.nilMap::X),.int .i64 0,.tup [],.tup [],.tup (.nilMap::Y),.str x,.tup [],.int .i64 1,.tup [],.int .i64 1,.tup [],.int .i64 (j:Int)],[]⟩=some (.normal,⟨TO (.slice 1 0 mc 1) n now rc ct rk lf sz s i0 i N m p j++[(130,.bool true),(22,.int .i64 (kk:Int)),(23,.str x),(24,.int .i64 0),(158,.bool true),(170,.bool false),(189,.bool false)],heapL Y,(((((((((f0+362)+32)+72)+144)+16)+56)+48)+152)+24)⟩,⟨[],[],[eqS (.int .i64 (IntKind.wrap .i64 ((a:Int)+1))) (.int .i64 (j:Int)),ld p (0+(Int.toNat (kk:Int)) * 1) (.int .i64 1) ((((((((((((((((f0+362)+32)+72)+144)+16)+56)+48)+8)+8)+8)+8)+8)+8)+8)+8)+8) (heapL Y),(decide (0≤(kk:Int)) && decide ((kk:Int) < (N:Int))),ld p (0+(Int.toNat (kk:Int)) * 1) (.int .i64 1) ((((((((((f0+362)+32)+72)+144)+16)+56)+48)+8)+8)+8) (heapL Y),(decide (0≤(kk:Int)) && decide ((kk:Int) < (N:Int))),!!(x == x),ld 0 (0+(Int.toNat (kk:Int)) * 1) (.str x) ((((((((((f0+362)+32)+72)+144)+16)+56)+8)+8)+8)+8) (heapL Y),(decide (0≤(kk:Int)) && decide ((kk:Int) < (n:Int))),mOb (writeA p (0+(Int.toNat (kk:Int)) * 1) [.int .i64 1]) (((((((((((f0+362)+32)+72)+144)+16)+8)+8)+8)+8)+8)+8) (heapL X) (.tup []) (heapL Y),(decide (0≤(kk:Int)) && decide ((kk:Int) < (N:Int))),ld p (0+(Int.toNat (kk:Int)) * 1) (.int .i64 0) ((((((((f0+362)+32)+72)+144)+16)+8)+8)+8) (heapL X),(decide (0≤(kk:Int)) && decide ((kk:Int) < (N:Int))),true,mOb (m20 250 now k c) ((((f0+362)+32)+72)+96) H (.tup [.str x,.int .i64 0]) (heapL X),Ae.slR c,ld m ((0+(Int.toNat (kk:Int)) * 2)+1) (.str c) ((((f0+362)+32)+72)+88) H,seeB m (((f0+362)+32)+72) 1920,(decide (0≤(kk:Int)) && decide ((kk:Int) < (N:Int))),ld m ((0+(Int.toNat (kk:Int)) * 2)+0) (.u64 k) ((((f0+362)+32)+72)+48) H,seeB m (((f0+362)+32)+72) 60,(decide (0≤(kk:Int)) && decide ((kk:Int) < (N:Int))),eqS (.int .i64 (Int.tmod ((UInt8.toNat y:Nat):Int) (N:Int))) (.int .i64 (kk:Int)),!((N:Int) == 0),ld 1 (0+(Int.toNat (a:Int)) * 1) (.u8 y) (((((f0+362)+32)+8)+8)+8) H,(decide (0≤(a:Int)) && decide ((a:Int) < (mc:Int))),decide ((a:Int) < (mc:Int))]⟩):=by kernel_rfl
theorem w5e:ansF Try.prog Try.f4 (evSO Try.prog psY csL [196,200,203,300191,300198,600198,300202,600202,300203,300209] Try.f4.ntmps (mask 4) 1000 2 ((pieces (bodyOf Try.f4)).drop 18) ⟨TO cv n now rc ct rk lf sz s i0 i N m p a++[(130,.bool false)],H,(f0+362)⟩ ⟨[],[.tup [],.tup (.nilMap::X),.u64 k,.tup [],.str c,.tup [],.tup [.str [],.int .i64 180],.tup (.nilMap::Y),.tup [.u64 0,.str [],.int .i64 180],.tup (.nilMap::Z)],[]⟩)=some (.bool true,[mOb (methE clsT clsT srcT 250 (fun _ s=>sealV now [120] s) (sealN now [120]) fun _=>true) (((((f0+362)+16)+128)+8)+8) (heapL Y) (.tup [.u64 0,.str [],.int .i64 180]) (heapL Z),mOb (m20 250 now k c) (((f0+362)+16)+80) (heapL X) (.tup [.str [],.int .i64 180]) (heapL Y),Ae.slR c,ld m ((0+(Int.toNat 0) * 2)+1) (.str c) (((f0+362)+16)+72) (heapL X),seeB m ((f0+362)+16) 448,(decide ((0:Int)≤0) && decide ((0:Int) < (N:Int))),ld m ((0+(Int.toNat 0) * 2)+0) (.u64 k) (((f0+362)+16)+40) (heapL X),seeB m ((f0+362)+16) 28,(decide ((0:Int)≤0) && decide ((0:Int) < (N:Int))),mOb (methE clsT clsT srcT 250 (fun _ _=>.tup []) wipeT fun _=>true) ((f0+362)+8) H (.tup []) (heapL X)]):=by kernel_rfl
end
end Go.Proofs.Ytjdhndicgifnbaa.Tun
namespace Go.Proofs.Ytjdhndicgifnbaa.Tun
open Go Go.Eng Go.Proofs.Ytjdhndicgifnbaa Go.Proofs.Ytjdhndicgifnbaa.Pol
inductive RowV where
 | nil
 | emp
 | row (l:List UInt8)
def cvA:RowV→AVal
 | .nil=>.nilSlice
 | .emp=>.slice 1 0 0 1
 | .row l=>.slice 1 0 l.length 1
def cH:RowV→HL
 | .row l=>[(1,.cells true (l.map .u8))]
 | _=>[]
def cL:RowV→List UInt8
 | .row l=>l
 | _=>[]
def tvA:Bool→AVal
 | true=>.nilSlice
 | false=>.slice 0 0 0 1
noncomputable def K3:Code:=loopOf ((pieces (bodyOf Try.f4)).getD 3 .skip)
section
variable (v:RowV) (ts:List (List UInt8)) (now rc ct rk lf:UInt64) (sz s:Int) (i j F:Nat) (x:List UInt8) (y:Int)
def hL1:HL:=[(2,.cells false [.u64 rc,.u64 ct,.u64 rk,.u64 lf,.int .i64 sz])]
def hR0:HL:=[(0,.cells true (ts.map .str))]++cH v
def hR1:HL:=hR0 v ts++hL1 rc ct rk lf sz
def hR2:HL:=hR1 v ts rc ct rk lf sz++bT 178 (newT keyA keyB true now rc ct rk lf sz)
def hR3:HL:=hR2 v ts now rc ct rk lf sz++bT 250 (newT keyB keyA false now rc ct rk lf sz)
def TQ (s i:Int):TL:=[(0,limA rc ct rk lf sz),(1,.slice 0 0 ts.length 1),(2,cvA v),(3,.u64 now),(4,.ptr 2 0),(8,.bool false),(9,.int .i64 s),(10,.int .i64 i)]
def SQ (s:Int) (i:Nat):SA:=⟨TQ v ts now rc ct rk lf sz s i,hR1 v ts rc ct rk lf sz,34⟩
theorem p4_3:(pieces (bodyOf Try.f4))[3]? = some (.block 0 (.loop K3)):=by kernel_rfl
theorem p4_12:(pieces (bodyOf Try.f4))[12]? = some (.block 2 (.loop K12)):=by kernel_rfl
theorem p4_17:(pieces (bodyOf Try.f4))[17]? = some (.block 4 (.loop K17)):=by kernel_rfl
theorem w4p:segO (evSO Try.prog psY csL [] Try.f4.ntmps (mask 4) F 2 ((pieces (bodyOf Try.f4)).take 3) ⟨startT [limA rc ct rk lf sz,.slice 0 0 ts.length 1,cvA v,.u64 now] 0,hR0 v ts,2⟩ ⟨[],[],[]⟩)=some (SQ v ts now rc ct rk lf sz 0 0,[]):=by cases v <;> kernel_rfl
theorem w4r:roundO2 Try.prog psY csL [33,36,44,45,200039,200047] [true,true] [.str x,.int .i64 y,.int .i64 (j:Int)] Try.f4.ntmps (mask 4) F 2 K3 (SQ v ts now rc ct rk lf sz 0 0) (SQ v ts now rc ct rk lf sz s i)=some (SQ v ts now rc ct rk lf sz y j,[eqS (.int .i64 (IntKind.wrap .i64 ((i:Int)+1))) (.int .i64 (j:Int)),eqS (.int .i64 (IntKind.wrap .i64 (IntKind.wrap .i64 (s+8)+(x.length:Int)))) (.int .i64 y),isAt (ts.map .str) (0+(Int.toNat (i:Int)) * 1) (.str x),(decide (0≤(i:Int)) && decide ((i:Int) < (ts.length:Int))),decide (s≤4096),decide ((i:Int) < (ts.length:Int))]):=by cases v <;> kernel_rfl
theorem w4x1:evT Try.prog psY csL [33,36,44,45,200039,200047] Try.f4.ntmps (mask 4) F 2 K3 (SQ v ts now rc ct rk lf sz s i) ⟨[false],[],[]⟩=some (.exit 0,⟨TQ v ts now rc ct rk lf sz s i++[(37,.bool false)],(hR1 v ts rc ct rk lf sz),98⟩,⟨[],[],[!decide ((i:Int) < (ts.length:Int))]⟩):=by cases v <;> kernel_rfl
theorem w4x2:evT Try.prog psY csL [33,36,44,45,200039,200047] Try.f4.ntmps (mask 4) F 2 K3 (SQ v ts now rc ct rk lf sz s i) ⟨[true,false],[],[]⟩=some (.exit 0,⟨TQ v ts now rc ct rk lf sz s i++[(37,.bool false)],(hR1 v ts rc ct rk lf sz),98⟩,⟨[],[],[!decide (s≤4096),decide ((i:Int) < (ts.length:Int))]⟩):=by cases v <;> kernel_rfl
theorem w4g1:ansF Try.prog Try.f4 (evSO Try.prog psX csL [49,53,60,67] Try.f4.ntmps (mask 4) F 2 ((pieces (bodyOf Try.f4)).drop 4) ⟨TQ v ts now rc ct rk lf sz s i++[(37,.bool false)],(hR1 v ts rc ct rk lf sz),98⟩ ⟨[true],[],[]⟩)=some (.bool true,[decide (4096 < s)]):=by cases v <;> kernel_rfl
theorem w4g2:ansF Try.prog Try.f4 (evSO Try.prog psX csL [49,53,60,67] Try.f4.ntmps (mask 4) F 2 ((pieces (bodyOf Try.f4)).drop 4) ⟨TQ v ts now rc ct rk lf sz s i++[(37,.bool false)],(hR1 v ts rc ct rk lf sz),98⟩ ⟨[false,true],[],[]⟩)=some (.bool true,[decide ((200:Int) < ((cL v).length:Int)),!decide (4096 < s)]):=by cases v <;> kernel_rfl
theorem w4gX:ansF Try.prog Try.f4 (evSO Try.prog psX csL [49,53,60,67] Try.f4.ntmps (mask 4) F 2 ((pieces (bodyOf Try.f4)).drop 4) ⟨TQ v ts now rc ct rk lf sz s i++[(37,.bool false)],(hR1 v ts rc ct rk lf sz),98⟩ ⟨[false,false],[],[]⟩)=some (.bool true,[!newG keyB keyA rc ct rk lf sz,!newG keyA keyB rc ct rk lf sz,!decide ((200:Int) < ((cL v).length:Int)),!decide (4096 < s)]):=by cases v <;> kernel_rfl
theorem w4gY:segO (evSO Try.prog psY csL [49,53,60,67,300060,300067] Try.f4.ntmps (mask 4) 1000 2 (((pieces (bodyOf Try.f4)).drop 4).take 8) ⟨TQ v ts now rc ct rk lf sz s i++[(37,.bool false)],(hR1 v ts rc ct rk lf sz),98⟩ ⟨[false,false],[.tup [.ptr 178 0,.int .i64 0],tT 178 (newT keyA keyB true now rc ct rk lf sz),.tup [.ptr 250 0,.int .i64 0],tT 250 (newT keyB keyA false now rc ct rk lf sz)],[]⟩)=some (⟨TS (cvA v) ts.length now rc ct rk lf sz s i .nilSlice 0,hR3 v ts now rc ct rk lf sz,362⟩,[mOb (newE obT 4 [0,1,2,3] winV (newT keyB keyA false now rc ct rk lf sz)) 250 (hR2 v ts now rc ct rk lf sz) (.tup [.ptr 250 0,.int .i64 0]) (hR3 v ts now rc ct rk lf sz),newG keyB keyA rc ct rk lf sz,mOb (newE obT 4 [0,1,2,3] winV (newT keyA keyB true now rc ct rk lf sz)) 178 (hR1 v ts rc ct rk lf sz) (.tup [.ptr 178 0,.int .i64 0]) (hR2 v ts now rc ct rk lf sz),newG keyA keyB rc ct rk lf sz,!decide ((200:Int) < ((cL v).length:Int)),!decide (4096 < s)]):=by cases v <;> kernel_rfl
variable (b:Bool)
def hE1:HL:=cH v++hL1 rc ct rk lf sz
def hE2:HL:=hE1 v rc ct rk lf sz++bT 178 (newT keyA keyB true now rc ct rk lf sz)
def hE3:HL:=hE2 v now rc ct rk lf sz++bT 250 (newT keyB keyA false now rc ct rk lf sz)
theorem w4e1:ansO (run1O Try.prog psX csL [53,60,67] [true] [] (mask 4) 200 4 [limA rc ct rk lf sz,tvA b,cvA v,.u64 now] (cH v) 2)=some (.bool true,[decide ((200:Int) < ((cL v).length:Int))]):=by cases v <;> cases b <;> kernel_rfl
theorem w4e2:ansO (run1O Try.prog psX csL [53,60,67] [false] [] (mask 4) 200 4 [limA rc ct rk lf sz,tvA b,cvA v,.u64 now] (cH v) 2)=some (.bool true,[!newG keyB keyA rc ct rk lf sz,!newG keyA keyB rc ct rk lf sz,!decide ((200:Int) < ((cL v).length:Int))]):=by cases v <;> cases b <;> kernel_rfl
theorem w4e3:ansO (run1O Try.prog psY csL [53,60,67,300060,300067] [false] [.tup [.ptr 178 0,.int .i64 0],tT 178 (newT keyA keyB true now rc ct rk lf sz),.tup [.ptr 250 0,.int .i64 0],tT 250 (newT keyB keyA false now rc ct rk lf sz)] (mask 4) 200 4 [limA rc ct rk lf sz,tvA b,cvA v,.u64 now] (cH v) 2)=some (.bool true,[mOb (newE obT 4 [0,1,2,3] winV (newT keyB keyA false now rc ct rk lf sz)) 250 (hE2 v now rc ct rk lf sz) (.tup [.ptr 250 0,.int .i64 0]) (hE3 v now rc ct rk lf sz),newG keyB keyA rc ct rk lf sz,mOb (newE obT 4 [0,1,2,3] winV (newT keyA keyB true now rc ct rk lf sz)) 178 (hE1 v rc ct rk lf sz) (.tup [.ptr 178 0,.int .i64 0]) (hE2 v now rc ct rk lf sz),newG keyA keyB rc ct rk lf sz,!decide ((200:Int) < ((cL v).length:Int))]):=by cases v <;> cases b <;> kernel_rfl
end
end Go.Proofs.Ytjdhndicgifnbaa.Tun
