/- Texts Vf0, Vf1, Vf2, Vf3, Vf4, Vf5, Vf6, Vf7, Vf8, Vf9, Vg0, Vg1, Vg2, Vg3, Vg5, Vg4, Vd0, Vd1, Vd2, Vd3, Vd4, Vd5, Vd6, Vh0, Vh1, Vh2, Vh3, Vh4, Vh5: what they show that this claim uses. -/
import Derived.Test.YtcplgmgpagekfaaDoorB7
import Derived.Test.YtcplgmgpagekfaaDoorB10
import Derived.Test.YtcplgmgpagekfaaDoorB12
import Derived.Test.YtcplgmgpagekfaaDoorB6
import Derived.Test.YtcplgmgpagekfaaDoorB9
set_option maxRecDepth 100000
set_option maxHeartbeats 1000000
set_option linter.unusedVariables false
set_option linter.unusedSimpArgs false
namespace Go.Proofs.YtcplgmgpagekfaaDoor
open Go Go.Eng Go.Num Go.Bla
abbrev L8:=List UInt8
structure Fz where
 w:WF
 sh:L8→L8→L8
 sr:L8→L8→Int
 pu:L8→L8
 pr:L8→Int
 sv:L8→L8→L8→L8→L8
 se:L8→L8→L8→L8→Int
 ov:L8→L8→L8→L8→L8
 oe:L8→L8→L8→L8→Int
 no:L8
noncomputable def c42 (φ:Fz):List AVal→Option EffA
 | [.str a,.str b]=>some (.pure (.tup [.str (φ.sh a b),.int .i64 (φ.sr a b)]))
 | _=>none
noncomputable def c20 (φ:Fz):List AVal→Option EffA
 | [.str a]=>some (.pure (.tup [.str (φ.pu a),.int .i64 (φ.pr a)]))
 | _=>none
noncomputable def c44 (φ:Fz):List AVal→Option EffA
 | [.str k,.str n,.str a,.str s]=>some (.pure (.tup [.str (φ.sv k n a s),.int .i64 (φ.se k n a s)]))
 | _=>none
noncomputable def c45 (φ:Fz):List AVal→Option EffA
 | [.u64 0]=>some (.pure (.str φ.no))
 | _=>none
def slO (s:L8):Bool:=Nat.ble s.length 1000000000
noncomputable def q50 (φ:Fz):List AVal→Option (EffA × Bool)
 | [.str k,.str n,.str a,.str s]=>some (.pure (.tup [.str (φ.ov k n a s),.int .i64 (φ.oe k n a s)]),slO s)
 | _=>none
noncomputable def psN (φ:Fz):PS:=psAlt (psOne 29 (q40 φ.w)) (psAlt (psOne 32 (q43 φ.w)) (psOne 35 (q50 φ)))
noncomputable def csC (φ:Fz):CS:=csAlt (csOne 31 (c42 φ)) (csAlt (csOne 15 (c20 φ)) (csAlt (csOne 33 (c44 φ)) (csOne 34 (c45 φ))))
noncomputable def csN (φ:Fz):CS:=csAlt (csP (psN φ)) (csC φ)
structure St where
 h:L8
 ck:L8
 k:L8
 f:Int
def exC (e:Nat) (x y z:L8):List AVal:=match e with
 | 0=>[]
 | 1=>[.str x,.str y]
 | _=>[.str x,.str y,.str z]
def stC (s:St):List AVal:=[.str s.h,.str s.ck,.str s.k,.int .i64 s.f]
def mixS (φ:Fz) (b:L8) (s:St):St:=⟨outC (φ.w (s.h++b)),s.ck,s.k,s.f⟩
def eI (x y:Int):Bool:=x == y
section
variable (φ:Fz) (s:St) (x y z b:L8)
theorem r21:(e:Nat)→e < 3→ansM [1] (run1O Tryd.prog (psN φ) (csN φ) [10,11] [] [] (mask 16) 200 16 [.ptr 1 0,.str b] [(0,.cells true ordC),(1,.cells false (stC s++exC e x y z))] 2)=some (.tup [],[some (.cells false (stC (mixS φ b s)++exC e x y z))],[gd (s.h++b),cB s.h b])
 | 0,_=>by kernel_rfl
 | 1,_=>by kernel_rfl
 | 2,_=>by kernel_rfl
end
noncomputable def mxM (φ:Fz) (args:List AVal):EffA:=inlS Tryd.prog (csN φ) 0 (mask 16) 200 16 1 1 args
noncomputable def c21 (φ:Fz):List AVal→Option EffA
 | [.ptr n 0,.str b]=>some (mxM φ [.ptr n 0,.str b])
 | _=>none
noncomputable def csN2 (φ:Fz):CS:=csAlt (csN φ) (csOne 16 (c21 φ))
def addS (φ:Fz) (a b:L8) (s:St):St:=cond (eI s.f 0) (cond (eI (φ.sr a b) 0) ⟨s.h,kc0 φ.w s.ck (φ.sh a b),kc1 φ.w s.ck (φ.sh a b),φ.sr a b⟩ ⟨s.h,s.ck,s.k,φ.sr a b⟩) s
noncomputable def chO (φ:Fz) (e:Nat) (s:St) (f:Int) (x y z:L8) (t:L8) (base:Nat):Bool:=oB (mkT 0 ordC [.str (kc0 φ.w s.ck t),.str (kc1 φ.w s.ck t)] fun b=>.tup [.slice b 0 2 1,.int .i64 0]) base [(0,.cells true ordC),(1,.cells false (stC ⟨s.h,s.ck,s.k,f⟩++exC e x y z))] (.tup [.slice base 0 2 1,.int .i64 0]) [(0,.cells true ordC),(1,.cells false (stC ⟨s.h,s.ck,s.k,f⟩++exC e x y z)),(base,.cells false [.str (kc0 φ.w s.ck t),.str (kc1 φ.w s.ck t)])]
section
variable (φ:Fz) (s:St) (x y z a b:L8)
theorem r22a:(e:Nat)→e < 3→ansM [1] (run1O Tryd.prog (psN φ) (csN φ) [14] [true] [] (mask 17) 200 17 [.ptr 1 0,.str a,.str b] [(0,.cells true ordC),(1,.cells false (stC s++exC e x y z))] 2)=some (.tup [],[some (.cells false (stC s++exC e x y z))],[!(eI s.f 0)])
 | 0,_=>by kernel_rfl
 | 1,_=>by kernel_rfl
 | 2,_=>by kernel_rfl
theorem r22b:(e:Nat)→e < 3→ansM [1] (run1O Tryd.prog (psN φ) (csN φ) [14,26] [false,false] [] (mask 17) 200 17 [.ptr 1 0,.str a,.str b] [(0,.cells true ordC),(1,.cells false (stC s++exC e x y z))] 2)=some (.tup [],[some (.cells false (stC ⟨s.h,s.ck,s.k,φ.sr a b⟩++exC e x y z))],[!(eI (φ.sr a b) 0),!(!(eI s.f 0))])
 | 0,_=>by kernel_rfl
 | 1,_=>by kernel_rfl
 | 2,_=>by kernel_rfl
theorem r22c:(e:Nat)→e < 3→ansM [1] (run1O Tryd.prog (psN φ) (csN φ) [14,26,33,300033] [false,true] [.tup [.slice 202 0 2 1,.int .i64 0],.tup [.ptr 202 0,.agg [.str (kc0 φ.w s.ck (φ.sh a b)),.str (kc1 φ.w s.ck (φ.sh a b))]]] (mask 17) 200 17 [.ptr 1 0,.str a,.str b] [(0,.cells true ordC),(1,.cells false (stC s++exC e x y z))] 2)=some (.tup [],[some (.cells false (stC ⟨s.h,kc0 φ.w s.ck (φ.sh a b),kc1 φ.w s.ck (φ.sh a b),φ.sr a b⟩++exC e x y z))],[chO φ e s (φ.sr a b) x y z (φ.sh a b) 202,Nat.beq s.ck.length 32 && gdS (φ.sh a b),eI (φ.sr a b) 0,!(!(eI s.f 0))])
 | 0,_=>by kernel_rfl
 | 1,_=>by kernel_rfl
 | 2,_=>by kernel_rfl
end
end Go.Proofs.YtcplgmgpagekfaaDoor
namespace Go.Proofs.YtcplgmgpagekfaaDoor
open Go Go.Eng Go.Num Go.Bla
def setF (s:St) (f:Int):St:=⟨s.h,s.ck,s.k,f⟩
def seC (φ:Fz) (t:L8) (s:St):L8:=cond (eI s.f 0) (φ.sv s.k φ.no s.h t) []
def sealS (φ:Fz) (t:L8) (s:St):St:=cond (eI s.f 0) (mixS φ (φ.sv s.k φ.no s.h t) (setF s (φ.se s.k φ.no s.h t))) s
def opC (φ:Fz) (c:L8) (s:St):L8:=cond (eI s.f 0) (φ.ov s.k φ.no s.h c) []
def openS (φ:Fz) (c:L8) (s:St):St:=cond (eI s.f 0) (mixS φ c (setF s (φ.oe s.k φ.no s.h c))) s
def HS (s:St) (e:Nat) (x y z:L8):HL:=[(0,.cells true ordC),(1,.cells false (stC s++exC e x y z))]
noncomputable def mxO (φ:Fz) (s:St) (e:Nat) (x y z b:L8) (base:Nat):Bool:=oB (mxM φ [.ptr 1 0,.str b]) base (HS s e x y z) (.tup []) (HS (mixS φ b s) e x y z)
section
variable (φ:Fz) (s:St) (x y z t:L8)
theorem r23a:(e:Nat)→e < 3→ansM [1] (run1O Tryd.prog (psN φ) (csN2 φ) [11] [true] [] (mask 18) 200 18 [.ptr 1 0,.str t] (HS s e x y z) 2)=some (.str [],[some (.cells false (stC s++exC e x y z))],[!(eI s.f 0)])
 | 0,_=>by kernel_rfl
 | 1,_=>by kernel_rfl
 | 2,_=>by kernel_rfl
theorem r23b:(e:Nat)→e < 3→ansM [1] (run1O Tryd.prog (psN φ) (csN2 φ) [11,300032] [false] [.tup [],.tup [.ptr 1 0,.agg (stC (mixS φ (φ.sv s.k φ.no s.h t) (setF s (φ.se s.k φ.no s.h t)))++exC e x y z)]] (mask 18) 200 18 [.ptr 1 0,.str t] (HS s e x y z) 2)=some (.str (φ.sv s.k φ.no s.h t),[some (.cells false (stC (mixS φ (φ.sv s.k φ.no s.h t) (setF s (φ.se s.k φ.no s.h t)))++exC e x y z))],[mxO φ (setF s (φ.se s.k φ.no s.h t)) e x y z (φ.sv s.k φ.no s.h t) 234,!(!(eI s.f 0))])
 | 0,_=>by kernel_rfl
 | 1,_=>by kernel_rfl
 | 2,_=>by kernel_rfl
theorem r28a:(e:Nat)→e < 3→ansM [1] (run1O Tryd.prog (psN φ) (csN2 φ) [11] [true] [] (mask 19) 200 19 [.ptr 1 0,.str t] (HS s e x y z) 2)=some (.str [],[some (.cells false (stC s++exC e x y z))],[!(eI s.f 0)])
 | 0,_=>by kernel_rfl
 | 1,_=>by kernel_rfl
 | 2,_=>by kernel_rfl
theorem r28b:(e:Nat)→e < 3→ansM [1] (run1O Tryd.prog (psN φ) (csN2 φ) [11,23,300032] [false] [.tup [],.tup [.ptr 1 0,.agg (stC (mixS φ t (setF s (φ.oe s.k φ.no s.h t)))++exC e x y z)]] (mask 19) 200 19 [.ptr 1 0,.str t] (HS s e x y z) 2)=some (.str (φ.ov s.k φ.no s.h t),[some (.cells false (stC (mixS φ t (setF s (φ.oe s.k φ.no s.h t)))++exC e x y z))],[mxO φ (setF s (φ.oe s.k φ.no s.h t)) e x y z t 234,slO t,!(!(eI s.f 0))])
 | 0,_=>by kernel_rfl
 | 1,_=>by kernel_rfl
 | 2,_=>by kernel_rfl
theorem r30:(e:Nat)→e < 3→ansM [1] (run1O Tryd.prog (psN φ) (csN2 φ) [11,300011] [] [.tup [.slice 50 0 2 1,.int .i64 0],.tup [.ptr 50 0,.agg [.str (kc0 φ.w s.ck []),.str (kc1 φ.w s.ck [])]]] (mask 20) 200 20 [.ptr 1 0] (HS s e x y z) 2)=some (.tup [.str (kc0 φ.w s.ck []),.str (kc1 φ.w s.ck [])],[some (.cells false (stC s++exC e x y z))],[chO φ e s s.f x y z [] 50,Nat.beq s.ck.length 32 && gdS []])
 | 0,_=>by kernel_rfl
 | 1,_=>by kernel_rfl
 | 2,_=>by kernel_rfl
end
noncomputable def adM (φ:Fz) (args:List AVal):EffA:=inlS Tryd.prog (csN φ) 0 (mask 17) 200 17 1 1 args
noncomputable def slM (φ:Fz) (args:List AVal):EffA:=inlS Tryd.prog (csN2 φ) 0 (mask 18) 200 18 1 1 args
noncomputable def opM (φ:Fz) (args:List AVal):EffA:=inlS Tryd.prog (csN2 φ) 0 (mask 19) 200 19 1 1 args
noncomputable def kyM (φ:Fz) (args:List AVal):EffA:=inlS Tryd.prog (csN2 φ) 0 (mask 20) 200 20 1 1 args
noncomputable def c22 (φ:Fz):List AVal→Option EffA
 | [.ptr n 0,.str a,.str b]=>some (adM φ [.ptr n 0,.str a,.str b])
 | _=>none
noncomputable def c23 (φ:Fz):List AVal→Option EffA
 | [.ptr n 0,.str b]=>some (slM φ [.ptr n 0,.str b])
 | _=>none
noncomputable def c28 (φ:Fz):List AVal→Option EffA
 | [.ptr n 0,.str b]=>some (opM φ [.ptr n 0,.str b])
 | _=>none
noncomputable def c30 (φ:Fz):List AVal→Option EffA
 | [.ptr n 0]=>some (kyM φ [.ptr n 0])
 | _=>none
noncomputable def csN3 (φ:Fz):CS:=csAlt (csN2 φ) (csAlt (csOne 17 (c22 φ)) (csAlt (csOne 18 (c23 φ)) (csAlt (csOne 19 (c28 φ)) (csOne 20 (c30 φ)))))
theorem psN_ok (φ:Fz):PSOk (psN φ) (csN φ):=csP_ok
theorem psN_ok2 (φ:Fz):PSOk (psN φ) (csN2 φ):=fun f args e h=>by
 unfold csN2 csAlt
 rw [psN_ok φ f args e h]
theorem lt_ex (s:St) (x y z:L8):(e:Nat)→e < 3→ltL 0 (stC s++exC e x y z)=true
 | 0,_=>rfl
 | 1,_=>rfl
 | 2,_=>rfl
section
variable (φ:Fz) (s:St) (e:Nat) (he:e < 3) (x y z:L8){H:HL}{n base:Nat}(h0:aget H 0=some (.cells true ordC)) (hn:aget H n=some (.cells false (stC s++exC e x y z)))
include he h0 hn
theorem mix_app (b:L8) (hb:s.h.length+b.length≤12000) (hh:0 < s.h.length):(mxM φ [.ptr n 0,.str b]).app base H=some (.tup [],aset H n (.cells false (stC (mixS φ b s)++exC e x y z))):=by
 refine one_app gl1 (ansM_R (psN_ok φ) (r21 φ s x y z b e he) (allM (gd_of ?_ ?_) (allM (cB_of ?_) rfl))) h0 hn ordC_lt rfl (lt_ex _ _ _ _ e he) (lt_ex _ _ _ _ e he) rfl
 all_goals (try rw [List.length_append]) <;> omega
theorem add_app (a b:L8) (hk:s.ck.length=32) (hs:(φ.sh a b).length≤11900):(adM φ [.ptr n 0,.str a,.str b]).app base H=some (.tup [],aset H n (.cells false (stC (addS φ a b s)++exC e x y z))):=by
 unfold addS
 cases h1:eI s.f 0 with
 | false =>
  simp only [cond_false]
  exact one_app gl1 (ansM_R (psN_ok φ) (r22a φ s x y z a b e he) (allM (by rw [h1]; rfl) rfl)) h0 hn ordC_lt rfl (lt_ex _ _ _ _ e he) (lt_ex _ _ _ _ e he) rfl
 | true =>
  simp only [cond_true]
  cases h2:eI (φ.sr a b) 0 with
  | false =>
   simp only [cond_false]
   exact one_app gl1 (ansM_R (psN_ok φ) (r22b φ s x y z a b e he) (allM (by rw [h2]; rfl) (allM (by rw [h1]; rfl) rfl))) h0 hn ordC_lt rfl (lt_ex _ _ _ _ e he) (lt_ex _ _ _ _ e he) rfl
  | true =>
   simp only [cond_true]
   refine one_app gl1 (ansM_R (psN_ok φ) (r22c φ s x y z a b e he) (allM (oB_of ?_) (allM ?_ (allM h2 (allM (by rw [h1]; rfl) rfl))))) h0 hn ordC_lt rfl (lt_ex _ _ _ _ e he) (lt_ex _ _ _ _ e he) rfl
   ·exact mkT_app rfl
   ·rw [hk]; exact Nat.ble_eq_true_of_le hs
end
theorem mxO_ok (φ:Fz) (e:Nat) (he:e < 3) (x y z:L8) (s:St) (b:L8) (base:Nat) (hb:s.h.length+b.length≤12000) (hh:0 < s.h.length):mxO φ s e x y z b base=true:=
 oB_of (mix_app φ s e he x y z (H:=HS s e x y z) (n:=1) rfl rfl b hb hh)
section
variable (φ:Fz) (s:St) (e:Nat) (he:e < 3) (x y z:L8){H:HL}{n base:Nat}(h0:aget H 0=some (.cells true ordC)) (hn:aget H n=some (.cells false (stC s++exC e x y z)))
include he h0 hn
theorem seal_app (t:L8) (hs:s.h.length+(φ.sv s.k φ.no s.h t).length≤12000) (hh:0 < s.h.length):(slM φ [.ptr n 0,.str t]).app base H=some (.str (seC φ t s),aset H n (.cells false (stC (sealS φ t s)++exC e x y z))):=by
 unfold seC sealS
 cases h1:eI s.f 0 with
 | false =>
  simp only [cond_false]
  exact one_app gl1 (ansM_R (psN_ok2 φ) (r23a φ s x y z t e he) (allM (by rw [h1]; rfl) rfl)) h0 hn ordC_lt rfl (lt_ex _ _ _ _ e he) (lt_ex _ _ _ _ e he) rfl
 | true =>
  simp only [cond_true]
  exact one_app gl1 (ansM_R (psN_ok2 φ) (r23b φ s x y z t e he) (allM (mxO_ok φ e he x y z _ _ _ hs hh) (allM (by rw [h1]; rfl) rfl))) h0 hn ordC_lt rfl (lt_ex _ _ _ _ e he) (lt_ex _ _ _ _ e he) rfl
theorem open_app (t:L8) (hs:s.h.length+t.length≤12000) (hh:0 < s.h.length):(opM φ [.ptr n 0,.str t]).app base H=some (.str (opC φ t s),aset H n (.cells false (stC (openS φ t s)++exC e x y z))):=by
 unfold opC openS
 cases h1:eI s.f 0 with
 | false =>
  simp only [cond_false]
  exact one_app gl1 (ansM_R (psN_ok2 φ) (r28a φ s x y z t e he) (allM (by rw [h1]; rfl) rfl)) h0 hn ordC_lt rfl (lt_ex _ _ _ _ e he) (lt_ex _ _ _ _ e he) rfl
 | true =>
  simp only [cond_true]
  exact one_app gl1 (ansM_R (psN_ok2 φ) (r28b φ s x y z t e he) (allM (mxO_ok φ e he x y z _ _ _ hs hh) (allM (Nat.ble_eq_true_of_le (by omega)) (allM (by rw [h1]; rfl) rfl)))) h0 hn ordC_lt rfl (lt_ex _ _ _ _ e he) (lt_ex _ _ _ _ e he) rfl
theorem keys_app (hk:s.ck.length=32):(kyM φ [.ptr n 0]).app base H=some (.tup [.str (kc0 φ.w s.ck []),.str (kc1 φ.w s.ck [])],aset H n (.cells false (stC s++exC e x y z))):=by
 refine one_app gl1 (ansM_R (psN_ok2 φ) (r30 φ s x y z e he) (allM (oB_of (mkT_app rfl)) (allM (by rw [hk]; rfl) rfl))) h0 hn ordC_lt rfl (lt_ex _ _ _ _ e he) (lt_ex _ _ _ _ e he) ?_
 rfl
end
end Go.Proofs.YtcplgmgpagekfaaDoor
namespace Go.Proofs.YtcplgmgpagekfaaDoor
open Go Go.Eng Go.Num Go.Bla
def nmL:L8:=[78,111,105,115,101,95,73,75,95,50,53,53,49,57,95,67,104,97,67,104,97,80,111,108,121,95,66,76,65,75,69,50,115]
def st0 (φ:Fz):St:=⟨outC (φ.w nmL),outC (φ.w nmL),[],0⟩
def bgS (φ:Fz) (p o:L8):St:=mixS φ o (mixS φ p (st0 φ))
noncomputable def mB (φ:Fz) (n:Nat) (s:St) (e:Nat) (x y z b:L8) (base:Nat) (hs:HL):Bool:=oB (mxM φ [.ptr n 0,.str b]) base ((0,.cells true ordC)::hs++[(n,.cells false (stC s++exC e x y z))]) (.tup []) ((0,.cells true ordC)::hs++[(n,.cells false (stC (mixS φ b s)++exC e x y z))])
noncomputable def aB (φ:Fz) (n:Nat) (s:St) (e:Nat) (x y z a b:L8) (base:Nat) (hs:HL):Bool:=oB (adM φ [.ptr n 0,.str a,.str b]) base ((0,.cells true ordC)::hs++[(n,.cells false (stC s++exC e x y z))]) (.tup []) ((0,.cells true ordC)::hs++[(n,.cells false (stC (addS φ a b s)++exC e x y z))])
noncomputable def sB (φ:Fz) (n:Nat) (s:St) (e:Nat) (x y z t:L8) (base:Nat) (hs:HL):Bool:=oB (slM φ [.ptr n 0,.str t]) base ((0,.cells true ordC)::hs++[(n,.cells false (stC s++exC e x y z))]) (.str (seC φ t s)) ((0,.cells true ordC)::hs++[(n,.cells false (stC (sealS φ t s)++exC e x y z))])
noncomputable def pB (φ:Fz) (n:Nat) (s:St) (e:Nat) (x y z t:L8) (base:Nat) (hs:HL):Bool:=oB (opM φ [.ptr n 0,.str t]) base ((0,.cells true ordC)::hs++[(n,.cells false (stC s++exC e x y z))]) (.str (opC φ t s)) ((0,.cells true ordC)::hs++[(n,.cells false (stC (openS φ t s)++exC e x y z))])
def bk (n:Nat) (s:St) (e:Nat) (x y z:L8):AVal:=.tup [.ptr n 0,.agg (stC s++exC e x y z)]
theorem run19 (φ:Fz) (p o:L8):ansO (run1O Tryd.prog (psN φ) (csN2 φ) [7,300012,300014] [] [.tup [],bk 49 (mixS φ p (st0 φ)) 0 [] [] [],.tup [],bk 49 (bgS φ p o) 0 [] [] []] (mask 14) 200 14 [.str p,.str o] H0 1)=some (.agg (stC (bgS φ p o)),[mB φ 49 (mixS φ p (st0 φ)) 0 [] [] [] o 89 [(1,.cells false [.str [],.str [],.str [],.int .i64 0])],mB φ 49 (st0 φ) 0 [] [] [] p 73 [(1,.cells false [.str [],.str [],.str [],.int .i64 0])],gd nmL]):=by kernel_rfl
def g19 (p o:L8):Bool:=Nat.ble p.length 4096 && Nat.ble o.length 4096
noncomputable def q19 (φ:Fz):List AVal→Option (EffA × Bool)
 | [.str p,.str o]=>some (tL (some (.agg (stC (bgS φ p o)))),g19 p o)
 | _=>none
noncomputable def ps4 (φ:Fz):PS:=psAlt (psOne 14 (q19 φ)) (psN φ)
noncomputable def csN4 (φ:Fz):CS:=csAlt (csP (ps4 φ)) (csN3 φ)
def neB (s:L8) (n:Int):Bool:=!(eI (s.length:Int) n)
def gtB (s:L8) (n:Int):Bool:=decide (n < (s.length:Int))
def b1 (φ:Fz) (a o e p t:L8):St:=mixS φ (φ.pu e) (bgS φ p o)
def b2 (φ:Fz) (a o e p t:L8):St:=addS φ e o (b1 φ a o e p t)
def b3 (φ:Fz) (a o e p t:L8):St:=sealS φ (φ.pu a) (b2 φ a o e p t)
def b4 (φ:Fz) (a o e p t:L8):St:=addS φ a o (b3 φ a o e p t)
def b5 (φ:Fz) (a o e p t:L8):St:=sealS φ t (b4 φ a o e p t)
def m1 (φ:Fz) (a o e p t:L8):L8:=φ.pu e++seC φ (φ.pu a) (b2 φ a o e p t)
def m2 (φ:Fz) (a o e p t:L8):L8:=m1 φ a o e p t++seC φ t (b4 φ a o e p t)
def sy8:List Nat:=[21,25,30,35,39,43,300063,300069,300075,76,300082,300088,89,95]
section
variable (φ:Fz) (a o e p t:L8)
noncomputable def run8 (os:List Bool):Option (AVal × List (Option AObj) × List Bool):=ansM [265] (run1O Tryd.prog (ps4 φ) (csN4 φ) sy8 os [.tup [],bk 265 (b1 φ a o e p t) 2 a e o,.tup [],bk 265 (b2 φ a o e p t) 2 a e o,.str (seC φ (φ.pu a) (b2 φ a o e p t)),bk 265 (b3 φ a o e p t) 2 a e o,.tup [],bk 265 (b4 φ a o e p t) 2 a e o,.str (seC φ t (b4 φ a o e p t)),bk 265 (b5 φ a o e p t) 2 a e o] (mask 8) 200 8 [.str a,.str o,.str e,.str p,.str t] H0 1)
noncomputable def ob8:List Bool:=[cB (m1 φ a o e p t) (seC φ t (b4 φ a o e p t)),sB φ 265 (b4 φ a o e p t) 2 a e o t 633 [],aB φ 265 (b3 φ a o e p t) 2 a e o a o 585 [],cB (φ.pu e) (seC φ (φ.pu a) (b2 φ a o e p t)),sB φ 265 (b2 φ a o e p t) 2 a e o (φ.pu a) 521 [],aB φ 265 (b1 φ a o e p t) 2 a e o e o 473 [],mB φ 265 (bgS φ p o) 2 a e o (φ.pu e) 425 [],g19 p o,!(gtB t 4096),!(gtB p 4096),!(neB e 32),!(neB o 32),!(neB a 32)]
theorem run8a:run8 φ a o e p t [true]=some (.tup [.nilPtr,.str [],.int .i64 2],[none],[neB a 32]):=by kernel_rfl
theorem run8b:run8 φ a o e p t [false,true]=some (.tup [.nilPtr,.str [],.int .i64 2],[none],[neB o 32,!(neB a 32)]):=by kernel_rfl
theorem run8c:run8 φ a o e p t [false,false,true]=some (.tup [.nilPtr,.str [],.int .i64 2],[none],[neB e 32,!(neB o 32),!(neB a 32)]):=by kernel_rfl
theorem run8d:run8 φ a o e p t [false,false,false,true]=some (.tup [.nilPtr,.str [],.int .i64 4],[none],[gtB p 4096,!(neB e 32),!(neB o 32),!(neB a 32)]):=by kernel_rfl
theorem run8e:run8 φ a o e p t [false,false,false,false,true]=some (.tup [.nilPtr,.str [],.int .i64 4],[none],[gtB t 4096,!(gtB p 4096),!(neB e 32),!(neB o 32),!(neB a 32)]):=by kernel_rfl
theorem run8f:run8 φ a o e p t [false,false,false,false,false,true]=some (.tup [.nilPtr,.str [],.int .i64 (b5 φ a o e p t).f],[some (.cells false (stC (b5 φ a o e p t)++exC 2 a e o))],(!(eI (b5 φ a o e p t).f 0))::ob8 φ a o e p t):=by kernel_rfl
theorem run8g:run8 φ a o e p t [false,false,false,false,false,false]=some (.tup [.ptr 265 0,.str (m2 φ a o e p t),.int .i64 0],[some (.cells false (stC (b5 φ a o e p t)++exC 2 a e o))],(!(!(eI (b5 φ a o e p t).f 0)))::ob8 φ a o e p t):=by kernel_rfl
end
end Go.Proofs.YtcplgmgpagekfaaDoor
namespace Go.Proofs.YtcplgmgpagekfaaDoor
open Go Go.Eng Go.Num Go.Bla
structure OkZ (φ:Fz):Prop where
 hpu:∀ a,(φ.pu a).length≤32
 hsh:∀ a b,(φ.sh a b).length≤32
 hsv:∀ k n a t,(φ.sv k n a t).length≤t.length+16
def Inv (s:St):Prop:=s.h.length=32∧s.ck.length=32
theorem inv_st0 (φ:Fz):Inv (st0 φ):=⟨outC_len _,outC_len _⟩
theorem inv_mix {φ:Fz}{s:St}(b:L8) (h:Inv s):Inv (mixS φ b s):=⟨outC_len _,h.2⟩
theorem inv_add {φ:Fz}{s:St}(a b:L8) (h:Inv s):Inv (addS φ a b s):=by
 unfold addS
 cases eI s.f 0
 ·exact h
 ·cases eI (φ.sr a b) 0
  ·exact h
  ·exact ⟨h.1,outC_len _⟩
theorem inv_seal {φ:Fz}{s:St}(t:L8) (h:Inv s):Inv (sealS φ t s):=by
 unfold sealS
 cases eI s.f 0
 ·exact h
 ·exact inv_mix _ h
theorem inv_open {φ:Fz}{s:St}(t:L8) (h:Inv s):Inv (openS φ t s):=by
 unfold openS
 cases eI s.f 0
 ·exact h
 ·exact inv_mix _ h
theorem inv_bg (φ:Fz) (p o:L8):Inv (bgS φ p o):=inv_mix _ (inv_mix _ (inv_st0 φ))
section
variable {φ:Fz}(hφ:OkZ φ){n:Nat}{s:St}(hi:Inv s){e:Nat}(he:e < 3){x y z:L8}{base:Nat}{hs:HL}(h0:aget ((0,.cells true ordC)::hs++[(n,.cells false (stC s++exC e x y z))]) 0=some (.cells true ordC)) (hn:aget ((0,.cells true ordC)::hs++[(n,.cells false (stC s++exC e x y z))]) n=some (.cells false (stC s++exC e x y z)))
 (hc:∀ c,aset ((0,.cells true ordC)::hs++[(n,.cells false (stC s++exC e x y z))]) n (.cells false c)=(0,.cells true ordC)::hs++[(n,.cells false c)])
include hi he h0 hn hc
theorem mB_ok (b:L8) (hb:b.length≤11000):mB φ n s e x y z b base hs=true:=by
 refine oB_of ?_
 rw [mix_app φ s e he x y z h0 hn b (by rw [hi.1]; omega) (by rw [hi.1]; omega),hc]
include hφ in
theorem aB_ok (a b:L8):aB φ n s e x y z a b base hs=true:=by
 refine oB_of ?_
 rw [add_app φ s e he x y z h0 hn a b hi.2 (by have:=hφ.hsh a b; omega),hc]
include hφ in
theorem sB_ok (t:L8) (ht:t.length≤11000):sB φ n s e x y z t base hs=true:=by
 refine oB_of ?_
 rw [seal_app φ s e he x y z h0 hn t (by rw [hi.1]; have:=hφ.hsv s.k φ.no s.h t; omega) (by rw [hi.1]; omega),hc]
theorem pB_ok (t:L8) (ht:t.length≤11000):pB φ n s e x y z t base hs=true:=by
 refine oB_of ?_
 rw [open_app φ s e he x y z h0 hn t (by rw [hi.1]; omega) (by rw [hi.1]; omega),hc]
end
theorem seC_len {φ:Fz}(hφ:OkZ φ) (t:L8) (s:St):(seC φ t s).length≤t.length+16:=by
 unfold seC
 cases eI s.f 0
 ·simp
 ·exact hφ.hsv _ _ _ _
theorem ansM_val {P:Program}{ps:PS}{cs:CS}(hps:PSOk ps cs){sy:List Nat}{os:List Bool}{vs:List AVal}{nn F:Nat}{f:FuncId}{args:List AVal}{H:HL}{fr:Nat}{ns:List Nat}{v:AVal}{L:List (Option AObj)}{ob:List Bool}(h:ansM ns (run1O P ps cs sy os vs nn F f args H fr)=some (v,L,ob)) (ha:allT ob=true):∃ F nn H' fr',run1 P cs nn F f args H fr=some (v,H',fr'):=by
 have:=ansM_R hps h ha
 unfold ansR at this
 split at this
 ·rename_i v' H' fr' hx
  simp only [Option.some.injEq,Prod.mk.injEq] at this
  obtain ⟨rfl,_⟩:=this
  exact ⟨_,_,_,_,hx⟩
 ·cases this
theorem call19 {φ:Fz}(hcs:CSOk Tryd.prog (csN2 φ)):CSOk Tryd.prog (csP (psOne 14 (q19 φ))):=psOne_ok fun args e he=>by
 unfold q19 at he
 split at he
 ·rename_i p o
  simp only [Option.some.injEq,Prod.mk.injEq] at he
  obtain ⟨rfl,hg⟩:=he
  unfold g19 at hg
  rw [Bool.and_eq_true] at hg
  have h1:=Nat.le_of_ble_eq_true hg.1
  have h2:=Nat.le_of_ble_eq_true hg.2
  refine callOk_tL hcs rfl fun x hx => ?_
  cases hx
  exact ⟨rfl,200,mask 14,run_of (ansO_run (psN_ok2 φ) (run19 φ p o) (allM (mB_ok (inv_mix _ (inv_st0 φ)) (by decide) rfl rfl (fun _=>rfl) _ (by omega)) (allM (mB_ok (inv_st0 φ) (by decide) rfl rfl (fun _=>rfl) _ (by omega)) (allM rfl rfl))))⟩
 ·cases he
noncomputable def lkE (v:AVal):EffA:=tL (some v)
noncomputable def bgE (φ:Fz) (a o e p t:L8):EffA:=cond (neB a 32 || (neB o 32 || neB e 32)) (lkE (.tup [.nilPtr,.str [],.int .i64 2])) (cond (gtB p 4096 || gtB t 4096) (lkE (.tup [.nilPtr,.str [],.int .i64 4])) (cond (eI (b5 φ a o e p t).f 0) (mkT 0 ordC (stC (b5 φ a o e p t)++exC 2 a e o) fun b=>.tup [.ptr b 0,.str (m2 φ a o e p t),.int .i64 0]) (lkE (.tup [.nilPtr,.str [],.int .i64 (b5 φ a o e p t).f]))))
noncomputable def c8 (φ:Fz):List AVal→Option EffA
 | [.str a,.str o,.str e,.str p,.str t]=>some (bgE φ a o e p t)
 | _=>none
theorem lk_ok {cs:CS}(hcs:CSOk Tryd.prog cs){f:FuncId}{args:List AVal}(hcan:canL Tryd.prog.globals.size [] args=some (args,[])){v:AVal}(hv:ltV 0 v=true) (h:∃ F nn H' fr',run1 Tryd.prog cs nn F f args H0 1=some (v,H',fr')):CallOk Tryd.prog f args (lkE v):=
 callOk_tL hcs hcan fun x hx=>by cases hx; exact ⟨hv,h⟩
theorem len_eq {a:L8}(h:neB a 32=false):a.length=32:=by
 unfold neB eI at h
 simp at h
 omega
theorem len_le {a:L8}(h:gtB a 4096=false):a.length≤4096:=by
 unfold gtB at h
 simp at h
 omega
theorem ob8_ok {φ:Fz}(hφ:OkZ φ){a o e p t:L8}(ha:neB a 32=false) (ho:neB o 32=false) (he:neB e 32=false) (hp:gtB p 4096=false) (ht:gtB t 4096=false):allT (ob8 φ a o e p t)=true:=by
 have l1:=len_eq ho
 have l2:=len_le hp
 have l3:=len_le ht
 have i0:=inv_bg φ p o
 have i1:Inv (b1 φ a o e p t):=inv_mix _ i0
 have i2:Inv (b2 φ a o e p t):=inv_add _ _ i1
 have i3:Inv (b3 φ a o e p t):=inv_seal _ i2
 have i4:Inv (b4 φ a o e p t):=inv_add _ _ i3
 have p1:=hφ.hpu e
 have p2:=hφ.hpu a
 have s1:=seC_len hφ (φ.pu a) (b2 φ a o e p t)
 have s2:=seC_len hφ t (b4 φ a o e p t)
 unfold ob8
 refine allM (cB_of ?_) (allM (sB_ok hφ i4 (by decide) rfl rfl (fun _=>rfl) _ (by omega)) (allM (aB_ok hφ i3 (by decide) rfl rfl (fun _=>rfl) _ _) (allM (cB_of ?_) (allM (sB_ok hφ i2 (by decide) rfl rfl (fun _=>rfl) _ (by omega)) (allM (aB_ok hφ i1 (by decide) rfl rfl (fun _=>rfl) _ _) (allM (mB_ok i0 (by decide) rfl rfl (fun _=>rfl) _ (by omega)) (allM ?_ (allM (by rw [ht]; rfl) (allM (by rw [hp]; rfl) (allM (by rw [he]; rfl) (allM (by rw [ho]; rfl) (allM (by rw [ha]; rfl) rfl))))))))))))
 ·unfold m1; rw [List.length_append]; omega
 ·omega
 ·unfold g19
  rw [Bool.and_eq_true]
  exact ⟨Nat.ble_eq_true_of_le l2,Nat.ble_eq_true_of_le (by omega)⟩
theorem call8 {φ:Fz}(hφ:OkZ φ) (hcs:CSOk Tryd.prog (csN4 φ)):CSOk Tryd.prog (csOne 8 (c8 φ)):=csOne_ok fun args ef hef=>by
 have hps:PSOk (ps4 φ) (csN4 φ):=csP_ok
 unfold c8 at hef
 split at hef
 ·rename_i a o e p t
  cases hef
  unfold bgE
  cases ha:neB a 32 with
  | true=>exact lk_ok hcs rfl rfl (ansM_val hps (run8a φ a o e p t) (allM ha rfl))
  | false =>
  cases ho:neB o 32 with
  | true=>exact lk_ok hcs rfl rfl (ansM_val hps (run8b φ a o e p t) (allM ho (allM (by rw [ha]; rfl) rfl)))
  | false =>
  cases he:neB e 32 with
  | true=>exact lk_ok hcs rfl rfl (ansM_val hps (run8c φ a o e p t) (allM he (allM (by rw [ho]; rfl) (allM (by rw [ha]; rfl) rfl))))
  | false =>
  cases hp:gtB p 4096 with
  | true=>exact lk_ok hcs rfl rfl (ansM_val hps (run8d φ a o e p t) (allM hp (allM (by rw [he]; rfl) (allM (by rw [ho]; rfl) (allM (by rw [ha]; rfl) rfl)))))
  | false =>
  cases ht:gtB t 4096 with
  | true=>exact lk_ok hcs rfl rfl (ansM_val hps (run8e φ a o e p t) (allM ht (allM (by rw [hp]; rfl) (allM (by rw [he]; rfl) (allM (by rw [ho]; rfl) (allM (by rw [ha]; rfl) rfl))))))
  | false =>
  have hob:=ob8_ok hφ ha ho he hp ht
  cases hf:eI (b5 φ a o e p t).f 0 with
  | false=>exact lk_ok hcs rfl rfl (ansM_val hps (run8f φ a o e p t) (allM (by rw [hf]; rfl) hob))
  | true=>exact callOk_mkT hcs hmix gl1 (by decide) ordC_lt rfl (lt_ex _ _ _ _ 2 (by decide)) (fun ρ a b h=>.tupL (RL.cons (.ptr h) (RL.same rfl))) (ansM_R hps (run8g φ a o e p t) (allM (by rw [hf]; rfl) hob)) (by decide)
 ·cases hef
end Go.Proofs.YtcplgmgpagekfaaDoor
namespace Go.Proofs.YtcplgmgpagekfaaDoor
open Go Go.Eng Go.Num Go.Bla
def sl (s:L8) (a b:Int):L8:=(s.take b.toNat).drop a.toNat
def inS (s:L8) (a b:Int):Bool:=decide (0≤a) && (decide (a≤b) && decide (b≤(s.length:Int)))
def gotC (a b c d e:L8):List AVal:=[.str a,.str b,.str c,.str d,.str e]
def got0:List AVal:=gotC [] [] [] [] []
section
variable (φ:Fz) (sec p m:L8)
def e1:L8:=sl m 0 32
def d1:L8:=sl m 32 80
def d2:L8:=sl m 80 (m.length:Int)
def g0:St:=bgS φ p (φ.pu sec)
def g1:St:=mixS φ (e1 m) (g0 φ sec p)
def g2:St:=addS φ sec (e1 m) (g1 φ sec p m)
def sta:L8:=opC φ (d1 m) (g2 φ sec p m)
def g3:St:=openS φ (d1 m) (g2 φ sec p m)
def g4:St:=addS φ sec (sta φ sec p m) (g3 φ sec p m)
def pay:L8:=opC φ (d2 m) (g4 φ sec p m)
def g5:St:=openS φ (d2 m) (g4 φ sec p m)
def ltB2 (s:L8) (n:Int):Bool:=decide ((s.length:Int) < n)
def hG0:HL:=[(9,.cells false got0)]
noncomputable def run11 (os:List Bool):Option (AVal × List (Option AObj) × List Bool):=ansM [265] (run1O Tryd.prog (ps4 φ) (csN4 φ) [16,21,25,31,40,42,300052,300061,67,300068,300079,84,300085,91] os [.tup [],bk 265 (g1 φ sec p m) 1 [] (e1 m) [],.tup [],bk 265 (g2 φ sec p m) 1 [] (e1 m) [],.str (sta φ sec p m),bk 265 (g3 φ sec p m) 1 [] (e1 m) [],.tup [],bk 265 (g4 φ sec p m) 1 (sta φ sec p m) (e1 m) [],.str (pay φ sec p m),bk 265 (g5 φ sec p m) 1 (sta φ sec p m) (e1 m) []] (mask 9) 200 9 [.str sec,.str p,.str m] H0 1)
noncomputable def ob11:List Bool:=[pB φ 265 (g4 φ sec p m) 1 (sta φ sec p m) (e1 m) [] (d2 m) 609 hG0,inS m 80 (m.length:Int),aB φ 265 (g3 φ sec p m) 1 (sta φ sec p m) (e1 m) [] sec (sta φ sec p m) 561 hG0,pB φ 265 (g2 φ sec p m) 1 [] (e1 m) [] (d1 m) 465 hG0,inS m 32 80,aB φ 265 (g1 φ sec p m) 1 [] (e1 m) [] sec (e1 m) 409 hG0,mB φ 265 (g0 φ sec p) 1 [] (e1 m) [] (e1 m) 337 hG0,inS m 0 32,g19 p (φ.pu sec),!(ltB2 m 96),!(gtB m 4192),!(gtB p 4096),!(neB sec 32)]
theorem run11a:run11 φ sec p m [true]=some (.tup [.nilPtr,.agg got0,.int .i64 2],[none],[neB sec 32]):=by kernel_rfl
theorem run11b:run11 φ sec p m [false,true]=some (.tup [.nilPtr,.agg got0,.int .i64 4],[none],[gtB p 4096,!(neB sec 32)]):=by kernel_rfl
theorem run11c:run11 φ sec p m [false,false,true]=some (.tup [.nilPtr,.agg got0,.int .i64 4],[none],[gtB m 4192,!(gtB p 4096),!(neB sec 32)]):=by kernel_rfl
theorem run11d:run11 φ sec p m [false,false,false,true]=some (.tup [.nilPtr,.agg got0,.int .i64 7],[none],[ltB2 m 96,!(gtB m 4192),!(gtB p 4096),!(neB sec 32)]):=by kernel_rfl
theorem run11e:run11 φ sec p m [false,false,false,false,true]=some (.tup [.nilPtr,.agg got0,.int .i64 (g5 φ sec p m).f],[some (.cells false (stC (g5 φ sec p m)++exC 1 (sta φ sec p m) (e1 m) []))],(!(eI (g5 φ sec p m).f 0))::ob11 φ sec p m):=by kernel_rfl
theorem run11f:run11 φ sec p m [false,false,false,false,false]=some (.tup [.ptr 265 0,.agg (gotC (sta φ sec p m) (pay φ sec p m) [] [] []),.int .i64 0],[some (.cells false (stC (g5 φ sec p m)++exC 1 (sta φ sec p m) (e1 m) []))],(!(!(eI (g5 φ sec p m).f 0)))::ob11 φ sec p m):=by kernel_rfl
end
end Go.Proofs.YtcplgmgpagekfaaDoor
namespace Go.Proofs.YtcplgmgpagekfaaDoor
open Go Go.Eng Go.Num Go.Bla
def noB (s:L8):Bool:=s == []
noncomputable def kB (φ:Fz) (n:Nat) (s:St) (e:Nat) (x y z:L8) (base:Nat) (hs:HL):Bool:=oB (kyM φ [.ptr n 0]) base ((0,.cells true ordC)::hs++[(n,.cells false (stC s++exC e x y z))]) (.tup [.str (kc0 φ.w s.ck []),.str (kc1 φ.w s.ck [])]) ((0,.cells true ordC)::hs++[(n,.cells false (stC s++exC e x y z))])
section
variable (φ:Fz) (s:St) (sa ep e t:L8)
def u1:St:=mixS φ (φ.pu e) s
def u2:St:=addS φ e ep (u1 φ s e)
def u3:St:=addS φ e sa (u2 φ s ep e)
def u4:St:=sealS φ t (u3 φ s sa ep e)
def uc:L8:=seC φ t (u3 φ s sa ep e)
def um:L8:=φ.pu e++uc φ s sa ep e t
def uh:HL:=[(1,.cells false (stC s++exC 1 sa ep [])),(10,.cells false got0)]
noncomputable def run13 (os:List Bool):Option (AVal × List (Option AObj) × List Bool):=ansM [1] (run1O Tryd.prog (ps4 φ) (csN4 φ) [23,29,34,300046,300052,300058,300061,62,65,300070] os [.tup [],bk 210 (u1 φ s e) 0 [] [] [],.tup [],bk 210 (u2 φ s ep e) 0 [] [] [],.tup [],bk 210 (u3 φ s sa ep e) 0 [] [] [],.str (uc φ s sa ep e t),bk 210 (u4 φ s sa ep e t) 0 [] [] [],.tup [.str (kc0 φ.w (u4 φ s sa ep e t).ck []),.str (kc1 φ.w (u4 φ s sa ep e t).ck [])],bk 210 (u4 φ s sa ep e t) 0 [] [] []] (mask 10) 200 10 [.ptr 1 0,.str e,.str t] [(0,.cells true ordC),(1,.cells false (stC s++exC 1 sa ep []))] 2)
noncomputable def ob13:List Bool:=[cB (φ.pu e) (uc φ s sa ep e t),sB φ 210 (u3 φ s sa ep e) 0 [] [] [] t 410 (uh s sa ep),aB φ 210 (u2 φ s ep e) 0 [] [] [] e sa 386 (uh s sa ep),aB φ 210 (u1 φ s e) 0 [] [] [] e ep 338 (uh s sa ep),mB φ 210 s 0 [] [] [] (φ.pu e) 290 (uh s sa ep),!(gtB t 4096),!(neB e 32),!(noB s.h)]
def uo:List (Option AObj):=[some (.cells false (stC s++exC 1 sa ep []))]
theorem run13a:run13 φ s sa ep e t [true]=some (.tup [.str [],.agg got0,.int .i64 1],uo s sa ep,[noB s.h]):=by kernel_rfl
theorem run13b:run13 φ s sa ep e t [false,true]=some (.tup [.str [],.agg got0,.int .i64 2],uo s sa ep,[neB e 32,!(noB s.h)]):=by kernel_rfl
theorem run13c:run13 φ s sa ep e t [false,false,true]=some (.tup [.str [],.agg got0,.int .i64 4],uo s sa ep,[gtB t 4096,!(neB e 32),!(noB s.h)]):=by kernel_rfl
theorem run13d:run13 φ s sa ep e t [false,false,false,true]=some (.tup [.str [],.agg got0,.int .i64 (u4 φ s sa ep e t).f],uo s sa ep,(!(eI (u4 φ s sa ep e t).f 0))::ob13 φ s sa ep e t):=by kernel_rfl
theorem run13e:run13 φ s sa ep e t [false,false,false,false]=some (.tup [.str (um φ s sa ep e t),.agg (gotC sa [] (kc1 φ.w (u4 φ s sa ep e t).ck []) (kc0 φ.w (u4 φ s sa ep e t).ck []) (u4 φ s sa ep e t).h),.int .i64 0],uo s sa ep,kB φ 210 (u4 φ s sa ep e t) 0 [] [] [] 458 (uh s sa ep)::(!(!(eI (u4 φ s sa ep e t).f 0)))::ob13 φ s sa ep e t):=by kernel_rfl
theorem run13n:(run1 Tryd.prog (csN4 φ) (mask 10) 200 10 [.nilPtr,.str e,.str t] [] 1).map (·.1)=some (.tup [.str [],.agg got0,.int .i64 1]):=by kernel_rfl
end
section
variable (φ:Fz) (s:St) (se ep ot m:L8)
def v1:St:=mixS φ (sl m 0 32) s
def v2:St:=addS φ ep (sl m 0 32) (v1 φ s m)
def v3:St:=addS φ se (sl m 0 32) (v2 φ s ep m)
def vc:L8:=opC φ (sl m 32 (m.length:Int)) (v3 φ s se ep m)
def v4:St:=openS φ (sl m 32 (m.length:Int)) (v3 φ s se ep m)
def vh:HL:=[(1,.cells false (stC s++exC 2 se ep ot)),(2,.cells false got0)]
def vo:List (Option AObj):=[some (.cells false (stC s++exC 2 se ep ot))]
noncomputable def run15 (os:List Bool):Option (AVal × List (Option AObj) × List Bool):=ansM [1] (run1O Tryd.prog (ps4 φ) (csN4 φ) [19,25,30,37,300038,44,300045,51,300052,54,300055,58,300063] os [.tup [],bk 202 (v1 φ s m) 0 [] [] [],.tup [],bk 202 (v2 φ s ep m) 0 [] [] [],.tup [],bk 202 (v3 φ s se ep m) 0 [] [] [],.str (vc φ s se ep m),bk 202 (v4 φ s se ep m) 0 [] [] [],.tup [.str (kc0 φ.w (v4 φ s se ep m).ck []),.str (kc1 φ.w (v4 φ s se ep m).ck [])],bk 202 (v4 φ s se ep m) 0 [] [] []] (mask 11) 200 11 [.ptr 1 0,.str m] [(0,.cells true ordC),(1,.cells false (stC s++exC 2 se ep ot))] 2)
noncomputable def ob15:List Bool:=[pB φ 202 (v3 φ s se ep m) 0 [] [] [] (sl m 32 (m.length:Int)) 370 (vh s se ep ot),inS m 32 (m.length:Int),aB φ 202 (v2 φ s ep m) 0 [] [] [] se (sl m 0 32) 346 (vh s se ep ot),inS m 0 32,aB φ 202 (v1 φ s m) 0 [] [] [] ep (sl m 0 32) 290 (vh s se ep ot),inS m 0 32,mB φ 202 s 0 [] [] [] (sl m 0 32) 234 (vh s se ep ot),inS m 0 32,!(ltB2 m 48),!(gtB m 4144),!(noB s.h)]
theorem run15a:run15 φ s se ep ot m [true]=some (.tup [.agg got0,.int .i64 1],vo s se ep ot,[noB s.h]):=by kernel_rfl
theorem run15b:run15 φ s se ep ot m [false,true]=some (.tup [.agg got0,.int .i64 4],vo s se ep ot,[gtB m 4144,!(noB s.h)]):=by kernel_rfl
theorem run15c:run15 φ s se ep ot m [false,false,true]=some (.tup [.agg got0,.int .i64 7],vo s se ep ot,[ltB2 m 48,!(gtB m 4144),!(noB s.h)]):=by kernel_rfl
theorem run15d:run15 φ s se ep ot m [false,false,false,true]=some (.tup [.agg got0,.int .i64 (v4 φ s se ep m).f],vo s se ep ot,(!(eI (v4 φ s se ep m).f 0))::ob15 φ s se ep ot m):=by kernel_rfl
theorem run15e:run15 φ s se ep ot m [false,false,false,false]=some (.tup [.agg (gotC ot (vc φ s se ep m) (kc0 φ.w (v4 φ s se ep m).ck []) (kc1 φ.w (v4 φ s se ep m).ck []) (v4 φ s se ep m).h),.int .i64 0],vo s se ep ot,kB φ 202 (v4 φ s se ep m) 0 [] [] [] 410 (vh s se ep ot)::(!(!(eI (v4 φ s se ep m).f 0)))::ob15 φ s se ep ot m):=by kernel_rfl
theorem run15n:(run1 Tryd.prog (csN4 φ) (mask 11) 200 11 [.nilPtr,.str m] [] 1).map (·.1)=some (.tup [.agg got0,.int .i64 1]):=by kernel_rfl
end
end Go.Proofs.YtcplgmgpagekfaaDoor
namespace Go.Proofs.YtcplgmgpagekfaaDoor
open Go Go.Eng Go.Num Go.Bla
theorem sl_len (s:L8) (a b:Int):(sl s a b).length≤s.length:=by
 unfold sl
 rw [List.length_drop,List.length_take]
 omega
theorem inS_of {s:L8}{a b:Int}(h0:0≤a) (h1:a≤b) (h2:b≤(s.length:Int)):inS s a b=true:=by
 unfold inS
 simp only [Bool.and_eq_true,decide_eq_true_eq]
 exact ⟨h0,h1,h2⟩
theorem kB_ok {φ:Fz}{n:Nat}{s:St}(hi:Inv s){e:Nat}(he:e < 3){x y z:L8}{base:Nat}{hs:HL}(h0:aget ((0,.cells true ordC)::hs++[(n,.cells false (stC s++exC e x y z))]) 0=some (.cells true ordC)) (hn:aget ((0,.cells true ordC)::hs++[(n,.cells false (stC s++exC e x y z))]) n=some (.cells false (stC s++exC e x y z)))
  (hc:∀ c,aset ((0,.cells true ordC)::hs++[(n,.cells false (stC s++exC e x y z))]) n (.cells false c)=(0,.cells true ordC)::hs++[(n,.cells false c)]):kB φ n s e x y z base hs=true:=by
 refine oB_of ?_
 rw [keys_app φ s e he x y z h0 hn hi.2,hc]
theorem gt_le {s:L8}{n:Nat}(h:decide (((n:Nat):Int) < (s.length:Int))=false):s.length≤n:=by
 simp at h
 omega
noncomputable def rdE (φ:Fz) (sec p m:L8):EffA:=cond (neB sec 32) (lkE (.tup [.nilPtr,.agg got0,.int .i64 2])) (cond (gtB p 4096 || gtB m 4192) (lkE (.tup [.nilPtr,.agg got0,.int .i64 4])) (cond (ltB2 m 96) (lkE (.tup [.nilPtr,.agg got0,.int .i64 7])) (cond (eI (g5 φ sec p m).f 0) (mkT 0 ordC (stC (g5 φ sec p m)++exC 1 (sta φ sec p m) (e1 m) []) fun b=>.tup [.ptr b 0,.agg (gotC (sta φ sec p m) (pay φ sec p m) [] [] []),.int .i64 0]) (lkE (.tup [.nilPtr,.agg got0,.int .i64 (g5 φ sec p m).f])))))
noncomputable def c11 (φ:Fz):List AVal→Option EffA
 | [.str a,.str p,.str m]=>some (rdE φ a p m)
 | _=>none
theorem ob11_ok {φ:Fz}(hφ:OkZ φ){sec p m:L8}(ha:neB sec 32=false) (hp:gtB p 4096=false) (hm:gtB m 4192=false) (hl:ltB2 m 96=false):allT (ob11 φ sec p m)=true:=by
 have l2:=len_le hp
 have l3:m.length≤4192:=gt_le (n:=4192) hm
 have l4:96≤m.length:=by unfold ltB2 at hl; simp at hl; omega
 have i0:Inv (g0 φ sec p):=inv_bg _ _ _
 have i1:Inv (g1 φ sec p m):=inv_mix _ i0
 have i2:Inv (g2 φ sec p m):=inv_add _ _ i1
 have i3:Inv (g3 φ sec p m):=inv_open _ i2
 have i4:Inv (g4 φ sec p m):=inv_add _ _ i3
 have p1:=hφ.hpu sec
 have s1:(e1 m).length≤m.length:=sl_len _ _ _
 have s2:(d1 m).length≤m.length:=sl_len _ _ _
 have s3:(d2 m).length≤m.length:=sl_len _ _ _
 unfold ob11
 refine allM (pB_ok i4 (by decide) rfl rfl (fun _=>rfl) _ (by omega)) (allM (inS_of (by omega) (by omega) (by omega)) (allM (aB_ok hφ i3 (by decide) rfl rfl (fun _=>rfl) _ _) (allM (pB_ok i2 (by decide) rfl rfl (fun _=>rfl) _ (by omega)) (allM (inS_of (by omega) (by omega) (by omega)) (allM (aB_ok hφ i1 (by decide) rfl rfl (fun _=>rfl) _ _) (allM (mB_ok i0 (by decide) rfl rfl (fun _=>rfl) _ (by omega)) (allM (inS_of (by omega) (by omega) (by omega)) (allM ?_ (allM (by rw [hl]; rfl) (allM (by rw [hm]; rfl) (allM (by rw [hp]; rfl) (allM (by rw [ha]; rfl) rfl))))))))))))
 unfold g19
 rw [Bool.and_eq_true]
 exact ⟨Nat.ble_eq_true_of_le l2,Nat.ble_eq_true_of_le (by omega)⟩
theorem call11 {φ:Fz}(hφ:OkZ φ) (hcs:CSOk Tryd.prog (csN4 φ)):CSOk Tryd.prog (csOne 9 (c11 φ)):=csOne_ok fun args ef hef=>by
 have hps:PSOk (ps4 φ) (csN4 φ):=csP_ok
 unfold c11 at hef
 split at hef
 ·rename_i a p m
  cases hef
  unfold rdE
  cases ha:neB a 32 with
  | true=>exact lk_ok hcs rfl rfl (ansM_val hps (run11a φ a p m) (allM ha rfl))
  | false =>
  cases hp:gtB p 4096 with
  | true=>exact lk_ok hcs rfl rfl (ansM_val hps (run11b φ a p m) (allM hp (allM (by rw [ha]; rfl) rfl)))
  | false =>
  cases hm:gtB m 4192 with
  | true=>exact lk_ok hcs rfl rfl (ansM_val hps (run11c φ a p m) (allM hm (allM (by rw [hp]; rfl) (allM (by rw [ha]; rfl) rfl))))
  | false =>
  cases hl:ltB2 m 96 with
  | true=>exact lk_ok hcs rfl rfl (ansM_val hps (run11d φ a p m) (allM hl (allM (by rw [hm]; rfl) (allM (by rw [hp]; rfl) (allM (by rw [ha]; rfl) rfl)))))
  | false =>
  have hob:=ob11_ok hφ ha hp hm hl
  cases hf:eI (g5 φ a p m).f 0 with
  | false=>exact lk_ok hcs rfl rfl (ansM_val hps (run11e φ a p m) (allM (by rw [hf]; rfl) hob))
  | true=>exact callOk_mkT hcs hmix gl1 (by decide) ordC_lt rfl (lt_ex _ _ _ _ 1 (by decide)) (fun ρ a b h=>.tupL (RL.cons (.ptr h) (RL.cons (.same rfl) (RL.same rfl)))) (ansM_R hps (run11f φ a p m) (allM (by rw [hf]; rfl) hob)) (by decide)
 ·cases hef
noncomputable def anM (φ:Fz) (args:List AVal):EffA:=inlS Tryd.prog (csN4 φ) 0 (mask 10) 200 10 1 1 args
noncomputable def c13 (φ:Fz):List AVal→Option EffA
 | [.ptr n 0,.str e,.str t]=>some (anM φ [.ptr n 0,.str e,.str t])
 | [.nilPtr,.str e,.str t]=>some (.pure (.tup [.str [],.agg got0,.int .i64 1]))
 | _=>none
theorem call13 {φ:Fz}(hcs:CSOk Tryd.prog (csN4 φ)):CSOk Tryd.prog (csOne 10 (c13 φ)):=csOne_ok fun args ef hef=>by
 unfold c13 at hef
 split at hef
 ·cases hef; exact inlS_ok hcs hmix rfl
 ·cases hef; exact callOk_val hcs hmix (by rw [gl1]; exact run13n φ _ _) rfl rfl
 ·cases hef
def anV (φ:Fz) (s:St) (sa ep e t:L8):AVal:=cond (noB s.h) (.tup [.str [],.agg got0,.int .i64 1]) (cond (neB e 32) (.tup [.str [],.agg got0,.int .i64 2]) (cond (gtB t 4096) (.tup [.str [],.agg got0,.int .i64 4]) (cond (eI (u4 φ s sa ep e t).f 0) (.tup [.str (um φ s sa ep e t),.agg (gotC sa [] (kc1 φ.w (u4 φ s sa ep e t).ck []) (kc0 φ.w (u4 φ s sa ep e t).ck []) (u4 φ s sa ep e t).h),.int .i64 0]) (.tup [.str [],.agg got0,.int .i64 (u4 φ s sa ep e t).f]))))
section
variable {φ:Fz}(hφ:OkZ φ) (s:St) (hi:Inv s)
include hφ hi
theorem ob13_ok {sa ep e t:L8}(he:neB e 32=false) (ht:gtB t 4096=false) (hn:noB s.h=false):allT (ob13 φ s sa ep e t)=true:=by
 have l3:=len_le ht
 have i1:Inv (u1 φ s e):=inv_mix _ hi
 have i2:Inv (u2 φ s ep e):=inv_add _ _ i1
 have i3:Inv (u3 φ s sa ep e):=inv_add _ _ i2
 have p1:=hφ.hpu e
 have s1:(uc φ s sa ep e t).length≤t.length+16:=seC_len hφ t _
 unfold ob13
 exact allM (cB_of (by omega)) (allM (sB_ok hφ i3 (by decide) rfl rfl (fun _=>rfl) _ (by omega)) (allM (aB_ok hφ i2 (by decide) rfl rfl (fun _=>rfl) _ _) (allM (aB_ok hφ i1 (by decide) rfl rfl (fun _=>rfl) _ _) (allM (mB_ok hi (by decide) rfl rfl (fun _=>rfl) _ (by omega)) (allM (by rw [ht]; rfl) (allM (by rw [he]; rfl) (allM (by rw [hn]; rfl) rfl)))))))
theorem ans_app (sa ep e t:L8){H:HL}{n base:Nat}(h0:aget H 0=some (.cells true ordC)) (hn:aget H n=some (.cells false (stC s++exC 1 sa ep []))):(anM φ [.ptr n 0,.str e,.str t]).app base H=some (anV φ s sa ep e t,aset H n (.cells false (stC s++exC 1 sa ep []))):=by
 have hps:PSOk (ps4 φ) (csN4 φ):=csP_ok
 have key:∀ {v:AVal} {os:List Bool} {ob:List Bool},run13 φ s sa ep e t os=some (v,uo s sa ep,ob)→allT ob=true→ltV 0 v=true→unS 1 [n] v=some v→(anM φ [.ptr n 0,.str e,.str t]).app base H=some (v,aset H n (.cells false (stC s++exC 1 sa ep []))):=fun hr ha hv hu =>
  one_app gl1 (ansM_R hps hr ha) h0 hn ordC_lt rfl (lt_ex _ _ _ _ 1 (by decide)) (lt_ex _ _ _ _ 1 (by decide)) hu
 unfold anV
 cases h1:noB s.h with
 | true=>exact key (run13a φ s sa ep e t) (allM h1 rfl) rfl rfl
 | false =>
 cases h2:neB e 32 with
 | true=>exact key (run13b φ s sa ep e t) (allM h2 (allM (by rw [h1]; rfl) rfl)) rfl rfl
 | false =>
 cases h3:gtB t 4096 with
 | true=>exact key (run13c φ s sa ep e t) (allM h3 (allM (by rw [h2]; rfl) (allM (by rw [h1]; rfl) rfl))) rfl rfl
 | false =>
 have hob:=ob13_ok hφ s hi (sa:=sa) (ep:=ep) h2 h3 h1
 cases hf:eI (u4 φ s sa ep e t).f 0 with
 | false=>exact key (run13d φ s sa ep e t) (allM (by rw [hf]; rfl) hob) rfl rfl
 | true=>exact key (run13e φ s sa ep e t) (allM (kB_ok (inv_seal _ (inv_add _ _ (inv_add _ _ (inv_mix _ hi)))) (by decide) rfl rfl (fun _=>rfl)) (allM (by rw [hf]; rfl) hob)) rfl rfl
end
noncomputable def fiM (φ:Fz) (args:List AVal):EffA:=inlS Tryd.prog (csN4 φ) 0 (mask 11) 200 11 1 1 args
noncomputable def c15 (φ:Fz):List AVal→Option EffA
 | [.ptr n 0,.str m]=>some (fiM φ [.ptr n 0,.str m])
 | [.nilPtr,.str m]=>some (.pure (.tup [.agg got0,.int .i64 1]))
 | _=>none
theorem call15 {φ:Fz}(hcs:CSOk Tryd.prog (csN4 φ)):CSOk Tryd.prog (csOne 11 (c15 φ)):=csOne_ok fun args ef hef=>by
 unfold c15 at hef
 split at hef
 ·cases hef; exact inlS_ok hcs hmix rfl
 ·cases hef; exact callOk_val hcs hmix (by rw [gl1]; exact run15n φ _) rfl rfl
 ·cases hef
def fiV (φ:Fz) (s:St) (se ep ot m:L8):AVal:=cond (noB s.h) (.tup [.agg got0,.int .i64 1]) (cond (gtB m 4144) (.tup [.agg got0,.int .i64 4]) (cond (ltB2 m 48) (.tup [.agg got0,.int .i64 7]) (cond (eI (v4 φ s se ep m).f 0) (.tup [.agg (gotC ot (vc φ s se ep m) (kc0 φ.w (v4 φ s se ep m).ck []) (kc1 φ.w (v4 φ s se ep m).ck []) (v4 φ s se ep m).h),.int .i64 0]) (.tup [.agg got0,.int .i64 (v4 φ s se ep m).f]))))
section
variable {φ:Fz}(hφ:OkZ φ) (s:St) (hi:Inv s)
include hφ hi
theorem ob15_ok {se ep ot m:L8}(hg:gtB m 4144=false) (hl:ltB2 m 48=false) (hn:noB s.h=false):allT (ob15 φ s se ep ot m)=true:=by
 have l3:m.length≤4144:=gt_le (n:=4144) hg
 have l4:48≤m.length:=by unfold ltB2 at hl; simp at hl; omega
 have i1:Inv (v1 φ s m):=inv_mix _ hi
 have i2:Inv (v2 φ s ep m):=inv_add _ _ i1
 have i3:Inv (v3 φ s se ep m):=inv_add _ _ i2
 have s1:=sl_len m 0 32
 have s2:=sl_len m 32 (m.length:Int)
 have q:inS m 0 32=true:=inS_of (by omega) (by omega) (by omega)
 unfold ob15
 exact allM (pB_ok i3 (by decide) rfl rfl (fun _=>rfl) _ (by omega)) (allM (inS_of (by omega) (by omega) (by omega)) (allM (aB_ok hφ i2 (by decide) rfl rfl (fun _=>rfl) _ _) (allM q (allM (aB_ok hφ i1 (by decide) rfl rfl (fun _=>rfl) _ _) (allM q (allM (mB_ok hi (by decide) rfl rfl (fun _=>rfl) _ (by omega)) (allM q (allM (by rw [hl]; rfl) (allM (by rw [hg]; rfl) (allM (by rw [hn]; rfl) rfl))))))))))
theorem fin_app (se ep ot m:L8){H:HL}{n base:Nat}(h0:aget H 0=some (.cells true ordC)) (hn:aget H n=some (.cells false (stC s++exC 2 se ep ot))):(fiM φ [.ptr n 0,.str m]).app base H=some (fiV φ s se ep ot m,aset H n (.cells false (stC s++exC 2 se ep ot))):=by
 have hps:PSOk (ps4 φ) (csN4 φ):=csP_ok
 have key:∀ {v:AVal} {os:List Bool} {ob:List Bool},run15 φ s se ep ot m os=some (v,vo s se ep ot,ob)→allT ob=true→unS 1 [n] v=some v→(fiM φ [.ptr n 0,.str m]).app base H=some (v,aset H n (.cells false (stC s++exC 2 se ep ot))):=fun hr ha hu =>
  one_app gl1 (ansM_R hps hr ha) h0 hn ordC_lt rfl (lt_ex _ _ _ _ 2 (by decide)) (lt_ex _ _ _ _ 2 (by decide)) hu
 unfold fiV
 cases h1:noB s.h with
 | true=>exact key (run15a φ s se ep ot m) (allM h1 rfl) rfl
 | false =>
 cases h2:gtB m 4144 with
 | true=>exact key (run15b φ s se ep ot m) (allM h2 (allM (by rw [h1]; rfl) rfl)) rfl
 | false =>
 cases h3:ltB2 m 48 with
 | true=>exact key (run15c φ s se ep ot m) (allM h3 (allM (by rw [h2]; rfl) (allM (by rw [h1]; rfl) rfl))) rfl
 | false =>
 have hob:=ob15_ok hφ s hi (se:=se) (ep:=ep) (ot:=ot) h2 h3 h1
 cases hf:eI (v4 φ s se ep m).f 0 with
 | false=>exact key (run15d φ s se ep ot m) (allM (by rw [hf]; rfl) hob) rfl
 | true=>exact key (run15e φ s se ep ot m) (allM (kB_ok (inv_open _ (inv_add _ _ (inv_add _ _ (inv_mix _ hi)))) (by decide) rfl rfl (fun _=>rfl)) (allM (by rw [hf]; rfl) hob)) rfl
end
end Go.Proofs.YtcplgmgpagekfaaDoor
namespace Go.Proofs.YtcplgmgpagekfaaDoor
open Go Go.Eng Go.Num Go.Bla
def dL (s:St):List AVal:=[.str s.h,.str s.ck,.str s.k]
def dS (s:St):AVal:=.agg (dL s)
def x47 (φ:Fz):List AVal→Option EffA
 | [.str a,.str b]=>some (.pure (.tup [.str (φ.sh a b),.int .i64 (φ.sr a b)]))
 | _=>none
def x7 (φ:Fz):List AVal→Option EffA
 | [.str a]=>some (.pure (.tup [.str (φ.pu a),.int .i64 (φ.pr a)]))
 | _=>none
def x48 (φ:Fz):List AVal→Option EffA
 | [.str k,.str n,.str a,.str s]=>some (.pure (.tup [.str (φ.sv k n a s),.int .i64 (φ.se k n a s)]))
 | _=>none
def x49 (φ:Fz):List AVal→Option EffA
 | [.u64 0]=>some (.pure (.str φ.no))
 | _=>none
def y51 (φ:Fz):List AVal→Option (EffA × Bool)
 | [.str k,.str n,.str a,.str s]=>some (.pure (.tup [.str (φ.ov k n a s),.int .i64 (φ.oe k n a s)]),slO s)
 | _=>none
def psD (φ:Fz):PS:=psAlt (psNo (e46 φ.w)) (psAlt (psNo (e31 φ.w)) (psNo (y51 φ)))
def csD0 (φ:Fz):CS:=csAlt (csNo (x47 φ)) (csAlt (csOne 7 (x7 φ)) (csAlt (csNo (x48 φ)) (csNo (x49 φ))))
def csD (φ:Fz):CS:=csAlt (csP (psD φ)) (csD0 φ)
def gm (s:St) (b:L8):Bool:=gd (s.h++b) && cB s.h b
def y25 (φ:Fz):List AVal→Option (EffA × Bool)
 | [.agg [.str h,.str ck,.str k],.str b]=>some (.pure (dS (mixS φ b ⟨h,ck,k,0⟩)),gm ⟨h,ck,k,0⟩ b)
 | _=>none
def ps25 (φ:Fz):PS:=psAlt (psNo (y25 φ)) (psD φ)
def csD1 (φ:Fz):CS:=csAlt (csP (ps25 φ)) (csD0 φ)
def addT (φ:Fz) (a b:L8) (s:St):St:=⟨s.h,cond (eI (φ.sr a b) 0) (kc0 φ.w s.ck (φ.sh a b)) s.ck,cond (eI (φ.sr a b) 0) (kc1 φ.w s.ck (φ.sh a b)) s.k,0⟩
def gA (φ:Fz) (a b:L8) (s:St):Bool:=Nat.beq s.ck.length 32 && gdS (φ.sh a b)
def svT (φ:Fz) (t:L8) (s:St):L8:=φ.sv s.k φ.no s.h t
def sealT (φ:Fz) (t:L8) (s:St):St:=mixS φ (svT φ t s) s
def opE (φ:Fz) (c:L8) (s:St):Int:=φ.oe s.k φ.no s.h c
def opX (φ:Fz) (c:L8) (s:St):L8:=cond (eI (opE φ c s) 0) (φ.ov s.k φ.no s.h c) []
def openT (φ:Fz) (c:L8) (s:St):St:=⟨cond (eI (opE φ c s) 0) (outC (φ.w (s.h++c))) s.h,s.ck,s.k,0⟩
section
variable (φ:Fz) (s:St) (a b c t p o:L8)
end
end Go.Proofs.YtcplgmgpagekfaaDoor
namespace Go.Proofs.YtcplgmgpagekfaaDoor
open Go Go.Eng Go.Num Go.Bla
def y24 (φ:Fz):List AVal→Option (EffA × Bool)
 | [.str p,.str o]=>some (.pure (dS (bgS φ p o)),g19 p o)
 | _=>none
def y26 (φ:Fz):List AVal→Option (EffA × Bool)
 | [.agg [.str h,.str ck,.str k],.str a,.str b]=>some (.pure (.tup [dS (addT φ a b ⟨h,ck,k,0⟩),.int .i64 (φ.sr a b)]),gA φ a b ⟨h,ck,k,0⟩)
 | _=>none
def y27 (φ:Fz):List AVal→Option (EffA × Bool)
 | [.agg [.str h,.str ck,.str k],.str t]=>some (.pure (.tup [dS (sealT φ t ⟨h,ck,k,0⟩),.str (svT φ t ⟨h,ck,k,0⟩)]),gm ⟨h,ck,k,0⟩ (svT φ t ⟨h,ck,k,0⟩))
 | _=>none
def y29 (φ:Fz):List AVal→Option (EffA × Bool)
 | [.agg [.str h,.str ck,.str k],.str c]=>some (.pure (.tup [dS (openT φ c ⟨h,ck,k,0⟩),.str (opX φ c ⟨h,ck,k,0⟩),.int .i64 (opE φ c ⟨h,ck,k,0⟩)]),gm ⟨h,ck,k,0⟩ c && slO c)
 | _=>none
def psX (φ:Fz):PS:=psAlt (psNo (y25 φ)) (psAlt (psNo (y24 φ)) (psAlt (psNo (y26 φ)) (psAlt (psNo (y27 φ)) (psAlt (psNo (y29 φ)) (psNo (e31 φ.w))))))
def csX (φ:Fz):CS:=csAlt (csP (psX φ)) (csD0 φ)
def hfD (s:St) (a e o:L8):AVal:=.agg (dL s++[.str a,.str e,.str o])
def hf0:AVal:=.agg [.str [],.str [],.str [],.str [],.str [],.str []]
def ot0:AVal:=.agg [.str [],.str [],.str [],.str [],.str []]
def otD (s:St) (sa ep:L8):AVal:=.agg (dL s++[.str sa,.str ep])
def fB (x:Int):Bool:=!(eI x 0)
section
variable (φ:Fz) (a o e p t:L8)
def z1:St:=mixS φ (φ.pu e) (bgS φ p o)
def z2:St:=addT φ e o (z1 φ o e p)
def z3:St:=sealT φ (φ.pu a) (z2 φ o e p)
def z4:St:=addT φ a o (z3 φ a o e p)
def z5:St:=sealT φ t (z4 φ a o e p)
def zm:L8:=(φ.pu e++svT φ (φ.pu a) (z2 φ o e p))++svT φ t (z4 φ a o e p)
end
section
variable (φ:Fz) (sec p m:L8)
def w1:St:=mixS φ (sl m 0 32) (bgS φ p (φ.pu sec))
def w2:St:=addT φ sec (sl m 0 32) (w1 φ sec p m)
def ws:L8:=opX φ (sl m 32 80) (w2 φ sec p m)
def w3:St:=openT φ (sl m 32 80) (w2 φ sec p m)
def w4:St:=addT φ sec (ws φ sec p m) (w3 φ sec p m)
def wt:L8:=opX φ (sl m 80 (m.length:Int)) (w4 φ sec p m)
def w5:St:=openT φ (sl m 80 (m.length:Int)) (w4 φ sec p m)
end
section
variable (φ:Fz) (s:St) (sa ep e t:L8)
def j1:St:=mixS φ (φ.pu e) ⟨s.h,s.ck,s.k,0⟩
def j2:St:=addT φ e ep (j1 φ s e)
def j3:St:=addT φ e sa (j2 φ s ep e)
def j4:St:=sealT φ t (j3 φ s sa ep e)
end
section
variable (φ:Fz) (s:St) (se ep ot m:L8)
def i1:St:=mixS φ (sl m 0 32) ⟨s.h,s.ck,s.k,0⟩
def i2:St:=addT φ ep (sl m 0 32) (i1 φ s m)
def i3:St:=addT φ se (sl m 0 32) (i2 φ s ep m)
def i4:St:=openT φ (sl m 32 (m.length:Int)) (i3 φ s se ep m)
def ic:L8:=opX φ (sl m 32 (m.length:Int)) (i3 φ s se ep m)
end
end Go.Proofs.YtcplgmgpagekfaaDoor
namespace Go.Proofs.YtcplgmgpagekfaaDoor
open Go Go.Eng Go.Num Go.Bla
theorem inv_addT {φ:Fz}{s:St}(a b:L8) (h:Inv s):Inv (addT φ a b s):=by
 refine ⟨h.1,?_⟩
 unfold addT
 cases eI (φ.sr a b) 0
 ·exact h.2
 ·exact outC_len _
theorem inv_sealT {φ:Fz}{s:St}(t:L8) (h:Inv s):Inv (sealT φ t s):=inv_mix _ h
theorem inv_openT {φ:Fz}{s:St}(c:L8) (h:Inv s):Inv (openT φ c s):=by
 refine ⟨?_,h.2⟩
 unfold openT
 cases eI (opE φ c s) 0
 ·exact h.1
 ·exact outC_len _
theorem inv_z {s:St}(h:Inv s):Inv ⟨s.h,s.ck,s.k,0⟩:=h
section
variable {φ:Fz}(hφ:OkZ φ)
include hφ
theorem svT_len (t:L8) (s:St):(svT φ t s).length≤t.length+16:=hφ.hsv _ _ _ _
omit hφ in
theorem call25 (h:CSOk Tryd.prog (csD φ)):CSOk Tryd.prog (csP (psNo (y25 φ))):=psNo_ok _
omit hφ in
theorem call24 (h:CSOk Tryd.prog (csD1 φ)):CSOk Tryd.prog (csP (psNo (y24 φ))):=psNo_ok _
omit hφ in
theorem call26 (h:CSOk Tryd.prog (csD1 φ)):CSOk Tryd.prog (csP (psNo (y26 φ))):=psNo_ok _
omit hφ in
theorem call27 (h:CSOk Tryd.prog (csD1 φ)):CSOk Tryd.prog (csP (psNo (y27 φ))):=psNo_ok _
omit hφ in
theorem call29 (h:CSOk Tryd.prog (csD1 φ)):CSOk Tryd.prog (csP (psNo (y29 φ))):=psNo_ok _
omit hφ in
theorem psX_ok (h0:CSOk Tryd.prog (csD φ)) (h1:CSOk Tryd.prog (csD1 φ)) (h31:CSOk Tryd.prog (csP (psNo (e31 φ.w)))) (hd:CSOk Tryd.prog (csD0 φ)):CSOk Tryd.prog (csX φ):=
 csAlt_ok (csP_alt (call25 h0) (csP_alt (call24 h1) (csP_alt (call26 h1) (csP_alt (call27 h1) (csP_alt (call29 h1) h31))))) hd
end
def bgD (φ:Fz) (a o e p t:L8):AVal:=cond (neB a 32 || (neB o 32 || neB e 32)) (.tup [hf0,.str [],.int .i64 2]) (cond (gtB p 4096 || gtB t 4096) (.tup [hf0,.str [],.int .i64 4]) (cond (fB (φ.sr e o)) (.tup [hf0,.str [],.int .i64 (φ.sr e o)]) (cond (fB (φ.sr a o)) (.tup [hf0,.str [],.int .i64 (φ.sr a o)]) (.tup [hfD (z5 φ a o e p t) a e o,.str (zm φ a o e p t),.int .i64 0]))))
def y9 (φ:Fz):List AVal→Option EffA
 | [.str a,.str o,.str e,.str p,.str t]=>some (.pure (bgD φ a o e p t))
 | _=>none
def rdD (φ:Fz) (sec p m:L8):AVal:=cond (neB sec 32) (.tup [ot0,.agg got0,.int .i64 2]) (cond (gtB p 4096 || gtB m 4192) (.tup [ot0,.agg got0,.int .i64 4]) (cond (ltB2 m 96) (.tup [ot0,.agg got0,.int .i64 7]) (cond (fB (φ.sr sec (sl m 0 32))) (.tup [ot0,.agg got0,.int .i64 (φ.sr sec (sl m 0 32))]) (cond (fB (opE φ (sl m 32 80) (w2 φ sec p m))) (.tup [ot0,.agg got0,.int .i64 (opE φ (sl m 32 80) (w2 φ sec p m))]) (cond (fB (φ.sr sec (ws φ sec p m))) (.tup [ot0,.agg got0,.int .i64 (φ.sr sec (ws φ sec p m))]) (cond (fB (opE φ (sl m 80 (m.length:Int)) (w4 φ sec p m))) (.tup [ot0,.agg got0,.int .i64 (opE φ (sl m 80 (m.length:Int)) (w4 φ sec p m))]) (.tup [otD (w5 φ sec p m) (ws φ sec p m) (sl m 0 32),.agg (gotC (ws φ sec p m) (wt φ sec p m) [] [] []),.int .i64 0])))))))
def y12 (φ:Fz):List AVal→Option EffA
 | [.str a,.str p,.str m]=>some (.pure (rdD φ a p m))
 | _=>none
def anD (φ:Fz) (s:St) (sa ep e t:L8):AVal:=cond (neB e 32) (.tup [.str [],.agg got0,.int .i64 2]) (cond (gtB t 4096) (.tup [.str [],.agg got0,.int .i64 4]) (cond (fB (φ.sr e ep)) (.tup [.str [],.agg got0,.int .i64 (φ.sr e ep)]) (cond (fB (φ.sr e sa)) (.tup [.str [],.agg got0,.int .i64 (φ.sr e sa)]) (.tup [.str (φ.pu e++svT φ t (j3 φ s sa ep e)),.agg (gotC sa [] (kc1 φ.w (j4 φ s sa ep e t).ck []) (kc0 φ.w (j4 φ s sa ep e t).ck []) (j4 φ s sa ep e t).h),.int .i64 0]))))
def y14 (φ:Fz):List AVal→Option (EffA × Bool)
 | [.agg [.str h,.str ck,.str k,.str sa,.str ep],.str e,.str t]=>some (.pure (anD φ ⟨h,ck,k,0⟩ sa ep e t),Nat.beq h.length 32 && Nat.beq ck.length 32)
 | _=>none
def fiD (φ:Fz) (s:St) (se ep ot m:L8):AVal:=cond (gtB m 4144) (.tup [.agg got0,.int .i64 4]) (cond (ltB2 m 48) (.tup [.agg got0,.int .i64 7]) (cond (fB (φ.sr ep (sl m 0 32))) (.tup [.agg got0,.int .i64 (φ.sr ep (sl m 0 32))]) (cond (fB (φ.sr se (sl m 0 32))) (.tup [.agg got0,.int .i64 (φ.sr se (sl m 0 32))]) (cond (fB (opE φ (sl m 32 (m.length:Int)) (i3 φ s se ep m))) (.tup [.agg got0,.int .i64 (opE φ (sl m 32 (m.length:Int)) (i3 φ s se ep m))]) (.tup [.agg (gotC ot (ic φ s se ep m) (kc0 φ.w (i4 φ s se ep m).ck []) (kc1 φ.w (i4 φ s se ep m).ck []) (i4 φ s se ep m).h),.int .i64 0])))))
def y16 (φ:Fz):List AVal→Option (EffA × Bool)
 | [.agg [.str h,.str ck,.str k,.str se,.str ep,.str ot],.str m]=>some (.pure (fiD φ ⟨h,ck,k,0⟩ se ep ot m),Nat.beq h.length 32 && Nat.beq ck.length 32)
 | _=>none
section
variable {φ:Fz}(hφ:OkZ φ) (hcs:CSOk Tryd.prog (csX φ))
include hφ hcs
theorem call9:CSOk Tryd.prog (csNo (y9 φ)):=by
 have _:=hφ
 have _:=hcs
 exact csNo_ok _
theorem call12:CSOk Tryd.prog (csNo (y12 φ)):=by
 have _:=hφ
 have _:=hcs
 exact csNo_ok _
theorem call14:CSOk Tryd.prog (csP (psNo (y14 φ))):=by
 have _:=hφ
 have _:=hcs
 exact psNo_ok _
theorem call16:CSOk Tryd.prog (csP (psNo (y16 φ))):=by
 have _:=hφ
 have _:=hcs
 exact psNo_ok _
end
end Go.Proofs.YtcplgmgpagekfaaDoor
namespace Go.Proofs.YtcplgmgpagekfaaDoor
open Go Go.Eng Go.Num Go.Bla
structure OkY (φ:Fz):Prop extends OkZ φ where
 hse:∀ k a t,k.length=32→a.length=32→t.length≤5000→φ.se k φ.no a t=0
theorem eI_eq {x y:Int}(h:eI x y=true):x=y:=by unfold eI at h; simpa using h
theorem fB_0 {x:Int}(h:fB x=false):x=0:=by
 unfold fB at h
 cases hx:eI x 0 with
 | true=>exact eI_eq hx
 | false=>rw [hx] at h; cases h
theorem fB_1 {x:Int}(h:fB x=true):eI x 0=false∧x ≠ 0:=by
 unfold fB at h
 cases hx:eI x 0 with
 | true=>rw [hx] at h; cases h
 | false=>exact ⟨rfl,fun e=>by subst e; cases hx⟩
theorem eI_0 {x:Int}(h:x ≠ 0):eI x 0=false:=by unfold eI; simpa using h
theorem add_eq {φ:Fz}{s:St}{a b:L8}(h:s.f=0) (hr:φ.sr a b=0):addS φ a b s=addT φ a b s:=by
 unfold addS addT
 rw [h,hr]
 rfl
theorem add_k {φ:Fz}{s:St}{a b:L8}(hr:φ.sr a b=0):(addT φ a b s).k.length=32:=by
 unfold addT
 rw [hr]
 exact outC_len _
theorem add_f {φ:Fz}{s:St}{a b:L8}(h:s.f=0) (hr:φ.sr a b ≠ 0):(addS φ a b s).f=φ.sr a b:=by
 unfold addS
 rw [h,eI_0 hr]
 rfl
theorem add_n {φ:Fz}{s:St}{a b:L8}(h:s.f ≠ 0):addS φ a b s=s:=by
 unfold addS
 rw [eI_0 h]
 rfl
theorem set0 {s:St}(h:s.f=0):setF s 0=s:=by
 cases s
 simp only at h
 subst h
 rfl
theorem seal_eq {φ:Fz}{s:St}{t:L8}(h:s.f=0) (he:φ.se s.k φ.no s.h t=0):sealS φ t s=sealT φ t s∧seC φ t s=svT φ t s:=by
 unfold sealS seC sealT svT
 rw [h,he,set0 h]
 exact ⟨rfl,rfl⟩
theorem seal_n {φ:Fz}{s:St}{t:L8}(h:s.f ≠ 0):sealS φ t s=s:=by
 unfold sealS
 rw [eI_0 h]
 rfl
theorem open_eq {φ:Fz}{s:St}{c:L8}(h:s.f=0) (he:opE φ c s=0):openS φ c s=openT φ c s∧opC φ c s=opX φ c s:=by
 have he':=he
 unfold opE at he'
 unfold openS opC openT opX
 rw [h,he,he',set0 h]
 cases s
 simp only at h
 subst h
 exact ⟨rfl,rfl⟩
theorem open_f {φ:Fz}{s:St}{c:L8}(h:s.f=0) (he:opE φ c s ≠ 0):(openS φ c s).f=opE φ c s:=by
 unfold openS
 rw [h]
 rfl
theorem open_n {φ:Fz}{s:St}{c:L8}(h:s.f ≠ 0):openS φ c s=s:=by
 unfold openS
 rw [eI_0 h]
 rfl
section
variable {φ:Fz}(hφ:OkY φ)
include hφ
theorem begin_cases (a o e p t:L8):(∃ c:Int,c ≠ 0∧bgE φ a o e p t=lkE (.tup [.nilPtr,.str [],.int .i64 c])∧bgD φ a o e p t=.tup [hf0,.str [],.int .i64 c]) ∨
  ∃ (s:St) (m:L8),Inv s∧s.f=0∧m.length≤64+16+16+t.length∧bgE φ a o e p t=mkT 0 ordC (stC s++exC 2 a e o) (fun b=>.tup [.ptr b 0,.str m,.int .i64 0])∧bgD φ a o e p t=.tup [hfD s a e o,.str m,.int .i64 0]:=by
 unfold bgE bgD
 cases h1:(neB a 32 || (neB o 32 || neB e 32)) with
 | true=>exact .inl ⟨2,by decide,rfl,rfl⟩
 | false =>
 cases h2:(gtB p 4096 || gtB t 4096) with
 | true=>exact .inl ⟨4,by decide,rfl,rfl⟩
 | false =>
 simp only [cond_false]
 rw [Bool.or_eq_false_iff] at h2
 have l3:=len_le h2.2
 have i0:=inv_bg φ p o
 have f1:(b1 φ a o e p t).f=0:=rfl
 have i1:Inv (b1 φ a o e p t):=inv_mix _ i0
 have z1e:b1 φ a o e p t=z1 φ o e p:=rfl
 have pa:=hφ.hpu a
 cases h3:fB (φ.sr e o) with
 | true =>
  obtain ⟨_,h3n⟩:=fB_1 h3
  have g2:(b2 φ a o e p t).f=φ.sr e o:=add_f f1 h3n
  have n2:(b2 φ a o e p t).f ≠ 0:=by rw [g2]; exact h3n
  have e3:b3 φ a o e p t=b2 φ a o e p t:=seal_n n2
  have e4:b4 φ a o e p t=b2 φ a o e p t:=by unfold b4; rw [e3]; exact add_n n2
  have e5:b5 φ a o e p t=b2 φ a o e p t:=by unfold b5; rw [e4]; exact seal_n n2
  rw [e5,g2,eI_0 h3n]
  exact .inl ⟨_,h3n,rfl,rfl⟩
 | false =>
 have h30:=fB_0 h3
 have e2:b2 φ a o e p t=z2 φ o e p:=by unfold b2 z2; rw [z1e]; exact add_eq rfl h30
 have k2:(z2 φ o e p).k.length=32:=add_k h30
 have f2:(z2 φ o e p).f=0:=rfl
 have q2:Inv (z2 φ o e p):=inv_addT _ _ (inv_mix _ i0)
 have s3:=seal_eq (φ:=φ) (s:=z2 φ o e p) (t:=φ.pu a) f2 (hφ.hse _ _ _ k2 q2.1 (by omega))
 have e3:b3 φ a o e p t=z3 φ a o e p:=by unfold b3; rw [e2]; exact s3.1
 have f3:(z3 φ a o e p).f=0:=rfl
 simp only [cond_false]
 cases h4:fB (φ.sr a o) with
 | true =>
  obtain ⟨_,h4n⟩:=fB_1 h4
  have g4:(b4 φ a o e p t).f=φ.sr a o:=by unfold b4; rw [e3]; exact add_f f3 h4n
  have n4:(b4 φ a o e p t).f ≠ 0:=by rw [g4]; exact h4n
  have e5:b5 φ a o e p t=b4 φ a o e p t:=seal_n n4
  rw [e5,g4,eI_0 h4n]
  exact .inl ⟨_,h4n,rfl,rfl⟩
 | false =>
 have h40:=fB_0 h4
 have e4:b4 φ a o e p t=z4 φ a o e p:=by unfold b4 z4; rw [e3]; exact add_eq f3 h40
 have k4:(z4 φ a o e p).k.length=32:=add_k h40
 have f4:(z4 φ a o e p).f=0:=rfl
 have q4:Inv (z4 φ a o e p):=inv_addT _ _ (inv_sealT _ q2)
 have s5:=seal_eq (φ:=φ) (s:=z4 φ a o e p) (t:=t) f4 (hφ.hse _ _ _ k4 q4.1 (by omega))
 have e5:b5 φ a o e p t=z5 φ a o e p t:=by unfold b5; rw [e4]; exact s5.1
 have em:m2 φ a o e p t=zm φ a o e p t:=by unfold m2 m1 zm; rw [e2,e4,s3.2,s5.2]
 have f5:(z5 φ a o e p t).f=0:=rfl
 have i5:Inv (z5 φ a o e p t):=inv_sealT _ (inv_addT _ _ (inv_sealT _ (inv_addT _ _ (inv_mix _ i0))))
 refine .inr ⟨z5 φ a o e p t,zm φ a o e p t,i5,f5,?_,?_,rfl⟩
 ·unfold zm
  have q1:=hφ.hpu e
  have q2:=svT_len hφ.toOkZ (φ.pu a) (z2 φ o e p)
  have q3:=svT_len hφ.toOkZ t (z4 φ a o e p)
  rw [List.length_append,List.length_append]
  have:=hφ.hpu a
  omega
 ·rw [e5,em,f5]
  rfl
omit hφ in
theorem read_cases (a p m:L8):(∃ c:Int,c ≠ 0∧rdE φ a p m=lkE (.tup [.nilPtr,.agg got0,.int .i64 c])∧rdD φ a p m=.tup [ot0,.agg got0,.int .i64 c]) ∨
  ∃ (s:St) (sa ep pay:L8),Inv s∧s.f=0∧96≤m.length∧rdE φ a p m=mkT 0 ordC (stC s++exC 1 sa ep []) (fun b=>.tup [.ptr b 0,.agg (gotC sa pay [] [] []),.int .i64 0])∧rdD φ a p m=.tup [otD s sa ep,.agg (gotC sa pay [] [] []),.int .i64 0]:=by
 unfold rdE rdD
 cases h1:neB a 32 with
 | true=>exact .inl ⟨2,by decide,rfl,rfl⟩
 | false =>
 cases h2:(gtB p 4096 || gtB m 4192) with
 | true=>exact .inl ⟨4,by decide,rfl,rfl⟩
 | false =>
 cases h3:ltB2 m 96 with
 | true=>exact .inl ⟨7,by decide,rfl,rfl⟩
 | false =>
 have l4:96≤m.length:=by unfold ltB2 at h3; simp at h3; omega
 simp only [cond_false]
 have i0:=inv_bg φ p (φ.pu a)
 have w1e:g1 φ a p m=w1 φ a p m:=rfl
 have f1:(w1 φ a p m).f=0:=rfl
 cases h5:fB (φ.sr a (sl m 0 32)) with
 | true =>
  obtain ⟨_,hn⟩:=fB_1 h5
  have g2f:(g2 φ a p m).f=φ.sr a (sl m 0 32):=by unfold g2; rw [w1e]; exact add_f f1 hn
  have n2:(g2 φ a p m).f ≠ 0:=by rw [g2f]; exact hn
  have e3:g3 φ a p m=g2 φ a p m:=open_n n2
  have e4:g4 φ a p m=g2 φ a p m:=by unfold g4; rw [e3]; exact add_n n2
  have e5:g5 φ a p m=g2 φ a p m:=by unfold g5; rw [e4]; exact open_n n2
  rw [e5,g2f,eI_0 hn]
  exact .inl ⟨_,hn,rfl,rfl⟩
 | false =>
 have h50:=fB_0 h5
 have e2:g2 φ a p m=w2 φ a p m:=by unfold g2 w2; rw [w1e]; exact add_eq f1 h50
 have f2:(w2 φ a p m).f=0:=rfl
 simp only [cond_false]
 cases h6:fB (opE φ (sl m 32 80) (w2 φ a p m)) with
 | true =>
  obtain ⟨_,hn⟩:=fB_1 h6
  have g3f:(g3 φ a p m).f=opE φ (sl m 32 80) (w2 φ a p m):=by unfold g3; rw [e2]; exact open_f f2 hn
  have n3:(g3 φ a p m).f ≠ 0:=by rw [g3f]; exact hn
  have e4:g4 φ a p m=g3 φ a p m:=add_n n3
  have e5:g5 φ a p m=g3 φ a p m:=by unfold g5; rw [e4]; exact open_n n3
  rw [e5,g3f,eI_0 hn]
  exact .inl ⟨_,hn,rfl,rfl⟩
 | false =>
 have h60:=fB_0 h6
 have o3:=open_eq (φ:=φ) (s:=w2 φ a p m) (c:=sl m 32 80) f2 h60
 have e3:g3 φ a p m=w3 φ a p m:=by unfold g3; rw [e2]; exact o3.1
 have es:sta φ a p m=ws φ a p m:=by unfold sta; rw [e2]; exact o3.2
 have f3:(w3 φ a p m).f=0:=rfl
 simp only [cond_false]
 cases h7:fB (φ.sr a (ws φ a p m)) with
 | true =>
  obtain ⟨_,hn⟩:=fB_1 h7
  have g4f:(g4 φ a p m).f=φ.sr a (ws φ a p m):=by unfold g4; rw [e3,es]; exact add_f f3 hn
  have n4:(g4 φ a p m).f ≠ 0:=by rw [g4f]; exact hn
  have e5:g5 φ a p m=g4 φ a p m:=open_n n4
  rw [e5,g4f,eI_0 hn]
  exact .inl ⟨_,hn,rfl,rfl⟩
 | false =>
 have h70:=fB_0 h7
 have e4:g4 φ a p m=w4 φ a p m:=by unfold g4 w4; rw [e3,es]; exact add_eq f3 h70
 have f4:(w4 φ a p m).f=0:=rfl
 simp only [cond_false]
 cases h8:fB (opE φ (sl m 80 (m.length:Int)) (w4 φ a p m)) with
 | true =>
  obtain ⟨_,hn⟩:=fB_1 h8
  have g5f:(g5 φ a p m).f=opE φ (sl m 80 (m.length:Int)) (w4 φ a p m):=by unfold g5; rw [e4]; exact open_f f4 hn
  rw [g5f,eI_0 hn]
  exact .inl ⟨_,hn,rfl,rfl⟩
 | false =>
 have h80:=fB_0 h8
 have o5:=open_eq (φ:=φ) (s:=w4 φ a p m) (c:=sl m 80 (m.length:Int)) f4 h80
 have e5:g5 φ a p m=w5 φ a p m:=by unfold g5; rw [e4]; exact o5.1
 have ep:pay φ a p m=wt φ a p m:=by unfold pay; rw [e4]; exact o5.2
 have i5:Inv (w5 φ a p m):=inv_openT _ (inv_addT _ _ (inv_openT _ (inv_addT _ _ (inv_mix _ i0))))
 refine .inr ⟨w5 φ a p m,ws φ a p m,sl m 0 32,wt φ a p m,i5,rfl,l4,?_,rfl⟩
 rw [e5,es,ep]
 rfl
omit hφ in
theorem noB_f {s:St}(h:Inv s):noB s.h=false:=by
 have:=h.1
 unfold noB
 cases hs:s.h with
 | nil=>rw [hs] at this; cases this
 | cons x l=>rfl
theorem ans_eq {s:St}(hi:Inv s) (hf:s.f=0) (sa ep e t:L8):anV φ s sa ep e t=anD φ s sa ep e t:=by
 unfold anV anD
 rw [noB_f hi,cond_false]
 cases h1:neB e 32 with
 | true=>rfl
 | false =>
 cases h2:gtB t 4096 with
 | true=>rfl
 | false =>
 have l3:=len_le h2
 simp only [cond_false]
 have ez:(⟨s.h,s.ck,s.k,0⟩:St)=s:=by cases s; simp only at hf; subst hf; rfl
 have u1e:u1 φ s e=j1 φ s e:=by unfold u1 j1; rw [ez]
 have f1:(u1 φ s e).f=0:=hf
 cases h3:fB (φ.sr e ep) with
 | true =>
  obtain ⟨_,hn⟩:=fB_1 h3
  have g2f:(u2 φ s ep e).f=φ.sr e ep:=add_f f1 hn
  have n2:(u2 φ s ep e).f ≠ 0:=by rw [g2f]; exact hn
  have e3:u3 φ s sa ep e=u2 φ s ep e:=add_n n2
  have e4:u4 φ s sa ep e t=u2 φ s ep e:=by unfold u4; rw [e3]; exact seal_n n2
  rw [e4,g2f,eI_0 hn]
  rfl
 | false =>
 have h30:=fB_0 h3
 have e2:u2 φ s ep e=j2 φ s ep e:=by unfold u2 j2; rw [← u1e]; exact add_eq f1 h30
 have f2:(j2 φ s ep e).f=0:=rfl
 simp only [cond_false]
 cases h4:fB (φ.sr e sa) with
 | true =>
  obtain ⟨_,hn⟩:=fB_1 h4
  have g3f:(u3 φ s sa ep e).f=φ.sr e sa:=by unfold u3; rw [e2]; exact add_f f2 hn
  have n3:(u3 φ s sa ep e).f ≠ 0:=by rw [g3f]; exact hn
  have e4:u4 φ s sa ep e t=u3 φ s sa ep e:=seal_n n3
  rw [e4,g3f,eI_0 hn]
  rfl
 | false =>
 have h40:=fB_0 h4
 have e3:u3 φ s sa ep e=j3 φ s sa ep e:=by unfold u3 j3; rw [e2]; exact add_eq f2 h40
 have k3:(j3 φ s sa ep e).k.length=32:=add_k h40
 have q3:Inv (j3 φ s sa ep e):=inv_addT _ _ (inv_addT _ _ (inv_mix _ (inv_z hi)))
 have s4:=seal_eq (φ:=φ) (s:=j3 φ s sa ep e) (t:=t) rfl (hφ.hse _ _ _ k3 q3.1 (by omega))
 have e4:u4 φ s sa ep e t=j4 φ s sa ep e t:=by unfold u4; rw [e3]; exact s4.1
 have em:um φ s sa ep e t=φ.pu e++svT φ t (j3 φ s sa ep e):=by unfold um uc; rw [e3,s4.2]
 rw [e4,em]
 rfl
omit hφ in
theorem fin_eq {s:St}(hi:Inv s) (hf:s.f=0) (se ep ot m:L8):fiV φ s se ep ot m=fiD φ s se ep ot m:=by
 unfold fiV fiD
 rw [noB_f hi,cond_false]
 cases h1:gtB m 4144 with
 | true=>rfl
 | false =>
 cases h2:ltB2 m 48 with
 | true=>rfl
 | false =>
 simp only [cond_false]
 have ez:(⟨s.h,s.ck,s.k,0⟩:St)=s:=by cases s; simp only at hf; subst hf; rfl
 have v1e:v1 φ s m=i1 φ s m:=by unfold v1 i1; rw [ez]
 have f1:(v1 φ s m).f=0:=hf
 cases h3:fB (φ.sr ep (sl m 0 32)) with
 | true =>
  obtain ⟨_,hn⟩:=fB_1 h3
  have g2f:(v2 φ s ep m).f=φ.sr ep (sl m 0 32):=add_f f1 hn
  have n2:(v2 φ s ep m).f ≠ 0:=by rw [g2f]; exact hn
  have e3:v3 φ s se ep m=v2 φ s ep m:=add_n n2
  have e4:v4 φ s se ep m=v2 φ s ep m:=by unfold v4; rw [e3]; exact open_n n2
  rw [e4,g2f,eI_0 hn]
  rfl
 | false =>
 have h30:=fB_0 h3
 have e2:v2 φ s ep m=i2 φ s ep m:=by unfold v2 i2; rw [← v1e]; exact add_eq f1 h30
 have f2:(i2 φ s ep m).f=0:=rfl
 simp only [cond_false]
 cases h4:fB (φ.sr se (sl m 0 32)) with
 | true =>
  obtain ⟨_,hn⟩:=fB_1 h4
  have g3f:(v3 φ s se ep m).f=φ.sr se (sl m 0 32):=by unfold v3; rw [e2]; exact add_f f2 hn
  have n3:(v3 φ s se ep m).f ≠ 0:=by rw [g3f]; exact hn
  have e4:v4 φ s se ep m=v3 φ s se ep m:=open_n n3
  rw [e4,g3f,eI_0 hn]
  rfl
 | false =>
 have h40:=fB_0 h4
 have e3:v3 φ s se ep m=i3 φ s se ep m:=by unfold v3 i3; rw [e2]; exact add_eq f2 h40
 simp only [cond_false]
 cases h5:fB (opE φ (sl m 32 (m.length:Int)) (i3 φ s se ep m)) with
 | true =>
  obtain ⟨_,hn⟩:=fB_1 h5
  have g4f:(v4 φ s se ep m).f=opE φ (sl m 32 (m.length:Int)) (i3 φ s se ep m):=by unfold v4; rw [e3]; exact open_f rfl hn
  rw [g4f,eI_0 hn]
  rfl
 | false =>
 have h50:=fB_0 h5
 have o4:=open_eq (φ:=φ) (s:=i3 φ s se ep m) (c:=sl m 32 (m.length:Int)) rfl h50
 have e4:v4 φ s se ep m=i4 φ s se ep m:=by unfold v4; rw [e3]; exact o4.1
 have ec:vc φ s se ep m=ic φ s se ep m:=by unfold vc; rw [e3]; exact o4.2
 rw [e4,ec]
 rfl
end
end Go.Proofs.YtcplgmgpagekfaaDoor
namespace Go.Proofs.YtcplgmgpagekfaaDoor
open Go Go.Eng Go.Num Go.Bla
theorem x17 (c:UInt8):(run1 Tryd.prog noCS (mask 12) 200 12 [.u8 c] [] 1).map (·.1)=some (.str (List.replicate 31 0++[c])):=by kernel_rfl
def c17:List AVal→Option EffA
 | [.u8 c]=>some (.pure (.str (List.replicate 31 0++[c])))
 | _=>none
theorem call17:CSOk Tryd.prog (csOne 12 c17):=csOne_ok fun args e he=>by
 unfold c17 at he
 split at he
 ·cases he; exact callOk_val (noCS_ok _) hmix (by rw [gl1]; exact x17 _) rfl rfl
 ·cases he
def wr (x y:Int):Int:=IntKind.wrap .i64 (x+y)
def lgB (a b e f p o t:L8):Bool:=decide ((1024:Int) < wr (wr (wr (wr (wr (wr (a.length:Int) (b.length:Int)) (e.length:Int)) (f.length:Int)) (p.length:Int)) (o.length:Int)) (t.length:Int))
theorem x5 (a b e f p o t:L8):(run1 Tryd.prog noCS (mask 5) 200 5 [.agg [.str a,.str b,.str e,.str f,.str p,.str o,.str t]] [] 1).map (·.1)=some (.bool (lgB a b e f p o t)):=by kernel_rfl
def c5:List AVal→Option EffA
 | [.agg [.str a,.str b,.str e,.str f,.str p,.str o,.str t]]=>some (.pure (.bool (lgB a b e f p o t)))
 | _=>none
theorem call5:CSOk Tryd.prog (csOne 5 c5):=csOne_ok fun args e he=>by
 unfold c5 at he
 split at he
 ·cases he; exact callOk_val (noCS_ok _) hmix (by rw [gl1]; exact x5 _ _ _ _ _ _ _) rfl rfl
 ·cases he
def qW (y:Int):Nat:=BitVec.toNat ((BitVec.ofInt (IntKind.bits .i64) y) &&& (BitVec.ofInt (IntKind.bits .i64) 16777215))
def tuF (s:L8) (y:Int) (b:UInt8):L8:=cond (noB s) s (s.set (qW y % s.length) (s.getD (qW y % s.length) 0 ^^^ b))
def c10:List AVal→Option EffA
 | [.str s,.int .i64 y,.u8 b]=>some (.pure (.str (tuF s y b)))
 | _=>none
theorem call10:CSOk Tryd.prog (csNo c10):=csNo_ok _
end Go.Proofs.YtcplgmgpagekfaaDoor
namespace Go.Proofs.YtcplgmgpagekfaaDoor
open Go Go.Eng Go.Num Go.Bla
noncomputable def c6:List AVal→Option EffA
 | []=>some (lkE (.bool true))
 | _=>none
noncomputable def psL (φ:Fz):PS:=psAlt (psNo (y14 φ)) (psNo (y16 φ))
noncomputable def csL0 (φ:Fz):CS:=csAlt (csOne 5 c5) (csAlt (csNo c10) (csAlt (csNo (y9 φ)) (csAlt (csNo (y12 φ)) (csAlt (csOne 8 (c8 φ)) (csAlt (csOne 9 (c11 φ)) (csAlt (csOne 10 (c13 φ)) (csAlt (csOne 11 (c15 φ)) (csAlt (csOne 7 (x7 φ)) (csOne 6 c6)))))))))
noncomputable def csL (φ:Fz):CS:=csAlt (csP (psL φ)) (csL0 φ)
def neI (x y:Int):Bool:=!(eI x y)
def rB (a b e f p o t:L8):AVal:=.agg [.str a,.str b,.str e,.str f,.str p,.str o,.str t]
end Go.Proofs.YtcplgmgpagekfaaDoor
namespace Go.Proofs.YtcplgmgpagekfaaDoor
open Go Go.Eng Go.Num Go.Bla
def hA (l:List (Nat × List AVal)):HL:=(0,.cells true ordC)::l.map fun x=>(x.1,.cells false x.2)
noncomputable def oS (e:EffA) (base:Nat) (H:HL) (v:AVal):Bool:=oB e base H v H
def rC (a b e f p o t:L8):List AVal:=[.str a,.str b,.str e,.str f,.str p,.str o,.str t]
def strE (a b:L8):Bool:=a == b
def gotE (a b:List AVal):Bool:=eqL a b
end Go.Proofs.YtcplgmgpagekfaaDoor
namespace Go.Proofs.YtcplgmgpagekfaaDoor
open Go Go.Eng Go.Num Go.Bla
theorem nt {b:Bool}(h:b=false):(!b)=true:=by rw [h]; rfl
theorem ordE:eqL ordC ordC=true:=by kernel_rfl
theorem lk_app {H:HL}{base:Nat}{v:AVal}(h:aget H 0=some (.cells true ordC)):(lkE v).app base H=some (v,H):=by
 unfold lkE tL
 simp only [EffA.app,tK_cut]
 unfold tK
 rw [h]
 simp only [ordE,cond_true]
theorem lkO {H:HL}{base:Nat}{v:AVal}(h:aget H 0=some (.cells true ordC)):oB (lkE v) base H v H=true:=oB_of (lk_app h)
theorem strO (r:L8):(!(!(strE r r)))=true:=by unfold strE; simp
theorem gotQ (a b c d e:L8):gotE (gotC a b c d e) (gotC a b c d e)=true:=by
 unfold gotE gotC
 simp [eqL,eqS]
theorem gotO (a b c d e:L8):(!(!(gotE (gotC a b c d e) (gotC a b c d e))))=true:=by rw [gotQ]; rfl
theorem lkB {e:EffA}{H:HL}{base:Nat}{v:AVal}(he:e=lkE v) (h:aget H 0=some (.cells true ordC)):oB e base H v H=true:=by
 subst he
 exact lkO h
theorem mkB {e:EffA}{H H':HL}{base:Nat}{c:List AVal}{mk:Nat→AVal}{v:AVal}(he:e=mkT 0 ordC c mk) (h:aget H 0=some (.cells true ordC)) (hH:appU H [(base,some (.cells false c))]=H') (hv:mk base=v):oB e base H v H'=true:=by
 subst he
 refine oB_of ?_
 rw [mkT_app h,hH,hv]
theorem anB {φ:Fz}(hφ:OkZ φ){s:St}(hi:Inv s){sa ep e t:L8}{n base:Nat}{H:HL}{v:AVal}(h0:aget H 0=some (.cells true ordC)) (hn:aget H n=some (.cells false (stC s++exC 1 sa ep []))) (hH:aset H n (.cells false (stC s++exC 1 sa ep []))=H) (hv:anV φ s sa ep e t=v):oB (anM φ [.ptr n 0,.str e,.str t]) base H v H=true:=by
 refine oB_of ?_
 rw [ans_app hφ s hi sa ep e t h0 hn,hH,hv]
theorem fiB {φ:Fz}(hφ:OkZ φ){s:St}(hi:Inv s){se ep ot m:L8}{n base:Nat}{H:HL}{v:AVal}(h0:aget H 0=some (.cells true ordC)) (hn:aget H n=some (.cells false (stC s++exC 2 se ep ot))) (hH:aset H n (.cells false (stC s++exC 2 se ep ot))=H) (hv:fiV φ s se ep ot m=v):oB (fiM φ [.ptr n 0,.str m]) base H v H=true:=by
 refine oB_of ?_
 rw [fin_app hφ s hi se ep ot m h0 hn,hH,hv]
end Go.Proofs.YtcplgmgpagekfaaDoor
namespace Go.Proofs.YtcplgmgpagekfaaDoor
open Go Go.Eng Go.Num Go.Bla
def realZ:Fz:=⟨wF,shV ladE,shR ladE,puV ladE,puR,fun k n a s=>(Ae.seF k n a s).1,fun k n a s=>(Ae.seF k n a s).2,fun k n a s=>(Ae.opF k n a s).1,fun k n a s=>(Ae.opF k n a s).2,Ae.nonL 0⟩
theorem puE_eq (k:List UInt8):puV ladE k=puV ladP k:=by
 unfold puV
 cases hk:isLen k 32
 ·simp only [cond_false]
 rw [lad_same k (u:=nine32) rfl]
theorem z42:CSOk Tryd.prog (csOne 31 (c42 realZ)):=csOne_ok fun args e he=>by
 unfold c42 at he
 split at he
 ·rename_i a b
  cases he
  exact k42_ok 31 [.str a,.str b] _ rfl
 ·cases he
theorem z20:CSOk Tryd.prog (csOne 15 (c20 realZ)):=csOne_ok fun args e he=>by
 unfold c20 at he
 split at he
 ·rename_i a
  cases he
  exact k20_ok 15 [.str a] _ rfl
 ·cases he
theorem z44:CSOk Tryd.prog (csOne 33 (c44 realZ)):=csOne_ok fun args e he=>by
 unfold c44 at he
 split at he
 ·cases he; exact Ae.call7 _ _ _ _
 ·cases he
theorem z45:CSOk Tryd.prog (csOne 34 (c45 realZ)):=csOne_ok fun args e he=>by
 unfold c45 at he
 split at he
 ·cases he; exact callOk_val Ae.cs8_ok hmix (Ae.run11 0) rfl rfl
 ·cases he
theorem z50:CSOk Tryd.prog (csP (psOne 35 (q50 realZ))):=psOne_ok fun args e he=>by
 unfold q50 at he
 split at he
 ·rename_i a b c s
  simp only [Option.some.injEq,Prod.mk.injEq] at he
  obtain ⟨rfl,h⟩:=he
  exact Ae.call9 a b c s (Nat.le_of_ble_eq_true h)
 ·cases he
theorem z47:CSOk Tryd.prog (csNo (x47 realZ)):=csNo_ok _
theorem z7:CSOk Tryd.prog (csOne 7 (x7 realZ)):=csOne_ok fun args e he=>by
 unfold x7 at he
 split at he
 ·rename_i a
  cases he
  have h:=k7_ok 7 [.str a] _ rfl
  show CallOk Tryd.prog 7 [.str a] (.pure (.tup [.str (puV ladE a),.int .i64 (puR a)]))
  rw [puE_eq a]
  exact h
 ·cases he
theorem z48:CSOk Tryd.prog (csNo (x48 realZ)):=csNo_ok _
theorem z49:CSOk Tryd.prog (csNo (x49 realZ)):=csNo_ok _
theorem z51:CSOk Tryd.prog (csP (psNo (y51 realZ))):=psNo_ok _
theorem z40:CSOk Tryd.prog (csP (psOne 29 (q40 realZ.w))):=g40_ok
theorem z46:CSOk Tryd.prog (csP (psNo (e46 realZ.w))):=psNo_ok _
theorem z43:CSOk Tryd.prog (csP (psOne 32 (q43 realZ.w))):=q43_ok (q94_ok z40)
theorem z31:CSOk Tryd.prog (csP (psNo (e31 realZ.w))):=psNo_ok _
theorem zN:CSOk Tryd.prog (csN realZ):=csAlt_ok (csP_alt z40 (csP_alt z43 z50)) (csAlt_ok z42 (csAlt_ok z20 (csAlt_ok z44 z45)))
theorem z21:CSOk Tryd.prog (csOne 16 (c21 realZ)):=csOne_ok fun args e he=>by
 unfold c21 at he
 split at he
 ·cases he; exact inlS_ok zN hmix rfl
 ·cases he
theorem zN2:CSOk Tryd.prog (csN2 realZ):=csAlt_ok zN z21
theorem z22:CSOk Tryd.prog (csOne 17 (c22 realZ)):=csOne_ok fun args e he=>by
 unfold c22 at he
 split at he
 ·cases he; exact inlS_ok zN hmix rfl
 ·cases he
theorem z23:CSOk Tryd.prog (csOne 18 (c23 realZ)):=csOne_ok fun args e he=>by
 unfold c23 at he
 split at he
 ·cases he; exact inlS_ok zN2 hmix rfl
 ·cases he
theorem z28:CSOk Tryd.prog (csOne 19 (c28 realZ)):=csOne_ok fun args e he=>by
 unfold c28 at he
 split at he
 ·cases he; exact inlS_ok zN2 hmix rfl
 ·cases he
theorem z30:CSOk Tryd.prog (csOne 20 (c30 realZ)):=csOne_ok fun args e he=>by
 unfold c30 at he
 split at he
 ·cases he; exact inlS_ok zN2 hmix rfl
 ·cases he
theorem zN3:CSOk Tryd.prog (csN3 realZ):=csAlt_ok zN2 (csAlt_ok z22 (csAlt_ok z23 (csAlt_ok z28 z30)))
theorem zN4:CSOk Tryd.prog (csN4 realZ):=csAlt_ok (csP_alt (call19 zN2) (csP_alt z40 (csP_alt z43 z50))) zN3
theorem zD0:CSOk Tryd.prog (csD0 realZ):=csAlt_ok z47 (csAlt_ok z7 (csAlt_ok z48 z49))
theorem zD:CSOk Tryd.prog (csD realZ):=csAlt_ok (csP_alt z46 (csP_alt z31 z51)) zD0
theorem zD1:CSOk Tryd.prog (csD1 realZ):=csAlt_ok (csP_alt (call25 zD) (csP_alt z46 (csP_alt z31 z51))) zD0
theorem zX:CSOk Tryd.prog (csX realZ):=psX_ok zD zD1 z31 zD0
theorem isLenT {k:List UInt8}(h:k.length=32):isLen k 32=true:=isLen_eq.2 h
theorem pu_len (a:L8):(puV ladE a).length≤32:=by
 unfold puV
 cases isLen a 32
 ·simp
 ·simp only [cond_true]
  exact Nat.le_of_eq (ladE_len a nine32)
theorem sh_len (a b:L8):(shV ladE a b).length≤32:=by
 unfold shV
 cases (isLen a 32 && isLen b 32)
 ·simp
 ·simp only [cond_true]
  cases ladE a b == zero32
  ·exact Nat.le_of_eq (ladE_len a b)
  ·simp
theorem se_len (k n a t:L8):((Ae.seF k n a t).1).length≤t.length+16:=by
 unfold Ae.seF
 cases hm:Cha.may k n with
 | false=>simp
 | true =>
  simp only [cond_true]
  split
  ·simp
  ·rw [List.length_append,Ae.ct_len,Ae.tag_len hm]; exact Nat.le_refl _
theorem no_len:(Ae.nonL 0).length=12:=rfl
theorem may_k {k:L8}(h:k.length=32):Cha.may k (Ae.nonL 0)=true:=Go.Cha.may_true.2 ⟨h,no_len⟩
theorem okZ:OkY realZ where
 hpu:=pu_len
 hsh:=sh_len
 hsv:=se_len
 hse:=fun k a t hk ha ht=>by
  show (Ae.seF k (Ae.nonL 0) a t).2=0
  unfold Ae.seF
  rw [may_k hk,cond_true,if_neg (by omega)]
end Go.Proofs.YtcplgmgpagekfaaDoor
namespace Go.Proofs.YtcplgmgpagekfaaDoor
open Go Go.Eng Go.Num Go.Bla
structure OkR (φ:Fz):Prop extends OkY φ where
 hpl:∀ k,k.length=32→(φ.pu k).length=32
 hso:∀ k a t,k.length=32→a.length=32→t.length≤5000→φ.ov k φ.no a (φ.sv k φ.no a t)=t∧φ.oe k φ.no a (φ.sv k φ.no a t)=0∧(φ.sv k φ.no a t).length=t.length+16
def DH (φ:Fz) (a b:L8):Prop:=φ.sr a (φ.pu b)=0∧φ.sr b (φ.pu a)=0∧φ.sh a (φ.pu b)=φ.sh b (φ.pu a)
theorem sl_a (x y:L8):sl (x++y) 0 (x.length:Nat)=x:=by
 unfold sl
 rw [Int.toNat_natCast,List.take_left]
 rfl
theorem sl_b (x y z:L8):sl ((x++y)++z) (x.length:Nat) ((x.length+y.length:Nat):Int)=y:=by
 unfold sl
 rw [Int.toNat_natCast,Int.toNat_natCast,← List.length_append,List.take_left,List.drop_left]
theorem sl_c (x y:L8):sl (x++y) (x.length:Nat) ((x++y).length:Nat)=y:=by
 unfold sl
 rw [Int.toNat_natCast,Int.toNat_natCast,List.take_length,List.drop_left]
section
variable {φ:Fz}(hφ:OkR φ)
include hφ
omit hφ in
theorem addT_same {a b:L8}(h:DH φ a b) (s:St):addT φ a (φ.pu b) s=addT φ b (φ.pu a) s:=by
 obtain ⟨h1,h3,h2⟩:=h
 unfold addT
 rw [h1,h3,h2]
theorem open_seal {s:St}{t:L8}(hi:Inv s) (hf:s.f=0) (hk:s.k.length=32) (ht:t.length≤5000):opE φ (svT φ t s) s=0∧opX φ (svT φ t s) s=t∧openT φ (svT φ t s) s=sealT φ t s∧(svT φ t s).length=t.length+16:=by
 obtain ⟨h1,h2,h3⟩:=hφ.hso s.k s.h t hk hi.1 ht
 have e:opE φ (svT φ t s) s=0:=h2
 refine ⟨e,?_,?_,h3⟩
 ·unfold opX
  rw [e]
  exact h1
 ·unfold openT sealT
  rw [e]
  cases s
  simp only at hf
  subst hf
  rfl
omit hφ in
theorem neB_f {a:L8}(h:a.length=32):neB a 32=false:=by
 unfold neB
 rw [h]
 rfl
omit hφ in
theorem gt4096_f {a:L8}(h:a.length≤4096):gtB a 4096=false:=by
 unfold gtB
 simp
 omega
omit hφ in
theorem gt4192_f {a:L8}(h:a.length≤4192):gtB a 4192=false:=by
 unfold gtB
 simp
 omega
omit hφ in
theorem gt4144_f {a:L8}(h:a.length≤4144):gtB a 4144=false:=by
 unfold gtB
 simp
 omega
theorem begin_ok {a b e p t:L8}(ha:a.length=32) (hb:b.length=32) (he:e.length=32) (hp:p.length≤4096) (ht:t.length≤4096) (heb:DH φ e b) (hab:DH φ a b) :
  bgD φ a (φ.pu b) e p t=.tup [hfD (z5 φ a (φ.pu b) e p t) a e (φ.pu b),.str (zm φ a (φ.pu b) e p t),.int .i64 0]:=by
 unfold bgD
 rw [neB_f ha,neB_f (hφ.hpl b hb),neB_f he,gt4096_f hp,gt4096_f ht,heb.1,hab.1]
 rfl
theorem read_ok {a b e p t:L8}(ha:a.length=32) (hb:b.length=32) (he:e.length=32) (hp:p.length≤4096) (ht:t.length≤4096) (heb:DH φ e b) (hab:DH φ a b) :
  (zm φ a (φ.pu b) e p t).length=96+t.length∧rdD φ b p (zm φ a (φ.pu b) e p t)=.tup [otD (z5 φ a (φ.pu b) e p t) (φ.pu a) (φ.pu e),.agg (gotC (φ.pu a) t [] [] []),.int .i64 0]:=by
 have pe:=hφ.hpl e he
 have pa:=hφ.hpl a ha
 have i0:=inv_bg φ p (φ.pu b)
 have i2:Inv (z2 φ (φ.pu b) e p):=inv_addT _ _ (inv_mix _ i0)
 have k2:(z2 φ (φ.pu b) e p).k.length=32:=add_k heb.1
 have s1:=open_seal hφ i2 rfl k2 (t:=φ.pu a) (by omega)
 have i4:Inv (z4 φ a (φ.pu b) e p):=inv_addT _ _ (inv_sealT _ i2)
 have k4:(z4 φ a (φ.pu b) e p).k.length=32:=add_k hab.1
 have s2:=open_seal hφ i4 rfl k4 (t:=t) (by omega)
 have l1:=s1.2.2.2
 have l2:=s2.2.2.2
 have hm:zm φ a (φ.pu b) e p t=(φ.pu e++svT φ (φ.pu a) (z2 φ (φ.pu b) e p))++svT φ t (z4 φ a (φ.pu b) e p):=rfl
 have hl:(zm φ a (φ.pu b) e p t).length=96+t.length:=by
  rw [hm,List.length_append,List.length_append]
  omega
 refine ⟨hl,?_⟩
 have e1:sl (zm φ a (φ.pu b) e p t) 0 32=φ.pu e:=by
  have:=sl_a (φ.pu e) (svT φ (φ.pu a) (z2 φ (φ.pu b) e p)++svT φ t (z4 φ a (φ.pu b) e p))
  rw [pe,← List.append_assoc] at this
  exact this
 have e2:sl (zm φ a (φ.pu b) e p t) 32 80=svT φ (φ.pu a) (z2 φ (φ.pu b) e p):=by
  have:=sl_b (φ.pu e) (svT φ (φ.pu a) (z2 φ (φ.pu b) e p)) (svT φ t (z4 φ a (φ.pu b) e p))
  rw [pe,l1,pa] at this
  exact this
 have e3:sl (zm φ a (φ.pu b) e p t) 80 ((zm φ a (φ.pu b) e p t).length:Int)=svT φ t (z4 φ a (φ.pu b) e p):=by
  have:=sl_c (φ.pu e++svT φ (φ.pu a) (z2 φ (φ.pu b) e p)) (svT φ t (z4 φ a (φ.pu b) e p))
  have h80:(φ.pu e++svT φ (φ.pu a) (z2 φ (φ.pu b) e p)).length=80:=by rw [List.length_append]; omega
  rw [h80] at this
  exact this
 have w1e:w1 φ b p (zm φ a (φ.pu b) e p t)=z1 φ (φ.pu b) e p:=by unfold w1 z1; rw [e1]
 have w2e:w2 φ b p (zm φ a (φ.pu b) e p t)=z2 φ (φ.pu b) e p:=by unfold w2 z2; rw [w1e,e1]; exact (addT_same heb _).symm
 have wse:ws φ b p (zm φ a (φ.pu b) e p t)=φ.pu a:=by unfold ws; rw [w2e,e2]; exact s1.2.1
 have w3e:w3 φ b p (zm φ a (φ.pu b) e p t)=z3 φ a (φ.pu b) e p:=by unfold w3 z3; rw [w2e,e2]; exact s1.2.2.1
 have w4e:w4 φ b p (zm φ a (φ.pu b) e p t)=z4 φ a (φ.pu b) e p:=by unfold w4 z4; rw [w3e,wse]; exact (addT_same hab _).symm
 have wte:wt φ b p (zm φ a (φ.pu b) e p t)=t:=by unfold wt; rw [w4e,e3]; exact s2.2.1
 have w5e:w5 φ b p (zm φ a (φ.pu b) e p t)=z5 φ a (φ.pu b) e p t:=by unfold w5 z5; rw [w4e,e3]; exact s2.2.2.1
 unfold rdD
 have n1:ltB2 (zm φ a (φ.pu b) e p t) 96=false:=by unfold ltB2; rw [hl]; simp; omega
 rw [wse,w2e,w4e,wte,w5e,e1,e2,e3,neB_f hb,gt4096_f hp,gt4192_f (by omega),n1,heb.2.1,hab.2.1,s1.1,s2.1]
 rfl
theorem answer_ok {s:St}(hi:Inv s) (hf:s.f=0){a e f t:L8}(ha:a.length=32) (he:e.length=32) (hff:f.length=32) (ht:t.length≤4096) (hfe:DH φ f e) (hfa:DH φ f a) :
  ∃ (m c0 c1 h:L8),m.length=48+t.length∧c0=kc0 φ.w (j4 φ s (φ.pu a) (φ.pu e) f t).ck []∧c1=kc1 φ.w (j4 φ s (φ.pu a) (φ.pu e) f t).ck []∧h=(j4 φ s (φ.pu a) (φ.pu e) f t).h ∧
   anD φ s (φ.pu a) (φ.pu e) f t=.tup [.str m,.agg (gotC (φ.pu a) [] c1 c0 h),.int .i64 0]∧∀ o,fiD φ s a e o m=.tup [.agg (gotC o t c0 c1 h),.int .i64 0]:=by
 have pf:=hφ.hpl f hff
 have k0:Inv ⟨s.h,s.ck,s.k,0⟩:=hi
 have ii2:Inv (j2 φ s (φ.pu e) f):=inv_addT _ _ (inv_mix _ k0)
 have ii3:Inv (j3 φ s (φ.pu a) (φ.pu e) f):=inv_addT _ _ ii2
 have k3:(j3 φ s (φ.pu a) (φ.pu e) f).k.length=32:=add_k hfa.1
 have s1:=open_seal hφ ii3 rfl k3 (t:=t) (by omega)
 have l1:=s1.2.2.2
 refine ⟨φ.pu f++svT φ t (j3 φ s (φ.pu a) (φ.pu e) f),_,_,_,by rw [List.length_append]; omega,rfl,rfl,rfl,?_,fun o => ?_⟩
 ·unfold anD
  rw [neB_f hff,gt4096_f ht,hfe.1,hfa.1]
  rfl
 ·generalize hm:φ.pu f++svT φ t (j3 φ s (φ.pu a) (φ.pu e) f)=m
  have hl:m.length=48+t.length:=by rw [← hm,List.length_append]; omega
  have e1:sl m 0 32=φ.pu f:=by
   have:=sl_a (φ.pu f) (svT φ t (j3 φ s (φ.pu a) (φ.pu e) f))
   rw [pf,hm] at this
   exact this
  have e2:sl m 32 (m.length:Int)=svT φ t (j3 φ s (φ.pu a) (φ.pu e) f):=by
   have:=sl_c (φ.pu f) (svT φ t (j3 φ s (φ.pu a) (φ.pu e) f))
   rw [pf,hm] at this
   exact this
  have i1e:i1 φ s m=j1 φ s f:=by unfold i1 j1; rw [e1]
  have i2e:i2 φ s e m=j2 φ s (φ.pu e) f:=by unfold i2 j2; rw [i1e,e1]; exact (addT_same hfe _).symm
  have i3e:i3 φ s a e m=j3 φ s (φ.pu a) (φ.pu e) f:=by unfold i3 j3; rw [i2e,e1]; exact (addT_same hfa _).symm
  have i4e:i4 φ s a e m=j4 φ s (φ.pu a) (φ.pu e) f t:=by unfold i4 j4; rw [i3e,e2]; exact s1.2.2.1
  have ice:ic φ s a e m=t:=by unfold ic; rw [i3e,e2]; exact s1.2.1
  unfold fiD
  have n1:ltB2 m 48=false:=by unfold ltB2; rw [hl]; simp; omega
  rw [i3e,i4e,ice,e1,e2,gt4144_f (by omega),n1,hfe.2.1,hfa.2.1,s1.1]
  rfl
end
end Go.Proofs.YtcplgmgpagekfaaDoor
namespace Go.Proofs.YtcplgmgpagekfaaDoor
open Go Go.Eng Go.Num Go.Bla
def kyL (c:UInt8):L8:=List.replicate 31 0++[c]
noncomputable def csA6 (φ:Fz):CS:=csAlt (csOne 12 c17) (csAlt (csOne 8 (c8 φ)) (csAlt (csOne 9 (c11 φ)) (csAlt (csOne 10 (c13 φ)) (csAlt (csOne 11 (c15 φ)) (csOne 7 (x7 φ))))))
noncomputable def ob_l6 (φ:Fz) (s:St) (m r c0 c1 h:L8):List Bool:=[!(strE c1 c0),strE h h,strE c0 c0,strE c1 c1,eI (c1.length:Int) 32,eI (r.length:Int) 50,oS (fiM φ [.ptr 145 0,.str r]) 761 (hA [(145,stC s++exC 2 (kyL 97) (kyL 101) (φ.pu (kyL 98))),(225,stC s++exC 1 (φ.pu (kyL 97)) (φ.pu (kyL 101)) []),(265,gotC (φ.pu (kyL 97)) [97,98,99] [] [] []),(353,got0),(713,gotC (φ.pu (kyL 97)) [] c1 c0 h)]) (.tup [.agg (gotC (φ.pu (kyL 98)) [120,121] c0 c1 h),.int .i64 0]),oS (anM φ [.ptr 225 0,.str (kyL 102),.str [120,121]]) 673 (hA [(145,stC s++exC 2 (kyL 97) (kyL 101) (φ.pu (kyL 98))),(225,stC s++exC 1 (φ.pu (kyL 97)) (φ.pu (kyL 101)) []),(265,gotC (φ.pu (kyL 97)) [97,98,99] [] [] []),(353,got0)]) (.tup [.str r,.agg (gotC (φ.pu (kyL 97)) [] c1 c0 h),.int .i64 0]),!(!(strE (φ.pu (kyL 97)) (φ.pu (kyL 97)))),!(neI (m.length:Int) 99),oS (rdE φ (kyL 98) [113] m) 313 (hA [(145,stC s++exC 2 (kyL 97) (kyL 101) (φ.pu (kyL 98))),(225,stC s++exC 1 (φ.pu (kyL 97)) (φ.pu (kyL 101)) []),(265,gotC (φ.pu (kyL 97)) [97,98,99] [] [] [])]) (.tup [.nilPtr,.agg got0,.int .i64 100]),oB (rdE φ (kyL 98) [112] m) 225 (hA [(145,stC s++exC 2 (kyL 97) (kyL 101) (φ.pu (kyL 98)))]) (.tup [.ptr 225 0,.agg (gotC (φ.pu (kyL 97)) [97,98,99] [] [] []),.int .i64 0]) (hA [(145,stC s++exC 2 (kyL 97) (kyL 101) (φ.pu (kyL 98))),(225,stC s++exC 1 (φ.pu (kyL 97)) (φ.pu (kyL 101)) [])]),oB (bgE φ (kyL 97) (φ.pu (kyL 98)) (kyL 101) [112] [97,98,99]) 145 (hA []) (.tup [.ptr 145 0,.str m,.int .i64 0]) (hA [(145,stC s++exC 2 (kyL 97) (kyL 101) (φ.pu (kyL 98)))])]
theorem l6 (φ:Fz) (s:St) (m r c0 c1 h:L8):ansO (run1O Tryd.prog noPS (csA6 φ) [68,74,107,118,125,132,139,146,300033,300040,300047,300088,300095] [false,false,true,true,true,true,true,true] [.tup [.ptr 145 0,.str m,.int .i64 0],.tup [.ptr 145 0,.agg (stC s++exC 2 (kyL 97) (kyL 101) (φ.pu (kyL 98)))],.tup [.ptr 225 0,.agg (gotC (φ.pu (kyL 97)) [97,98,99] [] [] []),.int .i64 0],.tup [.ptr 225 0,.agg (stC s++exC 1 (φ.pu (kyL 97)) (φ.pu (kyL 101)) [])],.tup [.nilPtr,.agg got0,.int .i64 100],.tup [],.tup [.str r,.agg (gotC (φ.pu (kyL 97)) [] c1 c0 h),.int .i64 0],.tup [.ptr 225 0,.agg (stC s++exC 1 (φ.pu (kyL 97)) (φ.pu (kyL 101)) [])],.tup [.agg (gotC (φ.pu (kyL 98)) [120,121] c0 c1 h),.int .i64 0],.tup [.ptr 145 0,.agg (stC s++exC 2 (kyL 97) (kyL 101) (φ.pu (kyL 98)))]] (mask 6) 200 6 [] H0 1)=some (.bool true,ob_l6 φ s m r c0 c1 h):=by kernel_rfl
end Go.Proofs.YtcplgmgpagekfaaDoor
namespace Go.Proofs.YtcplgmgpagekfaaDoor
open Go Go.Eng Go.Num Go.Bla
theorem strQ (r:L8):strE r r=true:=by unfold strE; simp
theorem st_ext {s s':St}(h:dL s=dL s') (hf:s.f=s'.f):s=s':=by
 cases s
 cases s'
 unfold dL at h
 simp only [List.cons.injEq,AVal.str.injEq,and_true] at h
 simp only at hf
 obtain ⟨rfl,rfl,rfl⟩:=h
 rw [hf]
section
variable {φ:Fz}(hφ:OkR φ)
include hφ
theorem begin_e {a b e p t:L8}(ha:a.length=32) (hb:b.length=32) (he:e.length=32) (hp:p.length≤4096) (ht:t.length≤4096) (heb:DH φ e b) (hab:DH φ a b) :
  Inv (z5 φ a (φ.pu b) e p t)∧bgE φ a (φ.pu b) e p t=mkT 0 ordC (stC (z5 φ a (φ.pu b) e p t)++exC 2 a e (φ.pu b)) (fun n=>.tup [.ptr n 0,.str (zm φ a (φ.pu b) e p t),.int .i64 0]):=by
 have h:=begin_ok hφ ha hb he hp ht heb hab
 rcases begin_cases hφ.toOkY a (φ.pu b) e p t with ⟨c,hc,_,hd⟩ | ⟨s,m,hi,hf,_,h1,hd⟩
 ·rw [h] at hd
  simp only [AVal.tup.injEq,List.cons.injEq,AVal.int.injEq,true_and,and_true] at hd
  exact absurd hd.2.2.symm hc
 ·rw [h] at hd
  unfold hfD at hd
  simp only [AVal.tup.injEq,List.cons.injEq,AVal.agg.injEq,AVal.str.injEq,and_true] at hd
  have e1:z5 φ a (φ.pu b) e p t=s:=st_ext (List.append_cancel_right hd.1) (by rw [hf]; rfl)
  rw [e1,hd.2]
  exact ⟨hi,h1⟩
theorem read_e {a b e p t:L8}(ha:a.length=32) (hb:b.length=32) (he:e.length=32) (hp:p.length≤4096) (ht:t.length≤4096) (heb:DH φ e b) (hab:DH φ a b) :
  rdE φ b p (zm φ a (φ.pu b) e p t)=mkT 0 ordC (stC (z5 φ a (φ.pu b) e p t)++exC 1 (φ.pu a) (φ.pu e) []) (fun n=>.tup [.ptr n 0,.agg (gotC (φ.pu a) t [] [] []),.int .i64 0]):=by
 have h:=(read_ok hφ ha hb he hp ht heb hab).2
 rcases read_cases (φ:=φ) b p (zm φ a (φ.pu b) e p t) with ⟨c,hc,_,hd⟩ | ⟨s,sa,ep,pa,hi,hf,_,h1,hd⟩
 ·rw [h] at hd
  simp only [AVal.tup.injEq,List.cons.injEq,AVal.int.injEq,true_and,and_true] at hd
  exact absurd hd.2.2.symm hc
 ·rw [h] at hd
  unfold otD gotC at hd
  simp only [AVal.tup.injEq,List.cons.injEq,AVal.agg.injEq,AVal.str.injEq,and_true] at hd
  obtain ⟨h2,h3,h4⟩:=hd
  have h5:=List.append_inj h2 rfl
  simp only [List.cons.injEq,AVal.str.injEq,and_true] at h5
  have e1:z5 φ a (φ.pu b) e p t=s:=st_ext h5.1 (by rw [hf]; rfl)
  rw [h1,← e1,← h5.2.1,← h5.2.2,← h4]
theorem alive6 (heb:DH φ (kyL 101) (kyL 98)) (hab:DH φ (kyL 97) (kyL 98)) (hfe:DH φ (kyL 102) (kyL 101)) (hfa:DH φ (kyL 102) (kyL 97)) (hq:rdD φ (kyL 98) [113] (zm φ (kyL 97) (φ.pu (kyL 98)) (kyL 101) [112] [97,98,99])=.tup [ot0,.agg got0,.int .i64 100])
  (hs:kc1 φ.w (j4 φ (z5 φ (kyL 97) (φ.pu (kyL 98)) (kyL 101) [112] [97,98,99]) (φ.pu (kyL 97)) (φ.pu (kyL 101)) (kyL 102) [120,121]).ck [] ≠ kc0 φ.w (j4 φ (z5 φ (kyL 97) (φ.pu (kyL 98)) (kyL 101) [112] [97,98,99]) (φ.pu (kyL 97)) (φ.pu (kyL 101)) (kyL 102) [120,121]).ck []) :
  (run1 Tryd.prog (csA6 φ) (mask 6) 200 6 [] H0 1).map (·.1)=some (.bool true):=by
 have la:(kyL 97).length=32:=rfl
 have lb:(kyL 98).length=32:=rfl
 have le:(kyL 101).length=32:=rfl
 have lf:(kyL 102).length=32:=rfl
 obtain ⟨hi,hb⟩:=begin_e hφ la lb le (p:=[112]) (t:=[97,98,99]) (by decide) (by decide) heb hab
 have hml:=(read_ok hφ la lb le (p:=[112]) (t:=[97,98,99]) (by decide) (by decide) heb hab).1
 have hr:=read_e hφ la lb le (p:=[112]) (t:=[97,98,99]) (by decide) (by decide) heb hab
 have hq2:rdE φ (kyL 98) [113] (zm φ (kyL 97) (φ.pu (kyL 98)) (kyL 101) [112] [97,98,99])=lkE (.tup [.nilPtr,.agg got0,.int .i64 100]):=by
  rcases read_cases (φ:=φ) (kyL 98) [113] (zm φ (kyL 97) (φ.pu (kyL 98)) (kyL 101) [112] [97,98,99]) with ⟨c,hc,h1,hd⟩ | ⟨s,sa,ep,pa,_,_,_,h1,hd⟩
  ·rw [hq] at hd
   simp only [AVal.tup.injEq,List.cons.injEq,AVal.int.injEq,true_and,and_true] at hd
   rw [h1,← hd]
  ·rw [hq] at hd
   simp only [AVal.tup.injEq,List.cons.injEq,AVal.int.injEq,true_and,and_true] at hd
   exact absurd hd.2.2 (by decide)
 generalize hS:z5 φ (kyL 97) (φ.pu (kyL 98)) (kyL 101) [112] [97,98,99]=S at hi hb hr hs
 have hSf:S.f=0:=by rw [← hS]; rfl
 generalize zm φ (kyL 97) (φ.pu (kyL 98)) (kyL 101) [112] [97,98,99]=m at hml hb hr hq2
 obtain ⟨r,c0,c1,h,hrl,e0,e1,e2,had,hfd⟩:=answer_ok hφ hi hSf la le lf (t:=[120,121]) (by decide) hfe hfa
 have han:anV φ S (φ.pu (kyL 97)) (φ.pu (kyL 101)) (kyL 102) [120,121]=.tup [.str r,.agg (gotC (φ.pu (kyL 97)) [] c1 c0 h),.int .i64 0]:=by rw [ans_eq hφ.toOkY hi hSf,had]
 have hfi:fiV φ S (kyL 97) (kyL 101) (φ.pu (kyL 98)) r=.tup [.agg (gotC (φ.pu (kyL 98)) [120,121] c0 c1 h),.int .i64 0]:=by rw [fin_eq hi hSf,hfd]
 have hc1l:c1.length=32:=by rw [e1]; exact outC_len _
 have hne:(!(strE c1 c0))=true:=by
  rw [← e0,← e1] at hs
  unfold strE
  simpa using hs
 exact ansO_run (noPS_ok _) (l6 φ S m r c0 c1 h) (allM hne (allM (strQ _) (allM (strQ _) (allM (strQ _) (allM (by rw [hc1l]; rfl) (allM (by rw [hrl]; rfl) (allM (fiB hφ.toOkZ hi rfl rfl rfl hfi) (allM (anB hφ.toOkZ hi rfl rfl rfl han) (allM (strO _) (allM (by rw [hml]; rfl) (allM (lkB hq2 rfl) (allM (mkB hr rfl rfl rfl) (allM (mkB hb rfl rfl rfl) rfl)))))))))))))
end
end Go.Proofs.YtcplgmgpagekfaaDoor
namespace Go.Proofs.YtcplgmgpagekfaaDoor
open Go Go.Eng Go.Num Go.Bla
theorem se_okW {k n a s:List UInt8}(hm:Cha.may k n=true) (ha:a.length≤65536) (hs:s.length≤65536):Ae.seF k n a s=(Ae.ct k n s++Ae.tagA k n a (Ae.ct k n s),0):=by
 unfold Ae.seF
 rw [hm,cond_true,if_neg (by omega)]
theorem op_openW {k n a c t:List UInt8}(hm:Cha.may k n=true) (ha:a.length≤65536) (hc:c.length≤65536) (ht:t.length=16):Ae.opF k n a (c++t)=if Ae.tagA k n a c=t then (Ae.ct k n c,0) else ([],100):=by
 unfold Ae.opF
 have hl:(c++t).length=c.length+16:=by rw [List.length_append,ht]
 rw [hm,cond_true,hl,if_neg (by omega),if_neg (by omega),Nat.add_sub_cancel,List.take_left,List.drop_left]
theorem ct_backW (k n s:List UInt8):Ae.ct k n (Ae.ct k n s)=s:=Cha.trn_back k n 1 s
theorem op_seW {k n a s:List UInt8}(hm:Cha.may k n=true) (ha:a.length≤65536) (hs:s.length≤65536):Ae.opF k n a (Ae.ct k n s++Ae.tagA k n a (Ae.ct k n s))=(s,0):=by
 rw [op_openW hm ha (by rw [Ae.ct_len]; exact hs) (Ae.tag_len hm),if_pos rfl,ct_backW]
theorem okR:OkR realZ where
 toOkY:=okZ
 hpl:=fun k h=>by
  show (puV ladE k).length=32
  unfold puV
  rw [isLenT h]
  exact ladE_len k nine32
 hso:=fun k a t hk ha ht=>by
  show (Ae.opF k (Ae.nonL 0) a (Ae.seF k (Ae.nonL 0) a t).1).1=t∧(Ae.opF k (Ae.nonL 0) a (Ae.seF k (Ae.nonL 0) a t).1).2=0∧((Ae.seF k (Ae.nonL 0) a t).1).length=t.length+16
  have hm:=may_k hk
  rw [se_okW hm (by omega) (by omega)]
  simp only
  rw [op_seW hm (by omega) (by omega)]
  exact ⟨rfl,rfl,by rw [List.length_append,Ae.ct_len,Ae.tag_len hm]⟩
end Go.Proofs.YtcplgmgpagekfaaDoor
namespace Go.Proofs.YtcplgmgpagekfaaDoor
open Go Go.Eng Go.Num Go.Bla
def vPF:L8:=[122,151,182,89,45,177,23,238,3,113,134,17,37,214,136,246,209,169,59,87,125,4,186,154,7,92,197,20,23,117,1,37]
def vC0:L8:=[187,234,2,43,148,140,243,188,88,87,215,8,4,34,145,121,225,17,107,196,12,184,204,7,72,53,52,156,70,75,202,54]
def vPA:L8:=[25,60,77,103,59,0,42,221,148,203,36,3,232,147,223,114,73,166,100,172,210,123,165,125,210,35,39,239,153,207,163,36]
def vPB:L8:=[79,27,96,151,118,98,90,116,181,78,149,199,95,183,95,149,127,246,209,76,9,226,24,247,86,158,8,170,51,97,144,8]
def vPE:L8:=[76,185,251,227,249,75,208,125,153,88,205,209,164,41,137,33,21,255,84,111,126,59,171,197,185,217,51,138,66,76,104,75]
def vX1:L8:=[8,73,234,88,45,34,114,81,41,199,116,4,222,241,35,90,51,231,78,155,198,119,81,61,21,66,249,137,225,18,84,62]
def vX2:L8:=[25,156,6,225,163,41,76,124,93,239,67,202,62,33,172,74,126,61,159,248,35,165,6,54,58,170,248,50,3,211,101,101]
def vX3:L8:=[118,218,153,197,230,28,188,154,18,189,12,213,27,226,213,116,191,31,23,87,46,82,51,222,85,127,170,38,174,56,39,69]
def vX4:L8:=[107,105,251,172,237,35,90,192,20,38,20,133,206,250,196,65,167,117,135,255,160,171,57,30,94,156,16,222,117,80,44,92]
def vK1:L8:=[45,173,220,235,183,206,125,69,122,170,130,7,105,165,60,190,18,162,171,19,2,94,130,161,83,84,134,111,237,7,93,70]
def vC1:L8:=[143,229,75,56,63,207,41,25,28,112,30,91,85,98,38,204,209,123,114,101,227,85,5,95,66,83,84,126,222,27,235,163]
def vC2:L8:=[96,157,8,103,203,24,214,52,86,232,125,157,98,84,75,222,218,190,144,87,222,217,149,27,50,41,60,254,253,58,84,102]
def vC3:L8:=[39,164,111,139,204,152,194,218,174,108,97,111,90,25,14,44,41,129,73,135,246,146,90,0,211,171,174,60,213,157,77,203]
def vC4:L8:=[214,64,249,90,109,63,175,24,230,226,181,15,133,56,221,218,28,155,124,104,215,52,90,73,15,172,116,114,2,56,216,49]
def vS0:L8:=[115,36,65,180,23,80,192,76,126,14,59,226,203,66,214,244,232,80,240,184,72,200,34,198,145,215,230,81,221,202,144,101]
def vS1:L8:=[142,128,23,199,31,174,107,85,45,177,79,154,75,69,42,68,100,200,32,228,81,210,84,199,110,122,11,152,100,215,201,254]
def vHP:L8:=[6,239,145,85,31,50,220,196,185,97,81,166,238,4,177,41,225,21,20,59,184,0,58,239,160,19,211,76,67,118,170,192]
def vHQ:L8:=[47,181,222,28,131,35,5,143,60,145,11,159,87,203,190,209,147,58,63,167,115,4,236,220,68,31,55,141,205,198,79,157]
def vB0:L8:=[41,150,18,155,193,10,71,61,20,138,219,12,154,204,93,182,30,161,14,91,101,162,119,174,176,239,106,83,128,91,44,206,161,207,180,154,149,66,202,23,115,86,236,156,99,36,175,213,11,176,249,142,247,119,83,70,75,62,255,155,45,135,22,191]
def vCt:L8:=[198,128,44,247,7,101,173,251,10,202,183,85,77,20,11,241,103,9,107,98,106,47,108,122,141,99,241,155,255,145,40,165]
def vTP:L8:=[251,186,41,28,123,172,90,28,47,29,130,65,13,150,4,55]
def vTQ:L8:=[129,124,187,192,246,74,171,44,255,154,220,22,142,255,45,230]
def vH1P:L8:=[149,66,126,232,213,196,184,50,129,67,232,213,223,222,111,168,230,1,16,61,223,191,26,120,203,210,59,59,151,57,231,4]
def vH1Q:L8:=[135,172,214,70,40,75,63,72,153,173,140,69,71,118,120,48,69,245,159,216,142,8,76,176,58,40,11,226,52,126,253,250]
def vH2P:L8:=[74,100,185,144,255,206,147,208,245,60,171,64,170,142,40,125,20,83,219,37,251,65,159,157,221,196,220,19,83,117,90,13]
def vH2Q:L8:=[15,144,203,178,67,157,144,41,202,178,143,179,56,111,12,154,31,143,118,211,155,224,120,255,204,209,158,74,222,55,144,62]
theorem lad_lit {k u L:L8}{n m:Nat}(hu:isLen u 32=true) (hn:leNat u=n) (hlt:n < Pq) (hm:quotM (ladM k n)=m) (hL:leNat L=m) (hl:L.length=32):ladE k u=L:=
 leNat_inj (by rw [ladE_len,hl]) ((ladE_is k hu hn hlt hm).trans hL.symm)
theorem qPA:quotM (ladM (kyL 97) 9)=16572691432107831290236438983220704641597839740724002177525024145463529258009:=by kernel_rfl
theorem lPA:ladE (kyL 97) nine32=vPA:=lad_lit rfl nine_val (by decide) qPA (by decide) rfl
theorem qPB:quotM (ladM (kyL 98) 9)=3873599628253772194686510826457445042224408612751331329672488392857300769615:=by kernel_rfl
theorem lPB:ladE (kyL 98) nine32=vPB:=lad_lit rfl nine_val (by decide) qPB (by decide) rfl
theorem qPE:quotM (ladM (kyL 101) 9)=34107742065115193518099035582793541296935167776723933399429897696738411264332:=by kernel_rfl
theorem lPE:ladE (kyL 101) nine32=vPE:=lad_lit rfl nine_val (by decide) qPE (by decide) rfl
theorem qX1:quotM (ladM (kyL 101) 3873599628253772194686510826457445042224408612751331329672488392857300769615)=28191942077556465510392378457765919935009007859398376681088946255094371469576:=by kernel_rfl
theorem lX1:ladE (kyL 101) vPB=vX1:=lad_lit rfl (by decide) (by decide) qX1 (by decide) rfl
theorem qX2:quotM (ladM (kyL 97) 3873599628253772194686510826457445042224408612751331329672488392857300769615)=45863505615179444264250632754092809270636439140959747961807530266934234225689:=by kernel_rfl
theorem lX2:ladE (kyL 97) vPB=vX2:=lad_lit rfl (by decide) (by decide) qX2 (by decide) rfl
theorem qX3:quotM (ladM (kyL 102) 34107742065115193518099035582793541296935167776723933399429897696738411264332)=31278884780669883789621468763246920430992810269124065668733665284318415149686:=by kernel_rfl
theorem lX3:ladE (kyL 102) vPE=vX3:=lad_lit rfl (by decide) (by decide) qX3 (by decide) rfl
theorem qX4:quotM (ladM (kyL 102) 16572691432107831290236438983220704641597839740724002177525024145463529258009)=41691078657918421984347907972951763659788406297479256988546525889969654557035:=by kernel_rfl
theorem lX4:ladE (kyL 102) vPA=vX4:=lad_lit rfl (by decide) (by decide) qX4 (by decide) rfl
theorem qPF:quotM (ladM (kyL 102) 9)=16738150371234417413423305427781018639772837693830886891171367152264450316154:=by kernel_rfl
theorem lPF:ladE (kyL 102) nine32=vPF:=lad_lit rfl nine_val (by decide) qPF (by decide) rfl
theorem qY1:quotM (ladM (kyL 98) 34107742065115193518099035582793541296935167776723933399429897696738411264332)=28191942077556465510392378457765919935009007859398376681088946255094371469576:=by kernel_rfl
theorem lY1:ladE (kyL 98) vPE=vX1:=lad_lit rfl (by decide) (by decide) qY1 (by decide) rfl
theorem qY2:quotM (ladM (kyL 98) 16572691432107831290236438983220704641597839740724002177525024145463529258009)=45863505615179444264250632754092809270636439140959747961807530266934234225689:=by kernel_rfl
theorem lY2:ladE (kyL 98) vPA=vX2:=lad_lit rfl (by decide) (by decide) qY2 (by decide) rfl
theorem qY3:quotM (ladM (kyL 101) 16738150371234417413423305427781018639772837693830886891171367152264450316154)=31278884780669883789621468763246920430992810269124065668733665284318415149686:=by kernel_rfl
theorem lY3:ladE (kyL 101) vPF=vX3:=lad_lit rfl (by decide) (by decide) qY3 (by decide) rfl
theorem qY4:quotM (ladM (kyL 97) 16738150371234417413423305427781018639772837693830886891171367152264450316154)=41691078657918421984347907972951763659788406297479256988546525889969654557035:=by kernel_rfl
theorem lY4:ladE (kyL 97) vPF=vX4:=lad_lit rfl (by decide) (by decide) qY4 (by decide) rfl
theorem puvA:realZ.pu (kyL 97)=vPA:=by rw [← lPA]; rfl
theorem puvB:realZ.pu (kyL 98)=vPB:=by rw [← lPB]; rfl
theorem puvE:realZ.pu (kyL 101)=vPE:=by rw [← lPE]; rfl
theorem sh_lit {k u L:L8}(hk:isLen k 32=true) (hu:isLen u 32=true) (h:ladE k u=L) (hz:(L == zero32)=false):realZ.sh k u=L:=by
 show shV ladE k u=L
 unfold shV
 rw [hk,hu,h,hz]
 rfl
theorem puvF:realZ.pu (kyL 102)=vPF:=by rw [← lPF]; rfl
theorem sr_lit {k u L:L8}(hk:isLen k 32=true) (hu:isLen u 32=true) (h:ladE k u=L) (hz:(L == zero32)=false):realZ.sr k u=0:=by
 show shR ladE k u=0
 unfold shR
 rw [hk,hu,h,hz]
 rfl
theorem dh_lit {a b pa pb x:L8}(ha:isLen a 32=true) (hb:isLen b 32=true) (hpa:realZ.pu a=pa) (hpb:realZ.pu b=pb) (la:isLen pa 32=true) (lb:isLen pb 32=true) (h1:ladE a pb=x) (h2:ladE b pa=x) (hz:(x == zero32)=false):DH realZ a b:=by
 unfold DH
 rw [hpa,hpb]
 exact ⟨sr_lit ha lb h1 hz,sr_lit hb la h2 hz,(sh_lit ha lb h1 hz).trans (sh_lit hb la h2 hz).symm⟩
theorem dEB:DH realZ (kyL 101) (kyL 98):=dh_lit rfl rfl puvE puvB rfl rfl lX1 lY1 (by decide)
theorem dAB:DH realZ (kyL 97) (kyL 98):=dh_lit rfl rfl puvA puvB rfl rfl lX2 lY2 (by decide)
theorem dFE:DH realZ (kyL 102) (kyL 101):=dh_lit rfl rfl puvF puvE rfl rfl lX3 lY3 (by decide)
theorem dFA:DH realZ (kyL 102) (kyL 97):=dh_lit rfl rfl puvF puvA rfl rfl lX4 lY4 (by decide)
theorem x1:realZ.sh (kyL 101) vPB=vX1:=sh_lit rfl rfl lX1 (by decide)
theorem x2:realZ.sh (kyL 97) vPB=vX2:=sh_lit rfl rfl lX2 (by decide)
theorem x3:realZ.sh (kyL 102) vPE=vX3:=sh_lit rfl rfl lX3 (by decide)
theorem x4:realZ.sh (kyL 102) vPA=vX4:=sh_lit rfl rfl lX4 (by decide)
theorem kC0:outC (wF nmL)=vC0:=by kernel_rfl
theorem kK1:kc1 wF vC0 vX1=vK1:=by kernel_rfl
theorem kC1:kc0 wF vC0 vX1=vC1:=by kernel_rfl
theorem kC2:kc0 wF vC1 vX2=vC2:=by kernel_rfl
theorem kC3:kc0 wF vC2 vX3=vC3:=by kernel_rfl
theorem kC4:kc0 wF vC3 vX4=vC4:=by kernel_rfl
theorem kS0:kc0 wF vC4 []=vS0:=by kernel_rfl
theorem kS1:kc1 wF vC4 []=vS1:=by kernel_rfl
theorem kH1P:outC (wF (vC0++[112]))=vH1P:=by kernel_rfl
theorem kH2P:outC (wF (vH1P++vPB))=vH2P:=by kernel_rfl
theorem kHP:outC (wF (vH2P++vPE))=vHP:=by kernel_rfl
theorem kH1Q:outC (wF (vC0++[113]))=vH1Q:=by kernel_rfl
theorem kH2Q:outC (wF (vH1Q++vPB))=vH2Q:=by kernel_rfl
theorem kHQ:outC (wF (vH2Q++vPE))=vHQ:=by kernel_rfl
theorem kB0:Ae.bvR vK1 (Ae.nonL 0) 0=vB0:=by kernel_rfl
theorem kCt:Ae.ct vK1 (Ae.nonL 0) vPA=vCt:=by kernel_rfl
theorem kTP:Pol.tvR (Ae.k0 vB0) (Bld.padT vHP vCt)=vTP:=by kernel_rfl
theorem kTQ:Pol.tvR (Ae.k0 vB0) (Bld.padT vHQ vCt)=vTQ:=by kernel_rfl
theorem tgP:Ae.tagA vK1 (Ae.nonL 0) vHP vCt=vTP:=by unfold Ae.tagA; rw [kB0,kTP]
theorem tgQ:Ae.tagA vK1 (Ae.nonL 0) vHQ vCt=vTQ:=by unfold Ae.tagA; rw [kB0,kTQ]
end Go.Proofs.YtcplgmgpagekfaaDoor
