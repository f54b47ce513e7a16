/- Texts Wf0, Wf1, Wf2, Wf3, Wf4, Wf5, Wf6, Wf7, Wf8, Wf9, Wg0, Wg1, Wg2: what they show that this claim uses. -/
import Derived.Test.YtcplgmgpagekfaaGreatDoorP7
import Derived.Test.YtcplgmgpagekfaaGreatDoorP11
import Derived.Test.YtcplgmgpagekfaaGreatDoorP13
import Derived.Test.YtcplgmgpagekfaaGreatDoorP9
set_option maxRecDepth 100000
set_option maxHeartbeats 1000000
set_option linter.unusedVariables false
set_option linter.unusedSimpArgs false
namespace Go.Proofs.YtcplgmgpagekfaaGreatDoor
open Go Go.Eng Go.Num Go.Bla
abbrev L8:=List UInt8
structure Fz where
 w:WF
 sh:L8→L8→L8
 sr:L8→L8→Int
 pu:L8→L8
 pr:L8→Int
 sv:L8→L8→L8→L8→L8
 se:L8→L8→L8→L8→Int
 ov:L8→L8→L8→L8→L8
 oe:L8→L8→L8→L8→Int
 no:L8
noncomputable def c42 (φ:Fz):List AVal→Option EffA
 | [.str a,.str b]=>some (.pure (.tup [.str (φ.sh a b),.int .i64 (φ.sr a b)]))
 | _=>none
noncomputable def c20 (φ:Fz):List AVal→Option EffA
 | [.str a]=>some (.pure (.tup [.str (φ.pu a),.int .i64 (φ.pr a)]))
 | _=>none
noncomputable def c44 (φ:Fz):List AVal→Option EffA
 | [.str k,.str n,.str a,.str s]=>some (.pure (.tup [.str (φ.sv k n a s),.int .i64 (φ.se k n a s)]))
 | _=>none
noncomputable def c45 (φ:Fz):List AVal→Option EffA
 | [.u64 0]=>some (.pure (.str φ.no))
 | _=>none
def slO (s:L8):Bool:=Nat.ble s.length 1000000000
noncomputable def q50 (φ:Fz):List AVal→Option (EffA × Bool)
 | [.str k,.str n,.str a,.str s]=>some (.pure (.tup [.str (φ.ov k n a s),.int .i64 (φ.oe k n a s)]),slO s)
 | _=>none
noncomputable def psN (φ:Fz):PS:=Bi (Al 40 (q40 φ.w)) (Bi (Al 43 (q43 φ.w)) (Al 50 (q50 φ)))
noncomputable def csC (φ:Fz):CS:=At (Ag 42 (c42 φ)) (At (Ag 20 (c20 φ)) (At (Ag 44 (c44 φ)) (Ag 45 (c45 φ))))
noncomputable def csN (φ:Fz):CS:=At (csP (psN φ)) (csC φ)
structure St where
 h:L8
 ck:L8
 k:L8
 f:Int
def exC (e:Nat) (x y z:L8):List AVal:=match e with
 | 0=>[]
 | 1=>[.str x,.str y]
 | _=>[.str x,.str y,.str z]
def stC (s:St):List AVal:=[.str s.h,.str s.ck,.str s.k,.int .i64 s.f]
def Cq (φ:Fz) (b:L8) (s:St):St:=⟨Bq (φ.w (s.h++b)),s.ck,s.k,s.f⟩
def eI (x y:Int):Bool:=x == y
section
variable (φ:Fz) (s:St) (x y z b:L8)
theorem r21:(e:Nat)→e < 3→Eb [1] (An Tryz.prog (psN φ) (csN φ) [10,11] [] [] (mask 21) 200 21 [.ptr 1 0,.str b] [(0,.cells true Bb),(1,.cells false (stC s++exC e x y z))] 2)=some (.tup [],[some (.cells false (stC (Cq φ b s)++exC e x y z))],[gd (s.h++b),cB s.h b])
 | 0,_=>by kernel_rfl
 | 1,_=>by kernel_rfl
 | 2,_=>by kernel_rfl
end
noncomputable def mxM (φ:Fz) (args:List AVal):EffA:=Iu Tryz.prog (csN φ) 0 (mask 21) 200 21 1 1 args
noncomputable def c21 (φ:Fz):List AVal→Option EffA
 | [.ptr n 0,.str b]=>some (mxM φ [.ptr n 0,.str b])
 | _=>none
noncomputable def HF (φ:Fz):CS:=At (csN φ) (Ag 21 (c21 φ))
def Fc (φ:Fz) (a b:L8) (s:St):St:=cond (eI s.f 0) (cond (eI (φ.sr a b) 0) ⟨s.h,kc0 φ.w s.ck (φ.sh a b),kc1 φ.w s.ck (φ.sh a b),φ.sr a b⟩ ⟨s.h,s.ck,s.k,φ.sr a b⟩) s
noncomputable def chO (φ:Fz) (e:Nat) (s:St) (f:Int) (x y z:L8) (t:L8) (base:Nat):Bool:=oB (mkT 0 Bb [.str (kc0 φ.w s.ck t),.str (kc1 φ.w s.ck t)] fun b=>.tup [.slice b 0 2 1,.int .i64 0]) base [(0,.cells true Bb),(1,.cells false (stC ⟨s.h,s.ck,s.k,f⟩++exC e x y z))] (.tup [.slice base 0 2 1,.int .i64 0]) [(0,.cells true Bb),(1,.cells false (stC ⟨s.h,s.ck,s.k,f⟩++exC e x y z)),(base,.cells false [.str (kc0 φ.w s.ck t),.str (kc1 φ.w s.ck t)])]
section
variable (φ:Fz) (s:St) (x y z a b:L8)
theorem amc:(e:Nat)→e < 3→Eb [1] (An Tryz.prog (psN φ) (csN φ) [14] [true] [] (mask 22) 200 22 [.ptr 1 0,.str a,.str b] [(0,.cells true Bb),(1,.cells false (stC s++exC e x y z))] 2)=some (.tup [],[some (.cells false (stC s++exC e x y z))],[!(eI s.f 0)])
 | 0,_=>by kernel_rfl
 | 1,_=>by kernel_rfl
 | 2,_=>by kernel_rfl
theorem alS:(e:Nat)→e < 3→Eb [1] (An Tryz.prog (psN φ) (csN φ) [14,26] [false,false] [] (mask 22) 200 22 [.ptr 1 0,.str a,.str b] [(0,.cells true Bb),(1,.cells false (stC s++exC e x y z))] 2)=some (.tup [],[some (.cells false (stC ⟨s.h,s.ck,s.k,φ.sr a b⟩++exC e x y z))],[!(eI (φ.sr a b) 0),!(!(eI s.f 0))])
 | 0,_=>by kernel_rfl
 | 1,_=>by kernel_rfl
 | 2,_=>by kernel_rfl
theorem alL:(e:Nat)→e < 3→Eb [1] (An Tryz.prog (psN φ) (csN φ) [14,26,33,300033] [false,true] [.tup [.slice 202 0 2 1,.int .i64 0],.tup [.ptr 202 0,.agg [.str (kc0 φ.w s.ck (φ.sh a b)),.str (kc1 φ.w s.ck (φ.sh a b))]]] (mask 22) 200 22 [.ptr 1 0,.str a,.str b] [(0,.cells true Bb),(1,.cells false (stC s++exC e x y z))] 2)=some (.tup [],[some (.cells false (stC ⟨s.h,kc0 φ.w s.ck (φ.sh a b),kc1 φ.w s.ck (φ.sh a b),φ.sr a b⟩++exC e x y z))],[chO φ e s (φ.sr a b) x y z (φ.sh a b) 202,Nat.beq s.ck.length 32 && gdS (φ.sh a b),eI (φ.sr a b) 0,!(!(eI s.f 0))])
 | 0,_=>by kernel_rfl
 | 1,_=>by kernel_rfl
 | 2,_=>by kernel_rfl
end
end Go.Proofs.YtcplgmgpagekfaaGreatDoor
namespace Go.Proofs.YtcplgmgpagekfaaGreatDoor
open Go Go.Eng Go.Num Go.Bla
def Oe (s:St) (f:Int):St:=⟨s.h,s.ck,s.k,f⟩
def seC (φ:Fz) (t:L8) (s:St):L8:=cond (eI s.f 0) (φ.sv s.k φ.no s.h t) []
def Ft (φ:Fz) (t:L8) (s:St):St:=cond (eI s.f 0) (Cq φ (φ.sv s.k φ.no s.h t) (Oe s (φ.se s.k φ.no s.h t))) s
def opC (φ:Fz) (c:L8) (s:St):L8:=cond (eI s.f 0) (φ.ov s.k φ.no s.h c) []
def DU (φ:Fz) (c:L8) (s:St):St:=cond (eI s.f 0) (Cq φ c (Oe s (φ.oe s.k φ.no s.h c))) s
def HS (s:St) (e:Nat) (x y z:L8):HL:=[(0,.cells true Bb),(1,.cells false (stC s++exC e x y z))]
noncomputable def mxO (φ:Fz) (s:St) (e:Nat) (x y z b:L8) (base:Nat):Bool:=oB (mxM φ [.ptr 1 0,.str b]) base (HS s e x y z) (.tup []) (HS (Cq φ b s) e x y z)
section
variable (φ:Fz) (s:St) (x y z t:L8)
theorem ak1:(e:Nat)→e < 3→Eb [1] (An Tryz.prog (psN φ) (HF φ) [11] [true] [] (mask 23) 200 23 [.ptr 1 0,.str t] (HS s e x y z) 2)=some (.str [],[some (.cells false (stC s++exC e x y z))],[!(eI s.f 0)])
 | 0,_=>by kernel_rfl
 | 1,_=>by kernel_rfl
 | 2,_=>by kernel_rfl
theorem al4:(e:Nat)→e < 3→Eb [1] (An Tryz.prog (psN φ) (HF φ) [11,300032] [false] [.tup [],.tup [.ptr 1 0,.agg (stC (Cq φ (φ.sv s.k φ.no s.h t) (Oe s (φ.se s.k φ.no s.h t)))++exC e x y z)]] (mask 23) 200 23 [.ptr 1 0,.str t] (HS s e x y z) 2)=some (.str (φ.sv s.k φ.no s.h t),[some (.cells false (stC (Cq φ (φ.sv s.k φ.no s.h t) (Oe s (φ.se s.k φ.no s.h t)))++exC e x y z))],[mxO φ (Oe s (φ.se s.k φ.no s.h t)) e x y z (φ.sv s.k φ.no s.h t) 234,!(!(eI s.f 0))])
 | 0,_=>by kernel_rfl
 | 1,_=>by kernel_rfl
 | 2,_=>by kernel_rfl
theorem ali:(e:Nat)→e < 3→Eb [1] (An Tryz.prog (psN φ) (HF φ) [11] [true] [] (mask 28) 200 28 [.ptr 1 0,.str t] (HS s e x y z) 2)=some (.str [],[some (.cells false (stC s++exC e x y z))],[!(eI s.f 0)])
 | 0,_=>by kernel_rfl
 | 1,_=>by kernel_rfl
 | 2,_=>by kernel_rfl
theorem alG:(e:Nat)→e < 3→Eb [1] (An Tryz.prog (psN φ) (HF φ) [11,23,300032] [false] [.tup [],.tup [.ptr 1 0,.agg (stC (Cq φ t (Oe s (φ.oe s.k φ.no s.h t)))++exC e x y z)]] (mask 28) 200 28 [.ptr 1 0,.str t] (HS s e x y z) 2)=some (.str (φ.ov s.k φ.no s.h t),[some (.cells false (stC (Cq φ t (Oe s (φ.oe s.k φ.no s.h t)))++exC e x y z))],[mxO φ (Oe s (φ.oe s.k φ.no s.h t)) e x y z t 234,slO t,!(!(eI s.f 0))])
 | 0,_=>by kernel_rfl
 | 1,_=>by kernel_rfl
 | 2,_=>by kernel_rfl
theorem r30:(e:Nat)→e < 3→Eb [1] (An Tryz.prog (psN φ) (HF φ) [11,300011] [] [.tup [.slice 50 0 2 1,.int .i64 0],.tup [.ptr 50 0,.agg [.str (kc0 φ.w s.ck []),.str (kc1 φ.w s.ck [])]]] (mask 30) 200 30 [.ptr 1 0] (HS s e x y z) 2)=some (.tup [.str (kc0 φ.w s.ck []),.str (kc1 φ.w s.ck [])],[some (.cells false (stC s++exC e x y z))],[chO φ e s s.f x y z [] 50,Nat.beq s.ck.length 32 && gdS []])
 | 0,_=>by kernel_rfl
 | 1,_=>by kernel_rfl
 | 2,_=>by kernel_rfl
end
noncomputable def adM (φ:Fz) (args:List AVal):EffA:=Iu Tryz.prog (csN φ) 0 (mask 22) 200 22 1 1 args
noncomputable def slM (φ:Fz) (args:List AVal):EffA:=Iu Tryz.prog (HF φ) 0 (mask 23) 200 23 1 1 args
noncomputable def opM (φ:Fz) (args:List AVal):EffA:=Iu Tryz.prog (HF φ) 0 (mask 28) 200 28 1 1 args
noncomputable def kyM (φ:Fz) (args:List AVal):EffA:=Iu Tryz.prog (HF φ) 0 (mask 30) 200 30 1 1 args
noncomputable def c22 (φ:Fz):List AVal→Option EffA
 | [.ptr n 0,.str a,.str b]=>some (adM φ [.ptr n 0,.str a,.str b])
 | _=>none
noncomputable def c23 (φ:Fz):List AVal→Option EffA
 | [.ptr n 0,.str b]=>some (slM φ [.ptr n 0,.str b])
 | _=>none
noncomputable def c28 (φ:Fz):List AVal→Option EffA
 | [.ptr n 0,.str b]=>some (opM φ [.ptr n 0,.str b])
 | _=>none
noncomputable def c30 (φ:Fz):List AVal→Option EffA
 | [.ptr n 0]=>some (kyM φ [.ptr n 0])
 | _=>none
noncomputable def ajW (φ:Fz):CS:=At (HF φ) (At (Ag 22 (c22 φ)) (At (Ag 23 (c23 φ)) (At (Ag 28 (c28 φ)) (Ag 30 (c30 φ)))))
theorem K5 (φ:Fz):Bt (psN φ) (csN φ):=A4
theorem Gr (φ:Fz):Bt (psN φ) (HF φ):=fun f args e h=>by
 unfold HF At
 rw [K5 φ f args e h]
theorem B5 (s:St) (x y z:L8):(e:Nat)→e < 3→ltL 0 (stC s++exC e x y z)=true
 | 0,_=>rfl
 | 1,_=>rfl
 | 2,_=>rfl
section
variable (φ:Fz) (s:St) (e:Nat) (he:e < 3) (x y z:L8){H:HL}{n base:Nat}(h0:Aa H 0=some (.cells true Bb)) (hn:Aa H n=some (.cells false (stC s++exC e x y z)))
include he h0 hn
theorem SH (b:L8) (hb:s.h.length+b.length≤12000) (hh:0 < s.h.length):(mxM φ [.ptr n 0,.str b]).app base H=some (.tup [],AX H n (.cells false (stC (Cq φ b s)++exC e x y z))):=by
 refine CV gl1 (Co (K5 φ) (r21 φ s x y z b e he) (Ab (Mw ?_ ?_) (Ab (Fo ?_) rfl))) h0 hn By rfl (B5 _ _ _ _ e he) (B5 _ _ _ _ e he) rfl
 all_goals (try rw [List.length_append]) <;> omega
theorem aa3 (a b:L8) (hk:s.ck.length=32) (hs:(φ.sh a b).length≤11900):(adM φ [.ptr n 0,.str a,.str b]).app base H=some (.tup [],AX H n (.cells false (stC (Fc φ a b s)++exC e x y z))):=by
 unfold Fc
 cases h1:eI s.f 0 with
 | false =>
  simp only [cond_false]
  exact CV gl1 (Co (K5 φ) (amc φ s x y z a b e he) (Ab (by rw [h1]; rfl) rfl)) h0 hn By rfl (B5 _ _ _ _ e he) (B5 _ _ _ _ e he) rfl
 | true =>
  simp only [cond_true]
  cases h2:eI (φ.sr a b) 0 with
  | false =>
   simp only [cond_false]
   exact CV gl1 (Co (K5 φ) (alS φ s x y z a b e he) (Ab (by rw [h2]; rfl) (Ab (by rw [h1]; rfl) rfl))) h0 hn By rfl (B5 _ _ _ _ e he) (B5 _ _ _ _ e he) rfl
  | true =>
   simp only [cond_true]
   refine CV gl1 (Co (K5 φ) (alL φ s x y z a b e he) (Ab (Bx ?_) (Ab ?_ (Ab h2 (Ab (by rw [h1]; rfl) rfl))))) h0 hn By rfl (B5 _ _ _ _ e he) (B5 _ _ _ _ e he) rfl
   ·exact Nw rfl
   ·rw [hk]; exact Nat.ble_eq_true_of_le hs
end
theorem Ym (φ:Fz) (e:Nat) (he:e < 3) (x y z:L8) (s:St) (b:L8) (base:Nat) (hb:s.h.length+b.length≤12000) (hh:0 < s.h.length):mxO φ s e x y z b base=true:=
 Bx (SH φ s e he x y z (H:=HS s e x y z) (n:=1) rfl rfl b hb hh)
section
variable (φ:Fz) (s:St) (e:Nat) (he:e < 3) (x y z:L8){H:HL}{n base:Nat}(h0:Aa H 0=some (.cells true Bb)) (hn:Aa H n=some (.cells false (stC s++exC e x y z)))
include he h0 hn
theorem WY (t:L8) (hs:s.h.length+(φ.sv s.k φ.no s.h t).length≤12000) (hh:0 < s.h.length):(slM φ [.ptr n 0,.str t]).app base H=some (.str (seC φ t s),AX H n (.cells false (stC (Ft φ t s)++exC e x y z))):=by
 unfold seC Ft
 cases h1:eI s.f 0 with
 | false =>
  simp only [cond_false]
  exact CV gl1 (Co (Gr φ) (ak1 φ s x y z t e he) (Ab (by rw [h1]; rfl) rfl)) h0 hn By rfl (B5 _ _ _ _ e he) (B5 _ _ _ _ e he) rfl
 | true =>
  simp only [cond_true]
  exact CV gl1 (Co (Gr φ) (al4 φ s x y z t e he) (Ab (Ym φ e he x y z _ _ _ hs hh) (Ab (by rw [h1]; rfl) rfl))) h0 hn By rfl (B5 _ _ _ _ e he) (B5 _ _ _ _ e he) rfl
theorem Za (t:L8) (hs:s.h.length+t.length≤12000) (hh:0 < s.h.length):(opM φ [.ptr n 0,.str t]).app base H=some (.str (opC φ t s),AX H n (.cells false (stC (DU φ t s)++exC e x y z))):=by
 unfold opC DU
 cases h1:eI s.f 0 with
 | false =>
  simp only [cond_false]
  exact CV gl1 (Co (Gr φ) (ali φ s x y z t e he) (Ab (by rw [h1]; rfl) rfl)) h0 hn By rfl (B5 _ _ _ _ e he) (B5 _ _ _ _ e he) rfl
 | true =>
  simp only [cond_true]
  exact CV gl1 (Co (Gr φ) (alG φ s x y z t e he) (Ab (Ym φ e he x y z _ _ _ hs hh) (Ab (Nat.ble_eq_true_of_le (by omega)) (Ab (by rw [h1]; rfl) rfl)))) h0 hn By rfl (B5 _ _ _ _ e he) (B5 _ _ _ _ e he) rfl
theorem Xl (hk:s.ck.length=32):(kyM φ [.ptr n 0]).app base H=some (.tup [.str (kc0 φ.w s.ck []),.str (kc1 φ.w s.ck [])],AX H n (.cells false (stC s++exC e x y z))):=by
 refine CV gl1 (Co (Gr φ) (r30 φ s x y z e he) (Ab (Bx (Nw rfl)) (Ab (by rw [hk]; rfl) rfl))) h0 hn By rfl (B5 _ _ _ _ e he) (B5 _ _ _ _ e he) ?_
 rfl
end
end Go.Proofs.YtcplgmgpagekfaaGreatDoor
namespace Go.Proofs.YtcplgmgpagekfaaGreatDoor
open Go Go.Eng Go.Num Go.Bla
def nmL:L8:=[78,111,105,115,101,95,73,75,95,50,53,53,49,57,95,67,104,97,67,104,97,80,111,108,121,95,66,76,65,75,69,50,115]
def st0 (φ:Fz):St:=⟨Bq (φ.w nmL),Bq (φ.w nmL),[],0⟩
def bgS (φ:Fz) (p o:L8):St:=Cq φ o (Cq φ p (st0 φ))
noncomputable def mB (φ:Fz) (n:Nat) (s:St) (e:Nat) (x y z b:L8) (base:Nat) (hs:HL):Bool:=oB (mxM φ [.ptr n 0,.str b]) base ((0,.cells true Bb)::hs++[(n,.cells false (stC s++exC e x y z))]) (.tup []) ((0,.cells true Bb)::hs++[(n,.cells false (stC (Cq φ b s)++exC e x y z))])
noncomputable def aB (φ:Fz) (n:Nat) (s:St) (e:Nat) (x y z a b:L8) (base:Nat) (hs:HL):Bool:=oB (adM φ [.ptr n 0,.str a,.str b]) base ((0,.cells true Bb)::hs++[(n,.cells false (stC s++exC e x y z))]) (.tup []) ((0,.cells true Bb)::hs++[(n,.cells false (stC (Fc φ a b s)++exC e x y z))])
noncomputable def sB (φ:Fz) (n:Nat) (s:St) (e:Nat) (x y z t:L8) (base:Nat) (hs:HL):Bool:=oB (slM φ [.ptr n 0,.str t]) base ((0,.cells true Bb)::hs++[(n,.cells false (stC s++exC e x y z))]) (.str (seC φ t s)) ((0,.cells true Bb)::hs++[(n,.cells false (stC (Ft φ t s)++exC e x y z))])
noncomputable def pB (φ:Fz) (n:Nat) (s:St) (e:Nat) (x y z t:L8) (base:Nat) (hs:HL):Bool:=oB (opM φ [.ptr n 0,.str t]) base ((0,.cells true Bb)::hs++[(n,.cells false (stC s++exC e x y z))]) (.str (opC φ t s)) ((0,.cells true Bb)::hs++[(n,.cells false (stC (DU φ t s)++exC e x y z))])
def bk (n:Nat) (s:St) (e:Nat) (x y z:L8):AVal:=.tup [.ptr n 0,.agg (stC s++exC e x y z)]
theorem SC (φ:Fz) (p o:L8):AL (An Tryz.prog (psN φ) (HF φ) [7,300012,300014] [] [.tup [],bk 49 (Cq φ p (st0 φ)) 0 [] [] [],.tup [],bk 49 (bgS φ p o) 0 [] [] []] (mask 19) 200 19 [.str p,.str o] H0 1)=some (.agg (stC (bgS φ p o)),[mB φ 49 (Cq φ p (st0 φ)) 0 [] [] [] o 89 [(1,.cells false [.str [],.str [],.str [],.int .i64 0])],mB φ 49 (st0 φ) 0 [] [] [] p 73 [(1,.cells false [.str [],.str [],.str [],.int .i64 0])],gd nmL]):=by kernel_rfl
def g19 (p o:L8):Bool:=Nat.ble p.length 4096 && Nat.ble o.length 4096
noncomputable def q19 (φ:Fz):List AVal→Option (EffA × Bool)
 | [.str p,.str o]=>some (tL (some (.agg (stC (bgS φ p o)))),g19 p o)
 | _=>none
noncomputable def ps4 (φ:Fz):PS:=Bi (Al 19 (q19 φ)) (psN φ)
noncomputable def FT (φ:Fz):CS:=At (csP (ps4 φ)) (ajW φ)
def neB (s:L8) (n:Int):Bool:=!(eI (s.length:Int) n)
def gtB (s:L8) (n:Int):Bool:=decide (n < (s.length:Int))
def b1 (φ:Fz) (a o e p t:L8):St:=Cq φ (φ.pu e) (bgS φ p o)
def b2 (φ:Fz) (a o e p t:L8):St:=Fc φ e o (b1 φ a o e p t)
def b3 (φ:Fz) (a o e p t:L8):St:=Ft φ (φ.pu a) (b2 φ a o e p t)
def b4 (φ:Fz) (a o e p t:L8):St:=Fc φ a o (b3 φ a o e p t)
def b5 (φ:Fz) (a o e p t:L8):St:=Ft φ t (b4 φ a o e p t)
def m1 (φ:Fz) (a o e p t:L8):L8:=φ.pu e++seC φ (φ.pu a) (b2 φ a o e p t)
def m2 (φ:Fz) (a o e p t:L8):L8:=m1 φ a o e p t++seC φ t (b4 φ a o e p t)
def sy8:List Nat:=[21,25,30,35,39,43,300063,300069,300075,76,300082,300088,89,95]
section
variable (φ:Fz) (a o e p t:L8)
noncomputable def Oj (os:List Bool):Option (AVal × List (Option AObj) × List Bool):=Eb [265] (An Tryz.prog (ps4 φ) (FT φ) sy8 os [.tup [],bk 265 (b1 φ a o e p t) 2 a e o,.tup [],bk 265 (b2 φ a o e p t) 2 a e o,.str (seC φ (φ.pu a) (b2 φ a o e p t)),bk 265 (b3 φ a o e p t) 2 a e o,.tup [],bk 265 (b4 φ a o e p t) 2 a e o,.str (seC φ t (b4 φ a o e p t)),bk 265 (b5 φ a o e p t) 2 a e o] (mask 8) 200 8 [.str a,.str o,.str e,.str p,.str t] H0 1)
noncomputable def ob8:List Bool:=[cB (m1 φ a o e p t) (seC φ t (b4 φ a o e p t)),sB φ 265 (b4 φ a o e p t) 2 a e o t 633 [],aB φ 265 (b3 φ a o e p t) 2 a e o a o 585 [],cB (φ.pu e) (seC φ (φ.pu a) (b2 φ a o e p t)),sB φ 265 (b2 φ a o e p t) 2 a e o (φ.pu a) 521 [],aB φ 265 (b1 φ a o e p t) 2 a e o e o 473 [],mB φ 265 (bgS φ p o) 2 a e o (φ.pu e) 425 [],g19 p o,!(gtB t 4096),!(gtB p 4096),!(neB e 32),!(neB o 32),!(neB a 32)]
theorem aj2:Oj φ a o e p t [true]=some (.tup [.nilPtr,.str [],.int .i64 2],[none],[neB a 32]):=by kernel_rfl
theorem ajm:Oj φ a o e p t [false,true]=some (.tup [.nilPtr,.str [],.int .i64 2],[none],[neB o 32,!(neB a 32)]):=by kernel_rfl
theorem akE:Oj φ a o e p t [false,false,true]=some (.tup [.nilPtr,.str [],.int .i64 2],[none],[neB e 32,!(neB o 32),!(neB a 32)]):=by kernel_rfl
theorem aj9:Oj φ a o e p t [false,false,false,true]=some (.tup [.nilPtr,.str [],.int .i64 4],[none],[gtB p 4096,!(neB e 32),!(neB o 32),!(neB a 32)]):=by kernel_rfl
theorem akF:Oj φ a o e p t [false,false,false,false,true]=some (.tup [.nilPtr,.str [],.int .i64 4],[none],[gtB t 4096,!(gtB p 4096),!(neB e 32),!(neB o 32),!(neB a 32)]):=by kernel_rfl
theorem aii:Oj φ a o e p t [false,false,false,false,false,true]=some (.tup [.nilPtr,.str [],.int .i64 (b5 φ a o e p t).f],[some (.cells false (stC (b5 φ a o e p t)++exC 2 a e o))],(!(eI (b5 φ a o e p t).f 0))::ob8 φ a o e p t):=by kernel_rfl
theorem ahX:Oj φ a o e p t [false,false,false,false,false,false]=some (.tup [.ptr 265 0,.str (m2 φ a o e p t),.int .i64 0],[some (.cells false (stC (b5 φ a o e p t)++exC 2 a e o))],(!(!(eI (b5 φ a o e p t).f 0)))::ob8 φ a o e p t):=by kernel_rfl
end
end Go.Proofs.YtcplgmgpagekfaaGreatDoor
namespace Go.Proofs.YtcplgmgpagekfaaGreatDoor
open Go Go.Eng Go.Num Go.Bla
structure OkZ (φ:Fz):Prop where
 hpu:∀ a,(φ.pu a).length≤32
 hsh:∀ a b,(φ.sh a b).length≤32
 hsv:∀ k n a t,(φ.sv k n a t).length≤t.length+16
def Inv (s:St):Prop:=s.h.length=32∧s.ck.length=32
theorem Ik (φ:Fz):Inv (st0 φ):=⟨Cx _,Cx _⟩
theorem Bm {φ:Fz}{s:St}(b:L8) (h:Inv s):Inv (Cq φ b s):=⟨Cx _,h.2⟩
theorem CB {φ:Fz}{s:St}(a b:L8) (h:Inv s):Inv (Fc φ a b s):=by
 unfold Fc
 cases eI s.f 0
 ·exact h
 ·cases eI (φ.sr a b) 0
  ·exact h
  ·exact ⟨h.1,Cx _⟩
theorem Pb {φ:Fz}{s:St}(t:L8) (h:Inv s):Inv (Ft φ t s):=by
 unfold Ft
 cases eI s.f 0
 ·exact h
 ·exact Bm _ h
theorem Oy {φ:Fz}{s:St}(t:L8) (h:Inv s):Inv (DU φ t s):=by
 unfold DU
 cases eI s.f 0
 ·exact h
 ·exact Bm _ h
theorem Gf (φ:Fz) (p o:L8):Inv (bgS φ p o):=Bm _ (Bm _ (Ik φ))
section
variable {φ:Fz}(hφ:OkZ φ){n:Nat}{s:St}(hi:Inv s){e:Nat}(he:e < 3){x y z:L8}{base:Nat}{hs:HL}(h0:Aa ((0,.cells true Bb)::hs++[(n,.cells false (stC s++exC e x y z))]) 0=some (.cells true Bb)) (hn:Aa ((0,.cells true Bb)::hs++[(n,.cells false (stC s++exC e x y z))]) n=some (.cells false (stC s++exC e x y z)))
 (hc:∀ c,AX ((0,.cells true Bb)::hs++[(n,.cells false (stC s++exC e x y z))]) n (.cells false c)=(0,.cells true Bb)::hs++[(n,.cells false c)])
include hi he h0 hn hc
theorem Mh (b:L8) (hb:b.length≤11000):mB φ n s e x y z b base hs=true:=by
 refine Bx ?_
 rw [SH φ s e he x y z h0 hn b (by rw [hi.1]; omega) (by rw [hi.1]; omega),hc]
include hφ in
theorem Ju (a b:L8):aB φ n s e x y z a b base hs=true:=by
 refine Bx ?_
 rw [aa3 φ s e he x y z h0 hn a b hi.2 (by have:=hφ.hsh a b; omega),hc]
include hφ in
theorem XV (t:L8) (ht:t.length≤11000):sB φ n s e x y z t base hs=true:=by
 refine Bx ?_
 rw [WY φ s e he x y z h0 hn t (by rw [hi.1]; have:=hφ.hsv s.k φ.no s.h t; omega) (by rw [hi.1]; omega),hc]
theorem V9 (t:L8) (ht:t.length≤11000):pB φ n s e x y z t base hs=true:=by
 refine Bx ?_
 rw [Za φ s e he x y z h0 hn t (by rw [hi.1]; omega) (by rw [hi.1]; omega),hc]
end
theorem NP {φ:Fz}(hφ:OkZ φ) (t:L8) (s:St):(seC φ t s).length≤t.length+16:=by
 unfold seC
 cases eI s.f 0
 ·simp
 ·exact hφ.hsv _ _ _ _
theorem Cc {P:Program}{ps:PS}{cs:CS}(hps:Bt ps cs){sy:List Nat}{os:List Bool}{vs:List AVal}{nn F:Nat}{f:FuncId}{args:List AVal}{H:HL}{fr:Nat}{ns:List Nat}{v:AVal}{L:List (Option AObj)}{ob:List Bool}(h:Eb ns (An P ps cs sy os vs nn F f args H fr)=some (v,L,ob)) (ha:Am ob=true):∃ F nn H' fr',Au P cs nn F f args H fr=some (v,H',fr'):=by
 have:=Co hps h ha
 unfold Ea at this
 split at this
 ·rename_i v' H' fr' hx
  simp only [Option.some.injEq,Prod.mk.injEq] at this
  obtain ⟨rfl,_⟩:=this
  exact ⟨_,_,_,_,hx⟩
 ·cases this
theorem ahk {φ:Fz}(hcs:Ai Tryz.prog (HF φ)):Ai Tryz.prog (csP (Al 19 (q19 φ))):=Bc fun args e he=>by
 unfold q19 at he
 split at he
 ·rename_i p o
  simp only [Option.some.injEq,Prod.mk.injEq] at he
  obtain ⟨rfl,hg⟩:=he
  unfold g19 at hg
  rw [Bool.and_eq_true] at hg
  have h1:=Nat.le_of_ble_eq_true hg.1
  have h2:=Nat.le_of_ble_eq_true hg.2
  refine DE hcs rfl fun x hx => ?_
  cases hx
  exact ⟨rfl,200,mask 19,BD (Aj (Gr φ) (SC φ p o) (Ab (Mh (Bm _ (Ik φ)) (by decide) rfl rfl (fun _=>rfl) _ (by omega)) (Ab (Mh (Ik φ) (by decide) rfl rfl (fun _=>rfl) _ (by omega)) (Ab rfl rfl))))⟩
 ·cases he
noncomputable def lkE (v:AVal):EffA:=tL (some v)
noncomputable def bgE (φ:Fz) (a o e p t:L8):EffA:=cond (neB a 32 || (neB o 32 || neB e 32)) (lkE (.tup [.nilPtr,.str [],.int .i64 2])) (cond (gtB p 4096 || gtB t 4096) (lkE (.tup [.nilPtr,.str [],.int .i64 4])) (cond (eI (b5 φ a o e p t).f 0) (mkT 0 Bb (stC (b5 φ a o e p t)++exC 2 a e o) fun b=>.tup [.ptr b 0,.str (m2 φ a o e p t),.int .i64 0]) (lkE (.tup [.nilPtr,.str [],.int .i64 (b5 φ a o e p t).f]))))
noncomputable def c8 (φ:Fz):List AVal→Option EffA
 | [.str a,.str o,.str e,.str p,.str t]=>some (bgE φ a o e p t)
 | _=>none
theorem Et {cs:CS}(hcs:Ai Tryz.prog cs){f:FuncId}{args:List AVal}(hcan:GV Tryz.prog.globals.size [] args=some (args,[])){v:AVal}(hv:ltV 0 v=true) (h:∃ F nn H' fr',Au Tryz.prog cs nn F f args H0 1=some (v,H',fr')):AG Tryz.prog f args (lkE v):=
 DE hcs hcan fun x hx=>by cases hx; exact ⟨hv,h⟩
theorem VZ {a:L8}(h:neB a 32=false):a.length=32:=by
 unfold neB eI at h
 simp at h
 omega
theorem Ec {a:L8}(h:gtB a 4096=false):a.length≤4096:=by
 unfold gtB at h
 simp at h
 omega
theorem ac4 {φ:Fz}(hφ:OkZ φ){a o e p t:L8}(ha:neB a 32=false) (ho:neB o 32=false) (he:neB e 32=false) (hp:gtB p 4096=false) (ht:gtB t 4096=false):Am (ob8 φ a o e p t)=true:=by
 have l1:=VZ ho
 have l2:=Ec hp
 have l3:=Ec ht
 have i0:=Gf φ p o
 have i1:Inv (b1 φ a o e p t):=Bm _ i0
 have i2:Inv (b2 φ a o e p t):=CB _ _ i1
 have i3:Inv (b3 φ a o e p t):=Pb _ i2
 have i4:Inv (b4 φ a o e p t):=CB _ _ i3
 have p1:=hφ.hpu e
 have p2:=hφ.hpu a
 have s1:=NP hφ (φ.pu a) (b2 φ a o e p t)
 have s2:=NP hφ t (b4 φ a o e p t)
 unfold ob8
 refine Ab (Fo ?_) (Ab (XV hφ i4 (by decide) rfl rfl (fun _=>rfl) _ (by omega)) (Ab (Ju hφ i3 (by decide) rfl rfl (fun _=>rfl) _ _) (Ab (Fo ?_) (Ab (XV hφ i2 (by decide) rfl rfl (fun _=>rfl) _ (by omega)) (Ab (Ju hφ i1 (by decide) rfl rfl (fun _=>rfl) _ _) (Ab (Mh i0 (by decide) rfl rfl (fun _=>rfl) _ (by omega)) (Ab ?_ (Ab (by rw [ht]; rfl) (Ab (by rw [hp]; rfl) (Ab (by rw [he]; rfl) (Ab (by rw [ho]; rfl) (Ab (by rw [ha]; rfl) rfl))))))))))))
 ·unfold m1; rw [List.length_append]; omega
 ·omega
 ·unfold g19
  rw [Bool.and_eq_true]
  exact ⟨Nat.ble_eq_true_of_le l2,Nat.ble_eq_true_of_le (by omega)⟩
theorem Mv {φ:Fz}(hφ:OkZ φ) (hcs:Ai Tryz.prog (FT φ)):Ai Tryz.prog (Ag 8 (c8 φ)):=Ak fun args ef hef=>by
 have hps:Bt (ps4 φ) (FT φ):=A4
 unfold c8 at hef
 split at hef
 ·rename_i a o e p t
  cases hef
  unfold bgE
  cases ha:neB a 32 with
  | true=>exact Et hcs rfl rfl (Cc hps (aj2 φ a o e p t) (Ab ha rfl))
  | false =>
  cases ho:neB o 32 with
  | true=>exact Et hcs rfl rfl (Cc hps (ajm φ a o e p t) (Ab ho (Ab (by rw [ha]; rfl) rfl)))
  | false =>
  cases he:neB e 32 with
  | true=>exact Et hcs rfl rfl (Cc hps (akE φ a o e p t) (Ab he (Ab (by rw [ho]; rfl) (Ab (by rw [ha]; rfl) rfl))))
  | false =>
  cases hp:gtB p 4096 with
  | true=>exact Et hcs rfl rfl (Cc hps (aj9 φ a o e p t) (Ab hp (Ab (by rw [he]; rfl) (Ab (by rw [ho]; rfl) (Ab (by rw [ha]; rfl) rfl)))))
  | false =>
  cases ht:gtB t 4096 with
  | true=>exact Et hcs rfl rfl (Cc hps (akF φ a o e p t) (Ab ht (Ab (by rw [hp]; rfl) (Ab (by rw [he]; rfl) (Ab (by rw [ho]; rfl) (Ab (by rw [ha]; rfl) rfl))))))
  | false =>
  have hob:=ac4 hφ ha ho he hp ht
  cases hf:eI (b5 φ a o e p t).f 0 with
  | false=>exact Et hcs rfl rfl (Cc hps (aii φ a o e p t) (Ab (by rw [hf]; rfl) hob))
  | true=>exact G8 hcs AB gl1 (by decide) By rfl (B5 _ _ _ _ 2 (by decide)) (fun ρ a b h=>.tupL (RL.cons (.ptr h) (RL.same rfl))) (Co hps (ahX φ a o e p t) (Ab (by rw [hf]; rfl) hob)) (by decide)
 ·cases hef
end Go.Proofs.YtcplgmgpagekfaaGreatDoor
namespace Go.Proofs.YtcplgmgpagekfaaGreatDoor
open Go Go.Eng Go.Num Go.Bla
def sl (s:L8) (a b:Int):L8:=(s.take b.toNat).drop a.toNat
def inS (s:L8) (a b:Int):Bool:=decide (0≤a) && (decide (a≤b) && decide (b≤(s.length:Int)))
def AC (a b c d e:L8):List AVal:=[.str a,.str b,.str c,.str d,.str e]
def AE:List AVal:=AC [] [] [] [] []
section
variable (φ:Fz) (sec p m:L8)
def e1:L8:=sl m 0 32
def d1:L8:=sl m 32 80
def d2:L8:=sl m 80 (m.length:Int)
def g0:St:=bgS φ p (φ.pu sec)
def g1:St:=Cq φ (e1 m) (g0 φ sec p)
def g2:St:=Fc φ sec (e1 m) (g1 φ sec p m)
def sta:L8:=opC φ (d1 m) (g2 φ sec p m)
def g3:St:=DU φ (d1 m) (g2 φ sec p m)
def g4:St:=Fc φ sec (sta φ sec p m) (g3 φ sec p m)
def pay:L8:=opC φ (d2 m) (g4 φ sec p m)
def g5:St:=DU φ (d2 m) (g4 φ sec p m)
def ltB2 (s:L8) (n:Int):Bool:=decide ((s.length:Int) < n)
def hG0:HL:=[(9,.cells false AE)]
noncomputable def Fd (os:List Bool):Option (AVal × List (Option AObj) × List Bool):=Eb [265] (An Tryz.prog (ps4 φ) (FT φ) [16,21,25,31,40,42,300052,300061,67,300068,300079,84,300085,91] os [.tup [],bk 265 (g1 φ sec p m) 1 [] (e1 m) [],.tup [],bk 265 (g2 φ sec p m) 1 [] (e1 m) [],.str (sta φ sec p m),bk 265 (g3 φ sec p m) 1 [] (e1 m) [],.tup [],bk 265 (g4 φ sec p m) 1 (sta φ sec p m) (e1 m) [],.str (pay φ sec p m),bk 265 (g5 φ sec p m) 1 (sta φ sec p m) (e1 m) []] (mask 11) 200 11 [.str sec,.str p,.str m] H0 1)
noncomputable def abO:List Bool:=[pB φ 265 (g4 φ sec p m) 1 (sta φ sec p m) (e1 m) [] (d2 m) 609 hG0,inS m 80 (m.length:Int),aB φ 265 (g3 φ sec p m) 1 (sta φ sec p m) (e1 m) [] sec (sta φ sec p m) 561 hG0,pB φ 265 (g2 φ sec p m) 1 [] (e1 m) [] (d1 m) 465 hG0,inS m 32 80,aB φ 265 (g1 φ sec p m) 1 [] (e1 m) [] sec (e1 m) 409 hG0,mB φ 265 (g0 φ sec p) 1 [] (e1 m) [] (e1 m) 337 hG0,inS m 0 32,g19 p (φ.pu sec),!(ltB2 m 96),!(gtB m 4192),!(gtB p 4096),!(neB sec 32)]
theorem aeo:Fd φ sec p m [true]=some (.tup [.nilPtr,.agg AE,.int .i64 2],[none],[neB sec 32]):=by kernel_rfl
theorem adB:Fd φ sec p m [false,true]=some (.tup [.nilPtr,.agg AE,.int .i64 4],[none],[gtB p 4096,!(neB sec 32)]):=by kernel_rfl
theorem agS:Fd φ sec p m [false,false,true]=some (.tup [.nilPtr,.agg AE,.int .i64 4],[none],[gtB m 4192,!(gtB p 4096),!(neB sec 32)]):=by kernel_rfl
theorem afE:Fd φ sec p m [false,false,false,true]=some (.tup [.nilPtr,.agg AE,.int .i64 7],[none],[ltB2 m 96,!(gtB m 4192),!(gtB p 4096),!(neB sec 32)]):=by kernel_rfl
theorem aff:Fd φ sec p m [false,false,false,false,true]=some (.tup [.nilPtr,.agg AE,.int .i64 (g5 φ sec p m).f],[some (.cells false (stC (g5 φ sec p m)++exC 1 (sta φ sec p m) (e1 m) []))],(!(eI (g5 φ sec p m).f 0))::abO φ sec p m):=by kernel_rfl
theorem afK:Fd φ sec p m [false,false,false,false,false]=some (.tup [.ptr 265 0,.agg (AC (sta φ sec p m) (pay φ sec p m) [] [] []),.int .i64 0],[some (.cells false (stC (g5 φ sec p m)++exC 1 (sta φ sec p m) (e1 m) []))],(!(!(eI (g5 φ sec p m).f 0)))::abO φ sec p m):=by kernel_rfl
end
end Go.Proofs.YtcplgmgpagekfaaGreatDoor
namespace Go.Proofs.YtcplgmgpagekfaaGreatDoor
open Go Go.Eng Go.Num Go.Bla
def noB (s:L8):Bool:=s == []
noncomputable def kB (φ:Fz) (n:Nat) (s:St) (e:Nat) (x y z:L8) (base:Nat) (hs:HL):Bool:=oB (kyM φ [.ptr n 0]) base ((0,.cells true Bb)::hs++[(n,.cells false (stC s++exC e x y z))]) (.tup [.str (kc0 φ.w s.ck []),.str (kc1 φ.w s.ck [])]) ((0,.cells true Bb)::hs++[(n,.cells false (stC s++exC e x y z))])
section
variable (φ:Fz) (s:St) (sa ep e t:L8)
def u1:St:=Cq φ (φ.pu e) s
def u2:St:=Fc φ e ep (u1 φ s e)
def u3:St:=Fc φ e sa (u2 φ s ep e)
def u4:St:=Ft φ t (u3 φ s sa ep e)
def uc:L8:=seC φ t (u3 φ s sa ep e)
def um:L8:=φ.pu e++uc φ s sa ep e t
def uh:HL:=[(1,.cells false (stC s++exC 1 sa ep [])),(10,.cells false AE)]
noncomputable def JD (os:List Bool):Option (AVal × List (Option AObj) × List Bool):=Eb [1] (An Tryz.prog (ps4 φ) (FT φ) [23,29,34,300046,300052,300058,300061,62,65,300070] os [.tup [],bk 210 (u1 φ s e) 0 [] [] [],.tup [],bk 210 (u2 φ s ep e) 0 [] [] [],.tup [],bk 210 (u3 φ s sa ep e) 0 [] [] [],.str (uc φ s sa ep e t),bk 210 (u4 φ s sa ep e t) 0 [] [] [],.tup [.str (kc0 φ.w (u4 φ s sa ep e t).ck []),.str (kc1 φ.w (u4 φ s sa ep e t).ck [])],bk 210 (u4 φ s sa ep e t) 0 [] [] []] (mask 13) 200 13 [.ptr 1 0,.str e,.str t] [(0,.cells true Bb),(1,.cells false (stC s++exC 1 sa ep []))] 2)
noncomputable def Z0:List Bool:=[cB (φ.pu e) (uc φ s sa ep e t),sB φ 210 (u3 φ s sa ep e) 0 [] [] [] t 410 (uh s sa ep),aB φ 210 (u2 φ s ep e) 0 [] [] [] e sa 386 (uh s sa ep),aB φ 210 (u1 φ s e) 0 [] [] [] e ep 338 (uh s sa ep),mB φ 210 s 0 [] [] [] (φ.pu e) 290 (uh s sa ep),!(gtB t 4096),!(neB e 32),!(noB s.h)]
def uo:List (Option AObj):=[some (.cells false (stC s++exC 1 sa ep []))]
theorem ae3:JD φ s sa ep e t [true]=some (.tup [.str [],.agg AE,.int .i64 1],uo s sa ep,[noB s.h]):=by kernel_rfl
theorem agR:JD φ s sa ep e t [false,true]=some (.tup [.str [],.agg AE,.int .i64 2],uo s sa ep,[neB e 32,!(noB s.h)]):=by kernel_rfl
theorem afY:JD φ s sa ep e t [false,false,true]=some (.tup [.str [],.agg AE,.int .i64 4],uo s sa ep,[gtB t 4096,!(neB e 32),!(noB s.h)]):=by kernel_rfl
theorem adW:JD φ s sa ep e t [false,false,false,true]=some (.tup [.str [],.agg AE,.int .i64 (u4 φ s sa ep e t).f],uo s sa ep,(!(eI (u4 φ s sa ep e t).f 0))::Z0 φ s sa ep e t):=by kernel_rfl
theorem aeF:JD φ s sa ep e t [false,false,false,false]=some (.tup [.str (um φ s sa ep e t),.agg (AC sa [] (kc1 φ.w (u4 φ s sa ep e t).ck []) (kc0 φ.w (u4 φ s sa ep e t).ck []) (u4 φ s sa ep e t).h),.int .i64 0],uo s sa ep,kB φ 210 (u4 φ s sa ep e t) 0 [] [] [] 458 (uh s sa ep)::(!(!(eI (u4 φ s sa ep e t).f 0)))::Z0 φ s sa ep e t):=by kernel_rfl
theorem adX:(Au Tryz.prog (FT φ) (mask 13) 200 13 [.nilPtr,.str e,.str t] [] 1).map (·.1)=some (.tup [.str [],.agg AE,.int .i64 1]):=by kernel_rfl
end
section
variable (φ:Fz) (s:St) (se ep ot m:L8)
def v1:St:=Cq φ (sl m 0 32) s
def v2:St:=Fc φ ep (sl m 0 32) (v1 φ s m)
def v3:St:=Fc φ se (sl m 0 32) (v2 φ s ep m)
def vc:L8:=opC φ (sl m 32 (m.length:Int)) (v3 φ s se ep m)
def v4:St:=DU φ (sl m 32 (m.length:Int)) (v3 φ s se ep m)
def vh:HL:=[(1,.cells false (stC s++exC 2 se ep ot)),(2,.cells false AE)]
def vo:List (Option AObj):=[some (.cells false (stC s++exC 2 se ep ot))]
noncomputable def JA (os:List Bool):Option (AVal × List (Option AObj) × List Bool):=Eb [1] (An Tryz.prog (ps4 φ) (FT φ) [19,25,30,37,300038,44,300045,51,300052,54,300055,58,300063] os [.tup [],bk 202 (v1 φ s m) 0 [] [] [],.tup [],bk 202 (v2 φ s ep m) 0 [] [] [],.tup [],bk 202 (v3 φ s se ep m) 0 [] [] [],.str (vc φ s se ep m),bk 202 (v4 φ s se ep m) 0 [] [] [],.tup [.str (kc0 φ.w (v4 φ s se ep m).ck []),.str (kc1 φ.w (v4 φ s se ep m).ck [])],bk 202 (v4 φ s se ep m) 0 [] [] []] (mask 15) 200 15 [.ptr 1 0,.str m] [(0,.cells true Bb),(1,.cells false (stC s++exC 2 se ep ot))] 2)
noncomputable def ZX:List Bool:=[pB φ 202 (v3 φ s se ep m) 0 [] [] [] (sl m 32 (m.length:Int)) 370 (vh s se ep ot),inS m 32 (m.length:Int),aB φ 202 (v2 φ s ep m) 0 [] [] [] se (sl m 0 32) 346 (vh s se ep ot),inS m 0 32,aB φ 202 (v1 φ s m) 0 [] [] [] ep (sl m 0 32) 290 (vh s se ep ot),inS m 0 32,mB φ 202 s 0 [] [] [] (sl m 0 32) 234 (vh s se ep ot),inS m 0 32,!(ltB2 m 48),!(gtB m 4144),!(noB s.h)]
theorem ae9:JA φ s se ep ot m [true]=some (.tup [.agg AE,.int .i64 1],vo s se ep ot,[noB s.h]):=by kernel_rfl
theorem aeB:JA φ s se ep ot m [false,true]=some (.tup [.agg AE,.int .i64 4],vo s se ep ot,[gtB m 4144,!(noB s.h)]):=by kernel_rfl
theorem afd:JA φ s se ep ot m [false,false,true]=some (.tup [.agg AE,.int .i64 7],vo s se ep ot,[ltB2 m 48,!(gtB m 4144),!(noB s.h)]):=by kernel_rfl
theorem afa:JA φ s se ep ot m [false,false,false,true]=some (.tup [.agg AE,.int .i64 (v4 φ s se ep m).f],vo s se ep ot,(!(eI (v4 φ s se ep m).f 0))::ZX φ s se ep ot m):=by kernel_rfl
theorem adf:JA φ s se ep ot m [false,false,false,false]=some (.tup [.agg (AC ot (vc φ s se ep m) (kc0 φ.w (v4 φ s se ep m).ck []) (kc1 φ.w (v4 φ s se ep m).ck []) (v4 φ s se ep m).h),.int .i64 0],vo s se ep ot,kB φ 202 (v4 φ s se ep m) 0 [] [] [] 410 (vh s se ep ot)::(!(!(eI (v4 φ s se ep m).f 0)))::ZX φ s se ep ot m):=by kernel_rfl
theorem af1:(Au Tryz.prog (FT φ) (mask 15) 200 15 [.nilPtr,.str m] [] 1).map (·.1)=some (.tup [.agg AE,.int .i64 1]):=by kernel_rfl
end
end Go.Proofs.YtcplgmgpagekfaaGreatDoor
namespace Go.Proofs.YtcplgmgpagekfaaGreatDoor
open Go Go.Eng Go.Num Go.Bla
theorem D7 (s:L8) (a b:Int):(sl s a b).length≤s.length:=by
 unfold sl
 rw [List.length_drop,List.length_take]
 omega
theorem Ed {s:L8}{a b:Int}(h0:0≤a) (h1:a≤b) (h2:b≤(s.length:Int)):inS s a b=true:=by
 unfold inS
 simp only [Bool.and_eq_true,decide_eq_true_eq]
 exact ⟨h0,h1,h2⟩
theorem aco {φ:Fz}{n:Nat}{s:St}(hi:Inv s){e:Nat}(he:e < 3){x y z:L8}{base:Nat}{hs:HL}(h0:Aa ((0,.cells true Bb)::hs++[(n,.cells false (stC s++exC e x y z))]) 0=some (.cells true Bb)) (hn:Aa ((0,.cells true Bb)::hs++[(n,.cells false (stC s++exC e x y z))]) n=some (.cells false (stC s++exC e x y z)))
  (hc:∀ c,AX ((0,.cells true Bb)::hs++[(n,.cells false (stC s++exC e x y z))]) n (.cells false c)=(0,.cells true Bb)::hs++[(n,.cells false c)]):kB φ n s e x y z base hs=true:=by
 refine Bx ?_
 rw [Xl φ s e he x y z h0 hn hi.2,hc]
theorem TS {s:L8}{n:Nat}(h:decide (((n:Nat):Int) < (s.length:Int))=false):s.length≤n:=by
 simp at h
 omega
noncomputable def rdE (φ:Fz) (sec p m:L8):EffA:=cond (neB sec 32) (lkE (.tup [.nilPtr,.agg AE,.int .i64 2])) (cond (gtB p 4096 || gtB m 4192) (lkE (.tup [.nilPtr,.agg AE,.int .i64 4])) (cond (ltB2 m 96) (lkE (.tup [.nilPtr,.agg AE,.int .i64 7])) (cond (eI (g5 φ sec p m).f 0) (mkT 0 Bb (stC (g5 φ sec p m)++exC 1 (sta φ sec p m) (e1 m) []) fun b=>.tup [.ptr b 0,.agg (AC (sta φ sec p m) (pay φ sec p m) [] [] []),.int .i64 0]) (lkE (.tup [.nilPtr,.agg AE,.int .i64 (g5 φ sec p m).f])))))
noncomputable def c11 (φ:Fz):List AVal→Option EffA
 | [.str a,.str p,.str m]=>some (rdE φ a p m)
 | _=>none
theorem acb {φ:Fz}(hφ:OkZ φ){sec p m:L8}(ha:neB sec 32=false) (hp:gtB p 4096=false) (hm:gtB m 4192=false) (hl:ltB2 m 96=false):Am (abO φ sec p m)=true:=by
 have l2:=Ec hp
 have l3:m.length≤4192:=TS (n:=4192) hm
 have l4:96≤m.length:=by unfold ltB2 at hl; simp at hl; omega
 have i0:Inv (g0 φ sec p):=Gf _ _ _
 have i1:Inv (g1 φ sec p m):=Bm _ i0
 have i2:Inv (g2 φ sec p m):=CB _ _ i1
 have i3:Inv (g3 φ sec p m):=Oy _ i2
 have i4:Inv (g4 φ sec p m):=CB _ _ i3
 have p1:=hφ.hpu sec
 have s1:(e1 m).length≤m.length:=D7 _ _ _
 have s2:(d1 m).length≤m.length:=D7 _ _ _
 have s3:(d2 m).length≤m.length:=D7 _ _ _
 unfold abO
 refine Ab (V9 i4 (by decide) rfl rfl (fun _=>rfl) _ (by omega)) (Ab (Ed (by omega) (by omega) (by omega)) (Ab (Ju hφ i3 (by decide) rfl rfl (fun _=>rfl) _ _) (Ab (V9 i2 (by decide) rfl rfl (fun _=>rfl) _ (by omega)) (Ab (Ed (by omega) (by omega) (by omega)) (Ab (Ju hφ i1 (by decide) rfl rfl (fun _=>rfl) _ _) (Ab (Mh i0 (by decide) rfl rfl (fun _=>rfl) _ (by omega)) (Ab (Ed (by omega) (by omega) (by omega)) (Ab ?_ (Ab (by rw [hl]; rfl) (Ab (by rw [hm]; rfl) (Ab (by rw [hp]; rfl) (Ab (by rw [ha]; rfl) rfl))))))))))))
 unfold g19
 rw [Bool.and_eq_true]
 exact ⟨Nat.ble_eq_true_of_le l2,Nat.ble_eq_true_of_le (by omega)⟩
theorem Ln {φ:Fz}(hφ:OkZ φ) (hcs:Ai Tryz.prog (FT φ)):Ai Tryz.prog (Ag 11 (c11 φ)):=Ak fun args ef hef=>by
 have hps:Bt (ps4 φ) (FT φ):=A4
 unfold c11 at hef
 split at hef
 ·rename_i a p m
  cases hef
  unfold rdE
  cases ha:neB a 32 with
  | true=>exact Et hcs rfl rfl (Cc hps (aeo φ a p m) (Ab ha rfl))
  | false =>
  cases hp:gtB p 4096 with
  | true=>exact Et hcs rfl rfl (Cc hps (adB φ a p m) (Ab hp (Ab (by rw [ha]; rfl) rfl)))
  | false =>
  cases hm:gtB m 4192 with
  | true=>exact Et hcs rfl rfl (Cc hps (agS φ a p m) (Ab hm (Ab (by rw [hp]; rfl) (Ab (by rw [ha]; rfl) rfl))))
  | false =>
  cases hl:ltB2 m 96 with
  | true=>exact Et hcs rfl rfl (Cc hps (afE φ a p m) (Ab hl (Ab (by rw [hm]; rfl) (Ab (by rw [hp]; rfl) (Ab (by rw [ha]; rfl) rfl)))))
  | false =>
  have hob:=acb hφ ha hp hm hl
  cases hf:eI (g5 φ a p m).f 0 with
  | false=>exact Et hcs rfl rfl (Cc hps (aff φ a p m) (Ab (by rw [hf]; rfl) hob))
  | true=>exact G8 hcs AB gl1 (by decide) By rfl (B5 _ _ _ _ 1 (by decide)) (fun ρ a b h=>.tupL (RL.cons (.ptr h) (RL.cons (.same rfl) (RL.same rfl)))) (Co hps (afK φ a p m) (Ab (by rw [hf]; rfl) hob)) (by decide)
 ·cases hef
noncomputable def anM (φ:Fz) (args:List AVal):EffA:=Iu Tryz.prog (FT φ) 0 (mask 13) 200 13 1 1 args
noncomputable def c13 (φ:Fz):List AVal→Option EffA
 | [.ptr n 0,.str e,.str t]=>some (anM φ [.ptr n 0,.str e,.str t])
 | [.nilPtr,.str e,.str t]=>some (.pure (.tup [.str [],.agg AE,.int .i64 1]))
 | _=>none
theorem YU {φ:Fz}(hcs:Ai Tryz.prog (FT φ)):Ai Tryz.prog (Ag 13 (c13 φ)):=Ak fun args ef hef=>by
 unfold c13 at hef
 split at hef
 ·cases hef; exact Dd hcs AB rfl
 ·cases hef; exact Ac hcs AB (by rw [gl1]; exact adX φ _ _) rfl rfl
 ·cases hef
def anV (φ:Fz) (s:St) (sa ep e t:L8):AVal:=cond (noB s.h) (.tup [.str [],.agg AE,.int .i64 1]) (cond (neB e 32) (.tup [.str [],.agg AE,.int .i64 2]) (cond (gtB t 4096) (.tup [.str [],.agg AE,.int .i64 4]) (cond (eI (u4 φ s sa ep e t).f 0) (.tup [.str (um φ s sa ep e t),.agg (AC sa [] (kc1 φ.w (u4 φ s sa ep e t).ck []) (kc0 φ.w (u4 φ s sa ep e t).ck []) (u4 φ s sa ep e t).h),.int .i64 0]) (.tup [.str [],.agg AE,.int .i64 (u4 φ s sa ep e t).f]))))
section
variable {φ:Fz}(hφ:OkZ φ) (s:St) (hi:Inv s)
include hφ hi
theorem aca {sa ep e t:L8}(he:neB e 32=false) (ht:gtB t 4096=false) (hn:noB s.h=false):Am (Z0 φ s sa ep e t)=true:=by
 have l3:=Ec ht
 have i1:Inv (u1 φ s e):=Bm _ hi
 have i2:Inv (u2 φ s ep e):=CB _ _ i1
 have i3:Inv (u3 φ s sa ep e):=CB _ _ i2
 have p1:=hφ.hpu e
 have s1:(uc φ s sa ep e t).length≤t.length+16:=NP hφ t _
 unfold Z0
 exact Ab (Fo (by omega)) (Ab (XV hφ i3 (by decide) rfl rfl (fun _=>rfl) _ (by omega)) (Ab (Ju hφ i2 (by decide) rfl rfl (fun _=>rfl) _ _) (Ab (Ju hφ i1 (by decide) rfl rfl (fun _=>rfl) _ _) (Ab (Mh hi (by decide) rfl rfl (fun _=>rfl) _ (by omega)) (Ab (by rw [ht]; rfl) (Ab (by rw [he]; rfl) (Ab (by rw [hn]; rfl) rfl)))))))
theorem abH (sa ep e t:L8){H:HL}{n base:Nat}(h0:Aa H 0=some (.cells true Bb)) (hn:Aa H n=some (.cells false (stC s++exC 1 sa ep []))):(anM φ [.ptr n 0,.str e,.str t]).app base H=some (anV φ s sa ep e t,AX H n (.cells false (stC s++exC 1 sa ep []))):=by
 have hps:Bt (ps4 φ) (FT φ):=A4
 have key:∀ {v:AVal} {os:List Bool} {ob:List Bool},JD φ s sa ep e t os=some (v,uo s sa ep,ob)→Am ob=true→ltV 0 v=true→unS 1 [n] v=some v→(anM φ [.ptr n 0,.str e,.str t]).app base H=some (v,AX H n (.cells false (stC s++exC 1 sa ep []))):=fun hr ha hv hu =>
  CV gl1 (Co hps hr ha) h0 hn By rfl (B5 _ _ _ _ 1 (by decide)) (B5 _ _ _ _ 1 (by decide)) hu
 unfold anV
 cases h1:noB s.h with
 | true=>exact key (ae3 φ s sa ep e t) (Ab h1 rfl) rfl rfl
 | false =>
 cases h2:neB e 32 with
 | true=>exact key (agR φ s sa ep e t) (Ab h2 (Ab (by rw [h1]; rfl) rfl)) rfl rfl
 | false =>
 cases h3:gtB t 4096 with
 | true=>exact key (afY φ s sa ep e t) (Ab h3 (Ab (by rw [h2]; rfl) (Ab (by rw [h1]; rfl) rfl))) rfl rfl
 | false =>
 have hob:=aca hφ s hi (sa:=sa) (ep:=ep) h2 h3 h1
 cases hf:eI (u4 φ s sa ep e t).f 0 with
 | false=>exact key (adW φ s sa ep e t) (Ab (by rw [hf]; rfl) hob) rfl rfl
 | true=>exact key (aeF φ s sa ep e t) (Ab (aco (Pb _ (CB _ _ (CB _ _ (Bm _ hi)))) (by decide) rfl rfl (fun _=>rfl)) (Ab (by rw [hf]; rfl) hob)) rfl rfl
end
noncomputable def fiM (φ:Fz) (args:List AVal):EffA:=Iu Tryz.prog (FT φ) 0 (mask 15) 200 15 1 1 args
noncomputable def c15 (φ:Fz):List AVal→Option EffA
 | [.ptr n 0,.str m]=>some (fiM φ [.ptr n 0,.str m])
 | [.nilPtr,.str m]=>some (.pure (.tup [.agg AE,.int .i64 1]))
 | _=>none
theorem Zu {φ:Fz}(hcs:Ai Tryz.prog (FT φ)):Ai Tryz.prog (Ag 15 (c15 φ)):=Ak fun args ef hef=>by
 unfold c15 at hef
 split at hef
 ·cases hef; exact Dd hcs AB rfl
 ·cases hef; exact Ac hcs AB (by rw [gl1]; exact af1 φ _) rfl rfl
 ·cases hef
def fiV (φ:Fz) (s:St) (se ep ot m:L8):AVal:=cond (noB s.h) (.tup [.agg AE,.int .i64 1]) (cond (gtB m 4144) (.tup [.agg AE,.int .i64 4]) (cond (ltB2 m 48) (.tup [.agg AE,.int .i64 7]) (cond (eI (v4 φ s se ep m).f 0) (.tup [.agg (AC ot (vc φ s se ep m) (kc0 φ.w (v4 φ s se ep m).ck []) (kc1 φ.w (v4 φ s se ep m).ck []) (v4 φ s se ep m).h),.int .i64 0]) (.tup [.agg AE,.int .i64 (v4 φ s se ep m).f]))))
section
variable {φ:Fz}(hφ:OkZ φ) (s:St) (hi:Inv s)
include hφ hi
theorem Z7 {se ep ot m:L8}(hg:gtB m 4144=false) (hl:ltB2 m 48=false) (hn:noB s.h=false):Am (ZX φ s se ep ot m)=true:=by
 have l3:m.length≤4144:=TS (n:=4144) hg
 have l4:48≤m.length:=by unfold ltB2 at hl; simp at hl; omega
 have i1:Inv (v1 φ s m):=Bm _ hi
 have i2:Inv (v2 φ s ep m):=CB _ _ i1
 have i3:Inv (v3 φ s se ep m):=CB _ _ i2
 have s1:=D7 m 0 32
 have s2:=D7 m 32 (m.length:Int)
 have q:inS m 0 32=true:=Ed (by omega) (by omega) (by omega)
 unfold ZX
 exact Ab (V9 i3 (by decide) rfl rfl (fun _=>rfl) _ (by omega)) (Ab (Ed (by omega) (by omega) (by omega)) (Ab (Ju hφ i2 (by decide) rfl rfl (fun _=>rfl) _ _) (Ab q (Ab (Ju hφ i1 (by decide) rfl rfl (fun _=>rfl) _ _) (Ab q (Ab (Mh hi (by decide) rfl rfl (fun _=>rfl) _ (by omega)) (Ab q (Ab (by rw [hl]; rfl) (Ab (by rw [hg]; rfl) (Ab (by rw [hn]; rfl) rfl))))))))))
theorem ab9 (se ep ot m:L8){H:HL}{n base:Nat}(h0:Aa H 0=some (.cells true Bb)) (hn:Aa H n=some (.cells false (stC s++exC 2 se ep ot))):(fiM φ [.ptr n 0,.str m]).app base H=some (fiV φ s se ep ot m,AX H n (.cells false (stC s++exC 2 se ep ot))):=by
 have hps:Bt (ps4 φ) (FT φ):=A4
 have key:∀ {v:AVal} {os:List Bool} {ob:List Bool},JA φ s se ep ot m os=some (v,vo s se ep ot,ob)→Am ob=true→unS 1 [n] v=some v→(fiM φ [.ptr n 0,.str m]).app base H=some (v,AX H n (.cells false (stC s++exC 2 se ep ot))):=fun hr ha hu =>
  CV gl1 (Co hps hr ha) h0 hn By rfl (B5 _ _ _ _ 2 (by decide)) (B5 _ _ _ _ 2 (by decide)) hu
 unfold fiV
 cases h1:noB s.h with
 | true=>exact key (ae9 φ s se ep ot m) (Ab h1 rfl) rfl
 | false =>
 cases h2:gtB m 4144 with
 | true=>exact key (aeB φ s se ep ot m) (Ab h2 (Ab (by rw [h1]; rfl) rfl)) rfl
 | false =>
 cases h3:ltB2 m 48 with
 | true=>exact key (afd φ s se ep ot m) (Ab h3 (Ab (by rw [h2]; rfl) (Ab (by rw [h1]; rfl) rfl))) rfl
 | false =>
 have hob:=Z7 hφ s hi (se:=se) (ep:=ep) (ot:=ot) h2 h3 h1
 cases hf:eI (v4 φ s se ep m).f 0 with
 | false=>exact key (afa φ s se ep ot m) (Ab (by rw [hf]; rfl) hob) rfl
 | true=>exact key (adf φ s se ep ot m) (Ab (aco (Oy _ (CB _ _ (CB _ _ (Bm _ hi)))) (by decide) rfl rfl (fun _=>rfl)) (Ab (by rw [hf]; rfl) hob)) rfl
end
end Go.Proofs.YtcplgmgpagekfaaGreatDoor
namespace Go.Proofs.YtcplgmgpagekfaaGreatDoor
open Go Go.Eng Go.Num Go.Bla
def dL (s:St):List AVal:=[.str s.h,.str s.ck,.str s.k]
def dS (s:St):AVal:=.agg (dL s)
def x47 (φ:Fz):List AVal→Option EffA
 | [.str a,.str b]=>some (.pure (.tup [.str (φ.sh a b),.int .i64 (φ.sr a b)]))
 | _=>none
def x7 (φ:Fz):List AVal→Option EffA
 | [.str a]=>some (.pure (.tup [.str (φ.pu a),.int .i64 (φ.pr a)]))
 | _=>none
def x48 (φ:Fz):List AVal→Option EffA
 | [.str k,.str n,.str a,.str s]=>some (.pure (.tup [.str (φ.sv k n a s),.int .i64 (φ.se k n a s)]))
 | _=>none
def x49 (φ:Fz):List AVal→Option EffA
 | [.u64 0]=>some (.pure (.str φ.no))
 | _=>none
def y51 (φ:Fz):List AVal→Option (EffA × Bool)
 | [.str k,.str n,.str a,.str s]=>some (.pure (.tup [.str (φ.ov k n a s),.int .i64 (φ.oe k n a s)]),slO s)
 | _=>none
def psD (φ:Fz):PS:=Bi (Al 46 (e46 φ.w)) (Bi (Al 31 (e31 φ.w)) (Al 51 (y51 φ)))
def Yd (φ:Fz):CS:=At (Ag 47 (x47 φ)) (At (Ag 7 (x7 φ)) (At (Ag 48 (x48 φ)) (Ag 49 (x49 φ))))
def csD (φ:Fz):CS:=At (csP (psD φ)) (Yd φ)
def gm (s:St) (b:L8):Bool:=gd (s.h++b) && cB s.h b
def y25 (φ:Fz):List AVal→Option (EffA × Bool)
 | [.agg [.str h,.str ck,.str k],.str b]=>some (.pure (dS (Cq φ b ⟨h,ck,k,0⟩)),gm ⟨h,ck,k,0⟩ b)
 | _=>none
def RJ (φ:Fz):PS:=Bi (Al 25 (y25 φ)) (psD φ)
def JP (φ:Fz):CS:=At (csP (RJ φ)) (Yd φ)
def CZ (φ:Fz) (a b:L8) (s:St):St:=⟨s.h,cond (eI (φ.sr a b) 0) (kc0 φ.w s.ck (φ.sh a b)) s.ck,cond (eI (φ.sr a b) 0) (kc1 φ.w s.ck (φ.sh a b)) s.k,0⟩
def gA (φ:Fz) (a b:L8) (s:St):Bool:=Nat.beq s.ck.length 32 && gdS (φ.sh a b)
def svT (φ:Fz) (t:L8) (s:St):L8:=φ.sv s.k φ.no s.h t
def GF (φ:Fz) (t:L8) (s:St):St:=Cq φ (svT φ t s) s
def opE (φ:Fz) (c:L8) (s:St):Int:=φ.oe s.k φ.no s.h c
def opX (φ:Fz) (c:L8) (s:St):L8:=cond (eI (opE φ c s) 0) (φ.ov s.k φ.no s.h c) []
def FK (φ:Fz) (c:L8) (s:St):St:=⟨cond (eI (opE φ c s) 0) (Bq (φ.w (s.h++c))) s.h,s.ck,s.k,0⟩
section
variable (φ:Fz) (s:St) (a b c t p o:L8)
theorem x25:AL (An Tryz.prog (psD φ) (csD φ) [8,9] [] [] (mask 25) 200 25 [dS s,.str b] [] 1)=some (dS (Cq φ b s),[gd (s.h++b),cB s.h b]):=by kernel_rfl
theorem x24:AL (An Tryz.prog (RJ φ) (JP φ) [7,13,15] [] [] (mask 24) 200 24 [.str p,.str o] [] 1)=some (dS (bgS φ p o),[gm (Cq φ p (st0 φ)) o,gm (st0 φ) p,gd nmL]):=by kernel_rfl
theorem alJ:AL (An Tryz.prog (RJ φ) (JP φ) [19] [true] [] (mask 26) 200 26 [dS s,.str a,.str b] [] 1)=some (.tup [dS s,.int .i64 (φ.sr a b)],[!(eI (φ.sr a b) 0)]):=by kernel_rfl
theorem anw:AL (An Tryz.prog (RJ φ) (JP φ) [19,26] [false] [] (mask 26) 200 26 [dS s,.str a,.str b] [] 1)=some (.tup [dS ⟨s.h,kc0 φ.w s.ck (φ.sh a b),kc1 φ.w s.ck (φ.sh a b),0⟩,.int .i64 0],[Nat.beq s.ck.length 32 && gdS (φ.sh a b),!(!(eI (φ.sr a b) 0))]):=by kernel_rfl
theorem x27:AL (An Tryz.prog (RJ φ) (JP φ) [20] [] [] (mask 27) 200 27 [dS s,.str t] [] 1)=some (.tup [dS (GF φ t s),.str (svT φ t s)],[gm s (svT φ t s)]):=by kernel_rfl
theorem amU:AL (An Tryz.prog (RJ φ) (JP φ) [16,20] [true] [] (mask 29) 200 29 [dS s,.str c] [] 1)=some (.tup [dS s,.str [],.int .i64 (opE φ c s)],[!(eI (opE φ c s) 0),slO c]):=by kernel_rfl
theorem anv:AL (An Tryz.prog (RJ φ) (JP φ) [16,20,25] [false] [] (mask 29) 200 29 [dS s,.str c] [] 1)=some (.tup [dS (Cq φ c s),.str (φ.ov s.k φ.no s.h c),.int .i64 0],[gm s c,!(!(eI (opE φ c s) 0)),slO c]):=by kernel_rfl
end
end Go.Proofs.YtcplgmgpagekfaaGreatDoor
namespace Go.Proofs.YtcplgmgpagekfaaGreatDoor
open Go Go.Eng Go.Num Go.Bla
def y24 (φ:Fz):List AVal→Option (EffA × Bool)
 | [.str p,.str o]=>some (.pure (dS (bgS φ p o)),g19 p o)
 | _=>none
def y26 (φ:Fz):List AVal→Option (EffA × Bool)
 | [.agg [.str h,.str ck,.str k],.str a,.str b]=>some (.pure (.tup [dS (CZ φ a b ⟨h,ck,k,0⟩),.int .i64 (φ.sr a b)]),gA φ a b ⟨h,ck,k,0⟩)
 | _=>none
def y27 (φ:Fz):List AVal→Option (EffA × Bool)
 | [.agg [.str h,.str ck,.str k],.str t]=>some (.pure (.tup [dS (GF φ t ⟨h,ck,k,0⟩),.str (svT φ t ⟨h,ck,k,0⟩)]),gm ⟨h,ck,k,0⟩ (svT φ t ⟨h,ck,k,0⟩))
 | _=>none
def y29 (φ:Fz):List AVal→Option (EffA × Bool)
 | [.agg [.str h,.str ck,.str k],.str c]=>some (.pure (.tup [dS (FK φ c ⟨h,ck,k,0⟩),.str (opX φ c ⟨h,ck,k,0⟩),.int .i64 (opE φ c ⟨h,ck,k,0⟩)]),gm ⟨h,ck,k,0⟩ c && slO c)
 | _=>none
def psX (φ:Fz):PS:=Bi (Al 25 (y25 φ)) (Bi (Al 24 (y24 φ)) (Bi (Al 26 (y26 φ)) (Bi (Al 27 (y27 φ)) (Bi (Al 29 (y29 φ)) (Al 31 (e31 φ.w))))))
def csX (φ:Fz):CS:=At (csP (psX φ)) (Yd φ)
def hfD (s:St) (a e o:L8):AVal:=.agg (dL s++[.str a,.str e,.str o])
def hf0:AVal:=.agg [.str [],.str [],.str [],.str [],.str [],.str []]
def ot0:AVal:=.agg [.str [],.str [],.str [],.str [],.str []]
def otD (s:St) (sa ep:L8):AVal:=.agg (dL s++[.str sa,.str ep])
def fB (x:Int):Bool:=!(eI x 0)
section
variable (φ:Fz) (a o e p t:L8)
def z1:St:=Cq φ (φ.pu e) (bgS φ p o)
def z2:St:=CZ φ e o (z1 φ o e p)
def z3:St:=GF φ (φ.pu a) (z2 φ o e p)
def z4:St:=CZ φ a o (z3 φ a o e p)
def z5:St:=GF φ t (z4 φ a o e p)
def zm:L8:=(φ.pu e++svT φ (φ.pu a) (z2 φ o e p))++svT φ t (z4 φ a o e p)
noncomputable def LU (os:List Bool):Option (AVal × List Bool):=AL (An Tryz.prog (psX φ) (csX φ) [23,27,32,37,41,57,59,62,66,72,79,83,89,99,101] os [] (mask 9) 200 9 [.str a,.str o,.str e,.str p,.str t] [] 1)
def oz0:List Bool:=[!(gtB t 4096),!(gtB p 4096),!(neB e 32),!(neB o 32),!(neB a 32)]
def oz1:List Bool:=[gA φ e o (z1 φ o e p),gm (bgS φ p o) (φ.pu e),g19 p o]++oz0 a o e p t
def oz2:List Bool:=[gA φ a o (z3 φ a o e p),gm (z2 φ o e p) (svT φ (φ.pu a) (z2 φ o e p)),!(fB (φ.sr e o))]++oz1 φ a o e p t
theorem x9a:LU φ a o e p t [true]=some (.tup [hf0,.str [],.int .i64 2],[neB a 32]):=by kernel_rfl
theorem x9b:LU φ a o e p t [false,true]=some (.tup [hf0,.str [],.int .i64 2],[neB o 32,!(neB a 32)]):=by kernel_rfl
theorem x9c:LU φ a o e p t [false,false,true]=some (.tup [hf0,.str [],.int .i64 2],[neB e 32,!(neB o 32),!(neB a 32)]):=by kernel_rfl
theorem x9d:LU φ a o e p t [false,false,false,true]=some (.tup [hf0,.str [],.int .i64 4],[gtB p 4096,!(neB e 32),!(neB o 32),!(neB a 32)]):=by kernel_rfl
theorem x9e:LU φ a o e p t [false,false,false,false,true]=some (.tup [hf0,.str [],.int .i64 4],[gtB t 4096,!(gtB p 4096),!(neB e 32),!(neB o 32),!(neB a 32)]):=by kernel_rfl
theorem x9f:LU φ a o e p t [false,false,false,false,false,true]=some (.tup [hf0,.str [],.int .i64 (φ.sr e o)],fB (φ.sr e o)::oz1 φ a o e p t):=by kernel_rfl
theorem x9g:LU φ a o e p t [false,false,false,false,false,false,true]=some (.tup [hf0,.str [],.int .i64 (φ.sr a o)],fB (φ.sr a o)::oz2 φ a o e p t):=by kernel_rfl
theorem x9h:LU φ a o e p t [false,false,false,false,false,false,false]=some (.tup [hfD (z5 φ a o e p t) a e o,.str (zm φ a o e p t),.int .i64 0],cB (φ.pu e++svT φ (φ.pu a) (z2 φ o e p)) (svT φ t (z4 φ a o e p))::cB (φ.pu e) (svT φ (φ.pu a) (z2 φ o e p))::gm (z4 φ a o e p) (svT φ t (z4 φ a o e p))::(!(fB (φ.sr a o)))::oz2 φ a o e p t):=by kernel_rfl
end
section
variable (φ:Fz) (sec p m:L8)
def w1:St:=Cq φ (sl m 0 32) (bgS φ p (φ.pu sec))
def w2:St:=CZ φ sec (sl m 0 32) (w1 φ sec p m)
def ws:L8:=opX φ (sl m 32 80) (w2 φ sec p m)
def w3:St:=FK φ (sl m 32 80) (w2 φ sec p m)
def w4:St:=CZ φ sec (ws φ sec p m) (w3 φ sec p m)
def wt:L8:=opX φ (sl m 80 (m.length:Int)) (w4 φ sec p m)
def w5:St:=FK φ (sl m 80 (m.length:Int)) (w4 φ sec p m)
noncomputable def D6 (os:List Bool):Option (AVal × List Bool):=AL (An Tryz.prog (psX φ) (csX φ) [18,23,27,33,37,46,48,51,55,62,63,68,76,80,87,88,93] os [] (mask 12) 200 12 [.str sec,.str p,.str m] [] 1)
def ow0:List Bool:=[gA φ sec (sl m 0 32) (w1 φ sec p m),gm (bgS φ p (φ.pu sec)) (sl m 0 32),g19 p (φ.pu sec),inS m 0 32,!(ltB2 m 96),!(gtB m 4192),!(gtB p 4096),!(neB sec 32)]
def ow1:List Bool:=[gm (w2 φ sec p m) (sl m 32 80) && slO (sl m 32 80),inS m 32 80,!(fB (φ.sr sec (sl m 0 32)))]++ow0 φ sec p m
def ow2:List Bool:=[gA φ sec (ws φ sec p m) (w3 φ sec p m),!(fB (opE φ (sl m 32 80) (w2 φ sec p m)))]++ow1 φ sec p m
def ow3:List Bool:=[gm (w4 φ sec p m) (sl m 80 (m.length:Int)) && slO (sl m 80 (m.length:Int)),inS m 80 (m.length:Int),!(fB (φ.sr sec (ws φ sec p m)))]++ow2 φ sec p m
theorem alH:D6 φ sec p m [true]=some (.tup [ot0,.agg AE,.int .i64 2],[neB sec 32]):=by kernel_rfl
theorem ane:D6 φ sec p m [false,true]=some (.tup [ot0,.agg AE,.int .i64 4],[gtB p 4096,!(neB sec 32)]):=by kernel_rfl
theorem anu:D6 φ sec p m [false,false,true]=some (.tup [ot0,.agg AE,.int .i64 4],[gtB m 4192,!(gtB p 4096),!(neB sec 32)]):=by kernel_rfl
theorem am5:D6 φ sec p m [false,false,false,true]=some (.tup [ot0,.agg AE,.int .i64 7],[ltB2 m 96,!(gtB m 4192),!(gtB p 4096),!(neB sec 32)]):=by kernel_rfl
theorem anq:D6 φ sec p m [false,false,false,false,true]=some (.tup [ot0,.agg AE,.int .i64 (φ.sr sec (sl m 0 32))],fB (φ.sr sec (sl m 0 32))::ow0 φ sec p m):=by kernel_rfl
theorem alP:D6 φ sec p m [false,false,false,false,false,true]=some (.tup [ot0,.agg AE,.int .i64 (opE φ (sl m 32 80) (w2 φ sec p m))],fB (opE φ (sl m 32 80) (w2 φ sec p m))::ow1 φ sec p m):=by kernel_rfl
theorem alQ:D6 φ sec p m [false,false,false,false,false,false,true]=some (.tup [ot0,.agg AE,.int .i64 (φ.sr sec (ws φ sec p m))],fB (φ.sr sec (ws φ sec p m))::ow2 φ sec p m):=by kernel_rfl
theorem amk:D6 φ sec p m [false,false,false,false,false,false,false,true]=some (.tup [ot0,.agg AE,.int .i64 (opE φ (sl m 80 (m.length:Int)) (w4 φ sec p m))],fB (opE φ (sl m 80 (m.length:Int)) (w4 φ sec p m))::ow3 φ sec p m):=by kernel_rfl
theorem amg:D6 φ sec p m [false,false,false,false,false,false,false,false]=some (.tup [otD (w5 φ sec p m) (ws φ sec p m) (sl m 0 32),.agg (AC (ws φ sec p m) (wt φ sec p m) [] [] []),.int .i64 0],(!(fB (opE φ (sl m 80 (m.length:Int)) (w4 φ sec p m))))::ow3 φ sec p m):=by kernel_rfl
end
section
variable (φ:Fz) (s:St) (sa ep e t:L8)
def j1:St:=Cq φ (φ.pu e) ⟨s.h,s.ck,s.k,0⟩
def j2:St:=CZ φ e ep (j1 φ s e)
def j3:St:=CZ φ e sa (j2 φ s ep e)
def j4:St:=GF φ t (j3 φ s sa ep e)
noncomputable def Qf (os:List Bool):Option (AVal × List Bool):=AL (An Tryz.prog (psX φ) (csX φ) [18,22,33,37,41,49,53,59,65,70] os [] (mask 14) 200 14 [otD s sa ep,.str e,.str t] [] 1)
def oj0:List Bool:=[gA φ e ep (j1 φ s e),gm ⟨s.h,s.ck,s.k,0⟩ (φ.pu e),!(gtB t 4096),!(neB e 32)]
def oj1:List Bool:=[gA φ e sa (j2 φ s ep e),!(fB (φ.sr e ep))]++oj0 φ s ep e t
theorem amE:Qf φ s sa ep e t [true]=some (.tup [.str [],.agg AE,.int .i64 2],[neB e 32]):=by kernel_rfl
theorem amj:Qf φ s sa ep e t [false,true]=some (.tup [.str [],.agg AE,.int .i64 4],[gtB t 4096,!(neB e 32)]):=by kernel_rfl
theorem alj:Qf φ s sa ep e t [false,false,true]=some (.tup [.str [],.agg AE,.int .i64 (φ.sr e ep)],fB (φ.sr e ep)::oj0 φ s ep e t):=by kernel_rfl
theorem amL:Qf φ s sa ep e t [false,false,false,true]=some (.tup [.str [],.agg AE,.int .i64 (φ.sr e sa)],fB (φ.sr e sa)::oj1 φ s sa ep e t):=by kernel_rfl
theorem amC:Qf φ s sa ep e t [false,false,false,false]=some (.tup [.str (φ.pu e++svT φ t (j3 φ s sa ep e)),.agg (AC sa [] (kc1 φ.w (j4 φ s sa ep e t).ck []) (kc0 φ.w (j4 φ s sa ep e t).ck []) (j4 φ s sa ep e t).h),.int .i64 0],[cB (φ.pu e) (svT φ t (j3 φ s sa ep e)),Nat.beq (j4 φ s sa ep e t).ck.length 32 && gdS [],gm (j3 φ s sa ep e) (svT φ t (j3 φ s sa ep e)),!(fB (φ.sr e sa))]++oj1 φ s sa ep e t):=by kernel_rfl
end
section
variable (φ:Fz) (s:St) (se ep ot m:L8)
def i1:St:=Cq φ (sl m 0 32) ⟨s.h,s.ck,s.k,0⟩
def i2:St:=CZ φ ep (sl m 0 32) (i1 φ s m)
def i3:St:=CZ φ se (sl m 0 32) (i2 φ s ep m)
def i4:St:=FK φ (sl m 32 (m.length:Int)) (i3 φ s se ep m)
def ic:L8:=opX φ (sl m 32 (m.length:Int)) (i3 φ s se ep m)
noncomputable def FS (os:List Bool):Option (AVal × List Bool):=AL (An Tryz.prog (psX φ) (csX φ) [13,17,23,24,28,29,33,41,42,46,52,53,58,64] os [] (mask 16) 200 16 [hfD s se ep ot,.str m] [] 1)
def oi0:List Bool:=[gA φ ep (sl m 0 32) (i1 φ s m),inS m 0 32,gm ⟨s.h,s.ck,s.k,0⟩ (sl m 0 32),inS m 0 32,!(ltB2 m 48),!(gtB m 4144)]
def oi1:List Bool:=[gA φ se (sl m 0 32) (i2 φ s ep m),inS m 0 32,!(fB (φ.sr ep (sl m 0 32)))]++oi0 φ s ep m
def oi2:List Bool:=[gm (i3 φ s se ep m) (sl m 32 (m.length:Int)) && slO (sl m 32 (m.length:Int)),inS m 32 (m.length:Int),!(fB (φ.sr se (sl m 0 32)))]++oi1 φ s se ep m
theorem amV:FS φ s se ep ot m [true]=some (.tup [.agg AE,.int .i64 4],[gtB m 4144]):=by kernel_rfl
theorem alq:FS φ s se ep ot m [false,true]=some (.tup [.agg AE,.int .i64 7],[ltB2 m 48,!(gtB m 4144)]):=by kernel_rfl
theorem amb:FS φ s se ep ot m [false,false,true]=some (.tup [.agg AE,.int .i64 (φ.sr ep (sl m 0 32))],fB (φ.sr ep (sl m 0 32))::oi0 φ s ep m):=by kernel_rfl
theorem amR:FS φ s se ep ot m [false,false,false,true]=some (.tup [.agg AE,.int .i64 (φ.sr se (sl m 0 32))],fB (φ.sr se (sl m 0 32))::oi1 φ s se ep m):=by kernel_rfl
theorem amm:FS φ s se ep ot m [false,false,false,false,true]=some (.tup [.agg AE,.int .i64 (opE φ (sl m 32 (m.length:Int)) (i3 φ s se ep m))],fB (opE φ (sl m 32 (m.length:Int)) (i3 φ s se ep m))::oi2 φ s se ep m):=by kernel_rfl
theorem alb:FS φ s se ep ot m [false,false,false,false,false]=some (.tup [.agg (AC ot (ic φ s se ep m) (kc0 φ.w (i4 φ s se ep m).ck []) (kc1 φ.w (i4 φ s se ep m).ck []) (i4 φ s se ep m).h),.int .i64 0],[Nat.beq (i4 φ s se ep m).ck.length 32 && gdS [],!(fB (opE φ (sl m 32 (m.length:Int)) (i3 φ s se ep m)))]++oi2 φ s se ep m):=by kernel_rfl
end
end Go.Proofs.YtcplgmgpagekfaaGreatDoor
namespace Go.Proofs.YtcplgmgpagekfaaGreatDoor
open Go Go.Eng Go.Num Go.Bla
theorem Ff {s:St}{b:L8}(hi:Inv s) (hb:b.length≤11000):gm s b=true:=by
 unfold gm
 rw [Mw (by rw [List.length_append,hi.1]; omega) (by rw [List.length_append,hi.1]; omega),Fo (by rw [hi.1]; omega)]
 rfl
theorem Bj {φ:Fz}{s:St}(a b:L8) (h:Inv s):Inv (CZ φ a b s):=by
 refine ⟨h.1,?_⟩
 unfold CZ
 cases eI (φ.sr a b) 0
 ·exact h.2
 ·exact Cx _
theorem DD {φ:Fz}{s:St}(t:L8) (h:Inv s):Inv (GF φ t s):=Bm _ h
theorem Gu {φ:Fz}{s:St}(c:L8) (h:Inv s):Inv (FK φ c s):=by
 refine ⟨?_,h.2⟩
 unfold FK
 cases eI (opE φ c s) 0
 ·exact h.1
 ·exact Cx _
theorem aia {s:St}(h:Inv s):Inv ⟨s.h,s.ck,s.k,0⟩:=h
theorem Lb {p o:L8}(h1:p.length≤4096) (h2:o.length≤4096):g19 p o=true:=by
 unfold g19
 rw [Nat.ble_eq_true_of_le h1,Nat.ble_eq_true_of_le h2]; rfl
theorem Rf {s:L8}(h:s.length≤100000):slO s=true:=Nat.ble_eq_true_of_le (by omega)
theorem aeG {a b:Bool}(h:a=true) (k:b=true):(a && b)=true:=by rw [h,k]; rfl
theorem AR {f:FuncId}{args:List AVal}{φ:Fz}{ps:PS}{cs:CS}(hps:Bt ps cs) (hcs:Ai Tryz.prog cs){sy:List Nat}{os:List Bool}{nn F:Nat}{v:AVal}{ob:List Bool}(hr:AL (An Tryz.prog ps cs sy os [] nn F f args [] 1)=some (v,ob)) (ha:Am ob=true) (hx:C0 args=true) (hv:ltV 0 v=true):AG Tryz.prog f args (.pure v):=
 Ac hcs AB (by rw [gl1]; exact Aj hps hr ha) hx hv
section
variable {φ:Fz}(hφ:OkZ φ)
include hφ
theorem Jw {s:St}(a b:L8) (hi:Inv s):gA φ a b s=true:=by
 unfold gA
 rw [hi.2]
 exact Nat.ble_eq_true_of_le (by have:=hφ.hsh a b; omega)
theorem H4 (t:L8) (s:St):(svT φ t s).length≤t.length+16:=hφ.hsv _ _ _ _
omit hφ in
theorem Zi (h:Ai Tryz.prog (csD φ)):Ai Tryz.prog (csP (Al 25 (y25 φ))):=Bc fun args e he=>by
 unfold y25 at he
 split at he
 ·simp only [Option.some.injEq,Prod.mk.injEq] at he
  obtain ⟨rfl,hg⟩:=he
  unfold gm at hg
  rw [Bool.and_eq_true] at hg
  exact AR (φ:=φ) A4 h (x25 φ ⟨_,_,_,0⟩ _) (Ab hg.1 (Ab hg.2 rfl)) rfl rfl
 ·cases he
omit hφ in
theorem aeE (h:Ai Tryz.prog (JP φ)):Ai Tryz.prog (csP (Al 24 (y24 φ))):=Bc fun args e he=>by
 unfold y24 at he
 split at he
 ·simp only [Option.some.injEq,Prod.mk.injEq] at he
  obtain ⟨rfl,hg⟩:=he
  unfold g19 at hg
  rw [Bool.and_eq_true] at hg
  have h1:=Nat.le_of_ble_eq_true hg.1
  have h2:=Nat.le_of_ble_eq_true hg.2
  exact AR (φ:=φ) A4 h (x24 φ _ _) (Ab (Ff (Bm _ (Ik φ)) (by omega)) (Ab (Ff (Ik φ) (by omega)) (Ab rfl rfl))) rfl rfl
 ·cases he
omit hφ in
theorem ahl (h:Ai Tryz.prog (JP φ)):Ai Tryz.prog (csP (Al 26 (y26 φ))):=Bc fun args e he=>by
 unfold y26 at he
 split at he
 ·rename_i h0 ck k a b
  simp only [Option.some.injEq,Prod.mk.injEq] at he
  obtain ⟨rfl,hg⟩:=he
  unfold gA at hg
  unfold CZ
  cases hs:eI (φ.sr a b) 0 with
  | false=>exact AR (φ:=φ) A4 h (alJ φ ⟨h0,ck,k,0⟩ a b) (Ab (by rw [hs]; rfl) rfl) rfl rfl
  | true =>
   have e0:φ.sr a b=0:=by unfold eI at hs; simpa using hs
   have hr:=anw φ ⟨h0,ck,k,0⟩ a b
   rw [e0] at hr ⊢
   exact AR (φ:=φ) A4 h hr (Ab hg (Ab rfl rfl)) rfl rfl
 ·cases he
omit hφ in
theorem aeU (h:Ai Tryz.prog (JP φ)):Ai Tryz.prog (csP (Al 27 (y27 φ))):=Bc fun args e he=>by
 unfold y27 at he
 split at he
 ·simp only [Option.some.injEq,Prod.mk.injEq] at he
  obtain ⟨rfl,hg⟩:=he
  exact AR (φ:=φ) A4 h (x27 φ ⟨_,_,_,0⟩ _) (Ab hg rfl) rfl rfl
 ·cases he
omit hφ in
theorem agU (h:Ai Tryz.prog (JP φ)):Ai Tryz.prog (csP (Al 29 (y29 φ))):=Bc fun args e he=>by
 unfold y29 at he
 split at he
 ·rename_i h0 ck k c
  simp only [Option.some.injEq,Prod.mk.injEq] at he
  obtain ⟨rfl,hg⟩:=he
  rw [Bool.and_eq_true] at hg
  unfold FK opX
  cases hs:eI (opE φ c ⟨h0,ck,k,0⟩) 0 with
  | false=>exact AR (φ:=φ) A4 h (amU φ ⟨h0,ck,k,0⟩ c) (Ab (by rw [hs]; rfl) (Ab hg.2 rfl)) rfl rfl
  | true =>
   have e0:opE φ c ⟨h0,ck,k,0⟩=0:=by unfold eI at hs; simpa using hs
   have hr:=anv φ ⟨h0,ck,k,0⟩ c
   rw [e0] at hr ⊢
   exact AR (φ:=φ) A4 h hr (Ab hg.1 (Ab rfl (Ab hg.2 rfl))) rfl rfl
 ·cases he
omit hφ in
theorem aeS (h0:Ai Tryz.prog (csD φ)) (h1:Ai Tryz.prog (JP φ)) (h31:Ai Tryz.prog (csP (Al 31 (e31 φ.w)))) (hd:Ai Tryz.prog (Yd φ)):Ai Tryz.prog (csX φ):=
 Af (AN (Zi h0) (AN (aeE h1) (AN (ahl h1) (AN (aeU h1) (AN (agU h1) h31))))) hd
omit hφ in
theorem KW {x:Int}(h:fB x=false):(!(fB x))=true:=by rw [h]; rfl
end
def bgD (φ:Fz) (a o e p t:L8):AVal:=cond (neB a 32 || (neB o 32 || neB e 32)) (.tup [hf0,.str [],.int .i64 2]) (cond (gtB p 4096 || gtB t 4096) (.tup [hf0,.str [],.int .i64 4]) (cond (fB (φ.sr e o)) (.tup [hf0,.str [],.int .i64 (φ.sr e o)]) (cond (fB (φ.sr a o)) (.tup [hf0,.str [],.int .i64 (φ.sr a o)]) (.tup [hfD (z5 φ a o e p t) a e o,.str (zm φ a o e p t),.int .i64 0]))))
def y9 (φ:Fz):List AVal→Option EffA
 | [.str a,.str o,.str e,.str p,.str t]=>some (.pure (bgD φ a o e p t))
 | _=>none
def rdD (φ:Fz) (sec p m:L8):AVal:=cond (neB sec 32) (.tup [ot0,.agg AE,.int .i64 2]) (cond (gtB p 4096 || gtB m 4192) (.tup [ot0,.agg AE,.int .i64 4]) (cond (ltB2 m 96) (.tup [ot0,.agg AE,.int .i64 7]) (cond (fB (φ.sr sec (sl m 0 32))) (.tup [ot0,.agg AE,.int .i64 (φ.sr sec (sl m 0 32))]) (cond (fB (opE φ (sl m 32 80) (w2 φ sec p m))) (.tup [ot0,.agg AE,.int .i64 (opE φ (sl m 32 80) (w2 φ sec p m))]) (cond (fB (φ.sr sec (ws φ sec p m))) (.tup [ot0,.agg AE,.int .i64 (φ.sr sec (ws φ sec p m))]) (cond (fB (opE φ (sl m 80 (m.length:Int)) (w4 φ sec p m))) (.tup [ot0,.agg AE,.int .i64 (opE φ (sl m 80 (m.length:Int)) (w4 φ sec p m))]) (.tup [otD (w5 φ sec p m) (ws φ sec p m) (sl m 0 32),.agg (AC (ws φ sec p m) (wt φ sec p m) [] [] []),.int .i64 0])))))))
def y12 (φ:Fz):List AVal→Option EffA
 | [.str a,.str p,.str m]=>some (.pure (rdD φ a p m))
 | _=>none
def anD (φ:Fz) (s:St) (sa ep e t:L8):AVal:=cond (neB e 32) (.tup [.str [],.agg AE,.int .i64 2]) (cond (gtB t 4096) (.tup [.str [],.agg AE,.int .i64 4]) (cond (fB (φ.sr e ep)) (.tup [.str [],.agg AE,.int .i64 (φ.sr e ep)]) (cond (fB (φ.sr e sa)) (.tup [.str [],.agg AE,.int .i64 (φ.sr e sa)]) (.tup [.str (φ.pu e++svT φ t (j3 φ s sa ep e)),.agg (AC sa [] (kc1 φ.w (j4 φ s sa ep e t).ck []) (kc0 φ.w (j4 φ s sa ep e t).ck []) (j4 φ s sa ep e t).h),.int .i64 0]))))
def y14 (φ:Fz):List AVal→Option (EffA × Bool)
 | [.agg [.str h,.str ck,.str k,.str sa,.str ep],.str e,.str t]=>some (.pure (anD φ ⟨h,ck,k,0⟩ sa ep e t),Nat.beq h.length 32 && Nat.beq ck.length 32)
 | _=>none
def fiD (φ:Fz) (s:St) (se ep ot m:L8):AVal:=cond (gtB m 4144) (.tup [.agg AE,.int .i64 4]) (cond (ltB2 m 48) (.tup [.agg AE,.int .i64 7]) (cond (fB (φ.sr ep (sl m 0 32))) (.tup [.agg AE,.int .i64 (φ.sr ep (sl m 0 32))]) (cond (fB (φ.sr se (sl m 0 32))) (.tup [.agg AE,.int .i64 (φ.sr se (sl m 0 32))]) (cond (fB (opE φ (sl m 32 (m.length:Int)) (i3 φ s se ep m))) (.tup [.agg AE,.int .i64 (opE φ (sl m 32 (m.length:Int)) (i3 φ s se ep m))]) (.tup [.agg (AC ot (ic φ s se ep m) (kc0 φ.w (i4 φ s se ep m).ck []) (kc1 φ.w (i4 φ s se ep m).ck []) (i4 φ s se ep m).h),.int .i64 0])))))
def y16 (φ:Fz):List AVal→Option (EffA × Bool)
 | [.agg [.str h,.str ck,.str k,.str se,.str ep,.str ot],.str m]=>some (.pure (fiD φ ⟨h,ck,k,0⟩ se ep ot m),Nat.beq h.length 32 && Nat.beq ck.length 32)
 | _=>none
section
variable {φ:Fz}(hφ:OkZ φ) (hcs:Ai Tryz.prog (csX φ))
include hφ hcs
theorem Mp:Ai Tryz.prog (Ag 9 (y9 φ)):=Ak fun args ef hef=>by
 have hps:Bt (psX φ) (csX φ):=A4
 unfold y9 at hef
 split at hef
 ·rename_i a o e p t
  cases hef
  unfold bgD
  cases ha:neB a 32 with
  | true=>exact AR (φ:=φ) hps hcs (x9a φ a o e p t) (Ab ha rfl) rfl rfl
  | false =>
  cases ho:neB o 32 with
  | true=>exact AR (φ:=φ) hps hcs (x9b φ a o e p t) (Ab ho (Ab (by rw [ha]; rfl) rfl)) rfl rfl
  | false =>
  cases he:neB e 32 with
  | true=>exact AR (φ:=φ) hps hcs (x9c φ a o e p t) (Ab he (Ab (by rw [ho]; rfl) (Ab (by rw [ha]; rfl) rfl))) rfl rfl
  | false =>
  cases hp:gtB p 4096 with
  | true=>exact AR (φ:=φ) hps hcs (x9d φ a o e p t) (Ab hp (Ab (by rw [he]; rfl) (Ab (by rw [ho]; rfl) (Ab (by rw [ha]; rfl) rfl)))) rfl rfl
  | false =>
  cases ht:gtB t 4096 with
  | true=>exact AR (φ:=φ) hps hcs (x9e φ a o e p t) (Ab ht (Ab (by rw [hp]; rfl) (Ab (by rw [he]; rfl) (Ab (by rw [ho]; rfl) (Ab (by rw [ha]; rfl) rfl))))) rfl rfl
  | false =>
  have l1:=VZ ho
  have l2:=Ec hp
  have l3:=Ec ht
  have p1:=hφ.hpu e
  have p2:=hφ.hpu a
  have k0:=Gf φ p o
  have k1:Inv (z1 φ o e p):=Bm _ k0
  have k2:Inv (z2 φ o e p):=Bj _ _ k1
  have k3:Inv (z3 φ a o e p):=DD _ k2
  have k4:Inv (z4 φ a o e p):=Bj _ _ k3
  have s1:=H4 hφ (φ.pu a) (z2 φ o e p)
  have s2:=H4 hφ t (z4 φ a o e p)
  have q0:Am (oz0 a o e p t)=true:=Ab (by rw [ht]; rfl) (Ab (by rw [hp]; rfl) (Ab (by rw [he]; rfl) (Ab (by rw [ho]; rfl) (Ab (by rw [ha]; rfl) rfl))))
  have q1:Am (oz1 φ a o e p t)=true:=Ab (Jw hφ _ _ k1) (Ab (Ff k0 (by omega)) (Ab (Lb l2 (by omega)) q0))
  cases h1:fB (φ.sr e o) with
  | true=>exact AR (φ:=φ) hps hcs (x9f φ a o e p t) (Ab h1 q1) rfl rfl
  | false =>
  have q2:Am (oz2 φ a o e p t)=true:=Ab (Jw hφ _ _ k3) (Ab (Ff k2 (by omega)) (Ab (KW h1) q1))
  cases h2:fB (φ.sr a o) with
  | true=>exact AR (φ:=φ) hps hcs (x9g φ a o e p t) (Ab h2 q2) rfl rfl
  | false =>
   have c1:cB (φ.pu e++svT φ (φ.pu a) (z2 φ o e p)) (svT φ t (z4 φ a o e p))=true:=Fo (by rw [List.length_append]; omega)
   have c2:cB (φ.pu e) (svT φ (φ.pu a) (z2 φ o e p))=true:=Fo (by omega)
   have c3:gm (z4 φ a o e p) (svT φ t (z4 φ a o e p))=true:=Ff k4 (by omega)
   exact AR (φ:=φ) hps hcs (x9h φ a o e p t) (Ab c1 (Ab c2 (Ab c3 (Ab (KW h2) q2)))) rfl rfl
 ·cases hef
theorem afr:Ai Tryz.prog (Ag 12 (y12 φ)):=Ak fun args ef hef=>by
 have hps:Bt (psX φ) (csX φ):=A4
 unfold y12 at hef
 split at hef
 ·rename_i a p m
  cases hef
  unfold rdD
  cases ha:neB a 32 with
  | true=>exact AR (φ:=φ) hps hcs (alH φ a p m) (Ab ha rfl) rfl rfl
  | false =>
  cases hp:gtB p 4096 with
  | true=>exact AR (φ:=φ) hps hcs (ane φ a p m) (Ab hp (Ab (by rw [ha]; rfl) rfl)) rfl rfl
  | false =>
  cases hm:gtB m 4192 with
  | true=>exact AR (φ:=φ) hps hcs (anu φ a p m) (Ab hm (Ab (by rw [hp]; rfl) (Ab (by rw [ha]; rfl) rfl))) rfl rfl
  | false =>
  cases hl:ltB2 m 96 with
  | true=>exact AR (φ:=φ) hps hcs (am5 φ a p m) (Ab hl (Ab (by rw [hm]; rfl) (Ab (by rw [hp]; rfl) (Ab (by rw [ha]; rfl) rfl)))) rfl rfl
  | false =>
  have l2:=Ec hp
  have l3:m.length≤4192:=TS (n:=4192) hm
  have l4:96≤m.length:=by unfold ltB2 at hl; simp at hl; omega
  have p1:=hφ.hpu a
  have s1:=D7 m 0 32
  have s2:=D7 m 32 80
  have s3:=D7 m 80 (m.length:Int)
  have k0:=Gf φ p (φ.pu a)
  have k1:Inv (w1 φ a p m):=Bm _ k0
  have k2:Inv (w2 φ a p m):=Bj _ _ k1
  have k3:Inv (w3 φ a p m):=Gu _ k2
  have k4:Inv (w4 φ a p m):=Bj _ _ k3
  have q0:Am (ow0 φ a p m)=true:=Ab (Jw hφ _ _ k1) (Ab (Ff k0 (by omega)) (Ab (Lb l2 (by omega)) (Ab (Ed (by omega) (by omega) (by omega)) (Ab (by rw [hl]; rfl) (Ab (by rw [hm]; rfl) (Ab (by rw [hp]; rfl) (Ab (by rw [ha]; rfl) rfl)))))))
  cases h1:fB (φ.sr a (sl m 0 32)) with
  | true=>exact AR (φ:=φ) hps hcs (anq φ a p m) (Ab h1 q0) rfl rfl
  | false =>
  have q1:Am (ow1 φ a p m)=true:=Ab (aeG (Ff k2 (by omega)) (Rf (by omega))) (Ab (Ed (by omega) (by omega) (by omega)) (Ab (KW h1) q0))
  cases h2:fB (opE φ (sl m 32 80) (w2 φ a p m)) with
  | true=>exact AR (φ:=φ) hps hcs (alP φ a p m) (Ab h2 q1) rfl rfl
  | false =>
  have q2:Am (ow2 φ a p m)=true:=Ab (Jw hφ _ _ k3) (Ab (KW h2) q1)
  cases h3:fB (φ.sr a (ws φ a p m)) with
  | true=>exact AR (φ:=φ) hps hcs (alQ φ a p m) (Ab h3 q2) rfl rfl
  | false =>
  have q3:Am (ow3 φ a p m)=true:=Ab (aeG (Ff k4 (by omega)) (Rf (by omega))) (Ab (Ed (by omega) (by omega) (by omega)) (Ab (KW h3) q2))
  cases h4:fB (opE φ (sl m 80 (m.length:Int)) (w4 φ a p m)) with
  | true=>exact AR (φ:=φ) hps hcs (amk φ a p m) (Ab h4 q3) rfl rfl
  | false=>exact AR (φ:=φ) hps hcs (amg φ a p m) (Ab (KW h4) q3) rfl rfl
 ·cases hef
theorem QS:Ai Tryz.prog (csP (Al 14 (y14 φ))):=Bc fun args ef hef=>by
 have hps:Bt (psX φ) (csX φ):=A4
 unfold y14 at hef
 split at hef
 ·rename_i h ck k sa ep e t
  simp only [Option.some.injEq,Prod.mk.injEq] at hef
  obtain ⟨rfl,hg⟩:=hef
  rw [Bool.and_eq_true] at hg
  have k0:Inv ⟨h,ck,k,0⟩:=⟨Nat.eq_of_beq_eq_true hg.1,Nat.eq_of_beq_eq_true hg.2⟩
  unfold anD
  cases he:neB e 32 with
  | true=>exact AR (φ:=φ) hps hcs (amE φ ⟨h,ck,k,0⟩ sa ep e t) (Ab he rfl) rfl rfl
  | false =>
  cases ht:gtB t 4096 with
  | true=>exact AR (φ:=φ) hps hcs (amj φ ⟨h,ck,k,0⟩ sa ep e t) (Ab ht (Ab (by rw [he]; rfl) rfl)) rfl rfl
  | false =>
  have l3:=Ec ht
  have p1:=hφ.hpu e
  have k1:Inv (j1 φ ⟨h,ck,k,0⟩ e):=Bm _ k0
  have k2:Inv (j2 φ ⟨h,ck,k,0⟩ ep e):=Bj _ _ k1
  have k3:Inv (j3 φ ⟨h,ck,k,0⟩ sa ep e):=Bj _ _ k2
  have k4:Inv (j4 φ ⟨h,ck,k,0⟩ sa ep e t):=DD _ k3
  have s1:=H4 hφ t (j3 φ ⟨h,ck,k,0⟩ sa ep e)
  have q0:Am (oj0 φ ⟨h,ck,k,0⟩ ep e t)=true:=Ab (Jw hφ _ _ k1) (Ab (Ff k0 (by omega)) (Ab (by rw [ht]; rfl) (Ab (by rw [he]; rfl) rfl)))
  cases h1:fB (φ.sr e ep) with
  | true=>exact AR (φ:=φ) hps hcs (alj φ ⟨h,ck,k,0⟩ sa ep e t) (Ab h1 q0) rfl rfl
  | false =>
  have q1:Am (oj1 φ ⟨h,ck,k,0⟩ sa ep e t)=true:=Ab (Jw hφ _ _ k2) (Ab (KW h1) q0)
  cases h2:fB (φ.sr e sa) with
  | true=>exact AR (φ:=φ) hps hcs (amL φ ⟨h,ck,k,0⟩ sa ep e t) (Ab h2 q1) rfl rfl
  | false=>exact AR (φ:=φ) hps hcs (amC φ ⟨h,ck,k,0⟩ sa ep e t) (Ab (Fo (by omega)) (Ab (by rw [k4.2]; rfl) (Ab (Ff k3 (by omega)) (Ab (KW h2) q1)))) rfl rfl
 ·cases hef
theorem aey:Ai Tryz.prog (csP (Al 16 (y16 φ))):=Bc fun args ef hef=>by
 have hps:Bt (psX φ) (csX φ):=A4
 unfold y16 at hef
 split at hef
 ·rename_i h ck k se ep ot m
  simp only [Option.some.injEq,Prod.mk.injEq] at hef
  obtain ⟨rfl,hg⟩:=hef
  rw [Bool.and_eq_true] at hg
  have k0:Inv ⟨h,ck,k,0⟩:=⟨Nat.eq_of_beq_eq_true hg.1,Nat.eq_of_beq_eq_true hg.2⟩
  unfold fiD
  cases hm:gtB m 4144 with
  | true=>exact AR (φ:=φ) hps hcs (amV φ ⟨h,ck,k,0⟩ se ep ot m) (Ab hm rfl) rfl rfl
  | false =>
  cases hl:ltB2 m 48 with
  | true=>exact AR (φ:=φ) hps hcs (alq φ ⟨h,ck,k,0⟩ se ep ot m) (Ab hl (Ab (by rw [hm]; rfl) rfl)) rfl rfl
  | false =>
  have l3:m.length≤4144:=TS (n:=4144) hm
  have l4:48≤m.length:=by unfold ltB2 at hl; simp at hl; omega
  have s1:=D7 m 0 32
  have s2:=D7 m 32 (m.length:Int)
  have k1:Inv (i1 φ ⟨h,ck,k,0⟩ m):=Bm _ k0
  have k2:Inv (i2 φ ⟨h,ck,k,0⟩ ep m):=Bj _ _ k1
  have k3:Inv (i3 φ ⟨h,ck,k,0⟩ se ep m):=Bj _ _ k2
  have k4:Inv (i4 φ ⟨h,ck,k,0⟩ se ep m):=Gu _ k3
  have qs:inS m 0 32=true:=Ed (by omega) (by omega) (by omega)
  have q0:Am (oi0 φ ⟨h,ck,k,0⟩ ep m)=true:=Ab (Jw hφ _ _ k1) (Ab qs (Ab (Ff k0 (by omega)) (Ab qs (Ab (by rw [hl]; rfl) (Ab (by rw [hm]; rfl) rfl)))))
  cases h1:fB (φ.sr ep (sl m 0 32)) with
  | true=>exact AR (φ:=φ) hps hcs (amb φ ⟨h,ck,k,0⟩ se ep ot m) (Ab h1 q0) rfl rfl
  | false =>
  have q1:Am (oi1 φ ⟨h,ck,k,0⟩ se ep m)=true:=Ab (Jw hφ _ _ k2) (Ab qs (Ab (KW h1) q0))
  cases h2:fB (φ.sr se (sl m 0 32)) with
  | true=>exact AR (φ:=φ) hps hcs (amR φ ⟨h,ck,k,0⟩ se ep ot m) (Ab h2 q1) rfl rfl
  | false =>
  have q2:Am (oi2 φ ⟨h,ck,k,0⟩ se ep m)=true:=Ab (aeG (Ff k3 (by omega)) (Rf (by omega))) (Ab (Ed (by omega) (by omega) (by omega)) (Ab (KW h2) q1))
  cases h3:fB (opE φ (sl m 32 (m.length:Int)) (i3 φ ⟨h,ck,k,0⟩ se ep m)) with
  | true=>exact AR (φ:=φ) hps hcs (amm φ ⟨h,ck,k,0⟩ se ep ot m) (Ab h3 q2) rfl rfl
  | false=>exact AR (φ:=φ) hps hcs (alb φ ⟨h,ck,k,0⟩ se ep ot m) (Ab (by rw [k4.2]; rfl) (Ab (KW h3) q2)) rfl rfl
 ·cases hef
end
end Go.Proofs.YtcplgmgpagekfaaGreatDoor
namespace Go.Proofs.YtcplgmgpagekfaaGreatDoor
open Go Go.Eng Go.Num Go.Bla
structure OkY (φ:Fz):Prop extends OkZ φ where
 hse:∀ k a t,k.length=32→a.length=32→t.length≤5000→φ.se k φ.no a t=0
theorem aiZ {x y:Int}(h:eI x y=true):x=y:=by unfold eI at h; simpa using h
theorem K2 {x:Int}(h:fB x=false):x=0:=by
 unfold fB at h
 cases hx:eI x 0 with
 | true=>exact aiZ hx
 | false=>rw [hx] at h; cases h
theorem KI {x:Int}(h:fB x=true):eI x 0=false∧x ≠ 0:=by
 unfold fB at h
 cases hx:eI x 0 with
 | true=>rw [hx] at h; cases h
 | false=>exact ⟨rfl,fun e=>by subst e; cases hx⟩
theorem Gz {x:Int}(h:x ≠ 0):eI x 0=false:=by unfold eI; simpa using h
theorem FQ {φ:Fz}{s:St}{a b:L8}(h:s.f=0) (hr:φ.sr a b=0):Fc φ a b s=CZ φ a b s:=by
 unfold Fc CZ
 rw [h,hr]
 rfl
theorem Lv {φ:Fz}{s:St}{a b:L8}(hr:φ.sr a b=0):(CZ φ a b s).k.length=32:=by
 unfold CZ
 rw [hr]
 exact Cx _
theorem Jk {φ:Fz}{s:St}{a b:L8}(h:s.f=0) (hr:φ.sr a b ≠ 0):(Fc φ a b s).f=φ.sr a b:=by
 unfold Fc
 rw [h,Gz hr]
 rfl
theorem Dt {φ:Fz}{s:St}{a b:L8}(h:s.f ≠ 0):Fc φ a b s=s:=by
 unfold Fc
 rw [Gz h]
 rfl
theorem aa5 {s:St}(h:s.f=0):Oe s 0=s:=by
 cases s
 simp only at h
 subst h
 rfl
theorem NW {φ:Fz}{s:St}{t:L8}(h:s.f=0) (he:φ.se s.k φ.no s.h t=0):Ft φ t s=GF φ t s∧seC φ t s=svT φ t s:=by
 unfold Ft seC GF svT
 rw [h,he,aa5 h]
 exact ⟨rfl,rfl⟩
theorem Ld {φ:Fz}{s:St}{t:L8}(h:s.f ≠ 0):Ft φ t s=s:=by
 unfold Ft
 rw [Gz h]
 rfl
theorem M6 {φ:Fz}{s:St}{c:L8}(h:s.f=0) (he:opE φ c s=0):DU φ c s=FK φ c s∧opC φ c s=opX φ c s:=by
 have he':=he
 unfold opE at he'
 unfold DU opC FK opX
 rw [h,he,he',aa5 h]
 cases s
 simp only at h
 subst h
 exact ⟨rfl,rfl⟩
theorem QM {φ:Fz}{s:St}{c:L8}(h:s.f=0) (he:opE φ c s ≠ 0):(DU φ c s).f=opE φ c s:=by
 unfold DU
 rw [h]
 rfl
theorem IZ {φ:Fz}{s:St}{c:L8}(h:s.f ≠ 0):DU φ c s=s:=by
 unfold DU
 rw [Gz h]
 rfl
section
variable {φ:Fz}(hφ:OkY φ)
include hφ
theorem begin_cases (a o e p t:L8):(∃ c:Int,c ≠ 0∧bgE φ a o e p t=lkE (.tup [.nilPtr,.str [],.int .i64 c])∧bgD φ a o e p t=.tup [hf0,.str [],.int .i64 c]) ∨
  ∃ (s:St) (m:L8),Inv s∧s.f=0∧m.length≤64+16+16+t.length∧bgE φ a o e p t=mkT 0 Bb (stC s++exC 2 a e o) (fun b=>.tup [.ptr b 0,.str m,.int .i64 0])∧bgD φ a o e p t=.tup [hfD s a e o,.str m,.int .i64 0]:=by
 unfold bgE bgD
 cases h1:(neB a 32 || (neB o 32 || neB e 32)) with
 | true=>exact .inl ⟨2,by decide,rfl,rfl⟩
 | false =>
 cases h2:(gtB p 4096 || gtB t 4096) with
 | true=>exact .inl ⟨4,by decide,rfl,rfl⟩
 | false =>
 simp only [cond_false]
 rw [Bool.or_eq_false_iff] at h2
 have l3:=Ec h2.2
 have i0:=Gf φ p o
 have f1:(b1 φ a o e p t).f=0:=rfl
 have i1:Inv (b1 φ a o e p t):=Bm _ i0
 have z1e:b1 φ a o e p t=z1 φ o e p:=rfl
 have pa:=hφ.hpu a
 cases h3:fB (φ.sr e o) with
 | true =>
  obtain ⟨_,h3n⟩:=KI h3
  have g2:(b2 φ a o e p t).f=φ.sr e o:=Jk f1 h3n
  have n2:(b2 φ a o e p t).f ≠ 0:=by rw [g2]; exact h3n
  have e3:b3 φ a o e p t=b2 φ a o e p t:=Ld n2
  have e4:b4 φ a o e p t=b2 φ a o e p t:=by unfold b4; rw [e3]; exact Dt n2
  have e5:b5 φ a o e p t=b2 φ a o e p t:=by unfold b5; rw [e4]; exact Ld n2
  rw [e5,g2,Gz h3n]
  exact .inl ⟨_,h3n,rfl,rfl⟩
 | false =>
 have h30:=K2 h3
 have e2:b2 φ a o e p t=z2 φ o e p:=by unfold b2 z2; rw [z1e]; exact FQ rfl h30
 have k2:(z2 φ o e p).k.length=32:=Lv h30
 have f2:(z2 φ o e p).f=0:=rfl
 have q2:Inv (z2 φ o e p):=Bj _ _ (Bm _ i0)
 have s3:=NW (φ:=φ) (s:=z2 φ o e p) (t:=φ.pu a) f2 (hφ.hse _ _ _ k2 q2.1 (by omega))
 have e3:b3 φ a o e p t=z3 φ a o e p:=by unfold b3; rw [e2]; exact s3.1
 have f3:(z3 φ a o e p).f=0:=rfl
 simp only [cond_false]
 cases h4:fB (φ.sr a o) with
 | true =>
  obtain ⟨_,h4n⟩:=KI h4
  have g4:(b4 φ a o e p t).f=φ.sr a o:=by unfold b4; rw [e3]; exact Jk f3 h4n
  have n4:(b4 φ a o e p t).f ≠ 0:=by rw [g4]; exact h4n
  have e5:b5 φ a o e p t=b4 φ a o e p t:=Ld n4
  rw [e5,g4,Gz h4n]
  exact .inl ⟨_,h4n,rfl,rfl⟩
 | false =>
 have h40:=K2 h4
 have e4:b4 φ a o e p t=z4 φ a o e p:=by unfold b4 z4; rw [e3]; exact FQ f3 h40
 have k4:(z4 φ a o e p).k.length=32:=Lv h40
 have f4:(z4 φ a o e p).f=0:=rfl
 have q4:Inv (z4 φ a o e p):=Bj _ _ (DD _ q2)
 have s5:=NW (φ:=φ) (s:=z4 φ a o e p) (t:=t) f4 (hφ.hse _ _ _ k4 q4.1 (by omega))
 have e5:b5 φ a o e p t=z5 φ a o e p t:=by unfold b5; rw [e4]; exact s5.1
 have em:m2 φ a o e p t=zm φ a o e p t:=by unfold m2 m1 zm; rw [e2,e4,s3.2,s5.2]
 have f5:(z5 φ a o e p t).f=0:=rfl
 have i5:Inv (z5 φ a o e p t):=DD _ (Bj _ _ (DD _ (Bj _ _ (Bm _ i0))))
 refine .inr ⟨z5 φ a o e p t,zm φ a o e p t,i5,f5,?_,?_,rfl⟩
 ·unfold zm
  have q1:=hφ.hpu e
  have q2:=H4 hφ.toOkZ (φ.pu a) (z2 φ o e p)
  have q3:=H4 hφ.toOkZ t (z4 φ a o e p)
  rw [List.length_append,List.length_append]
  have:=hφ.hpu a
  omega
 ·rw [e5,em,f5]
  rfl
omit hφ in
theorem read_cases (a p m:L8):(∃ c:Int,c ≠ 0∧rdE φ a p m=lkE (.tup [.nilPtr,.agg AE,.int .i64 c])∧rdD φ a p m=.tup [ot0,.agg AE,.int .i64 c]) ∨
  ∃ (s:St) (sa ep pay:L8),Inv s∧s.f=0∧96≤m.length∧rdE φ a p m=mkT 0 Bb (stC s++exC 1 sa ep []) (fun b=>.tup [.ptr b 0,.agg (AC sa pay [] [] []),.int .i64 0])∧rdD φ a p m=.tup [otD s sa ep,.agg (AC sa pay [] [] []),.int .i64 0]:=by
 unfold rdE rdD
 cases h1:neB a 32 with
 | true=>exact .inl ⟨2,by decide,rfl,rfl⟩
 | false =>
 cases h2:(gtB p 4096 || gtB m 4192) with
 | true=>exact .inl ⟨4,by decide,rfl,rfl⟩
 | false =>
 cases h3:ltB2 m 96 with
 | true=>exact .inl ⟨7,by decide,rfl,rfl⟩
 | false =>
 have l4:96≤m.length:=by unfold ltB2 at h3; simp at h3; omega
 simp only [cond_false]
 have i0:=Gf φ p (φ.pu a)
 have w1e:g1 φ a p m=w1 φ a p m:=rfl
 have f1:(w1 φ a p m).f=0:=rfl
 cases h5:fB (φ.sr a (sl m 0 32)) with
 | true =>
  obtain ⟨_,hn⟩:=KI h5
  have g2f:(g2 φ a p m).f=φ.sr a (sl m 0 32):=by unfold g2; rw [w1e]; exact Jk f1 hn
  have n2:(g2 φ a p m).f ≠ 0:=by rw [g2f]; exact hn
  have e3:g3 φ a p m=g2 φ a p m:=IZ n2
  have e4:g4 φ a p m=g2 φ a p m:=by unfold g4; rw [e3]; exact Dt n2
  have e5:g5 φ a p m=g2 φ a p m:=by unfold g5; rw [e4]; exact IZ n2
  rw [e5,g2f,Gz hn]
  exact .inl ⟨_,hn,rfl,rfl⟩
 | false =>
 have h50:=K2 h5
 have e2:g2 φ a p m=w2 φ a p m:=by unfold g2 w2; rw [w1e]; exact FQ f1 h50
 have f2:(w2 φ a p m).f=0:=rfl
 simp only [cond_false]
 cases h6:fB (opE φ (sl m 32 80) (w2 φ a p m)) with
 | true =>
  obtain ⟨_,hn⟩:=KI h6
  have g3f:(g3 φ a p m).f=opE φ (sl m 32 80) (w2 φ a p m):=by unfold g3; rw [e2]; exact QM f2 hn
  have n3:(g3 φ a p m).f ≠ 0:=by rw [g3f]; exact hn
  have e4:g4 φ a p m=g3 φ a p m:=Dt n3
  have e5:g5 φ a p m=g3 φ a p m:=by unfold g5; rw [e4]; exact IZ n3
  rw [e5,g3f,Gz hn]
  exact .inl ⟨_,hn,rfl,rfl⟩
 | false =>
 have h60:=K2 h6
 have o3:=M6 (φ:=φ) (s:=w2 φ a p m) (c:=sl m 32 80) f2 h60
 have e3:g3 φ a p m=w3 φ a p m:=by unfold g3; rw [e2]; exact o3.1
 have es:sta φ a p m=ws φ a p m:=by unfold sta; rw [e2]; exact o3.2
 have f3:(w3 φ a p m).f=0:=rfl
 simp only [cond_false]
 cases h7:fB (φ.sr a (ws φ a p m)) with
 | true =>
  obtain ⟨_,hn⟩:=KI h7
  have g4f:(g4 φ a p m).f=φ.sr a (ws φ a p m):=by unfold g4; rw [e3,es]; exact Jk f3 hn
  have n4:(g4 φ a p m).f ≠ 0:=by rw [g4f]; exact hn
  have e5:g5 φ a p m=g4 φ a p m:=IZ n4
  rw [e5,g4f,Gz hn]
  exact .inl ⟨_,hn,rfl,rfl⟩
 | false =>
 have h70:=K2 h7
 have e4:g4 φ a p m=w4 φ a p m:=by unfold g4 w4; rw [e3,es]; exact FQ f3 h70
 have f4:(w4 φ a p m).f=0:=rfl
 simp only [cond_false]
 cases h8:fB (opE φ (sl m 80 (m.length:Int)) (w4 φ a p m)) with
 | true =>
  obtain ⟨_,hn⟩:=KI h8
  have g5f:(g5 φ a p m).f=opE φ (sl m 80 (m.length:Int)) (w4 φ a p m):=by unfold g5; rw [e4]; exact QM f4 hn
  rw [g5f,Gz hn]
  exact .inl ⟨_,hn,rfl,rfl⟩
 | false =>
 have h80:=K2 h8
 have o5:=M6 (φ:=φ) (s:=w4 φ a p m) (c:=sl m 80 (m.length:Int)) f4 h80
 have e5:g5 φ a p m=w5 φ a p m:=by unfold g5; rw [e4]; exact o5.1
 have ep:pay φ a p m=wt φ a p m:=by unfold pay; rw [e4]; exact o5.2
 have i5:Inv (w5 φ a p m):=Gu _ (Bj _ _ (Gu _ (Bj _ _ (Bm _ i0))))
 refine .inr ⟨w5 φ a p m,ws φ a p m,sl m 0 32,wt φ a p m,i5,rfl,l4,?_,rfl⟩
 rw [e5,es,ep]
 rfl
omit hφ in
theorem acV {s:St}(h:Inv s):noB s.h=false:=by
 have:=h.1
 unfold noB
 cases hs:s.h with
 | nil=>rw [hs] at this; cases this
 | cons x l=>rfl
theorem Rp {s:St}(hi:Inv s) (hf:s.f=0) (sa ep e t:L8):anV φ s sa ep e t=anD φ s sa ep e t:=by
 unfold anV anD
 rw [acV hi,cond_false]
 cases h1:neB e 32 with
 | true=>rfl
 | false =>
 cases h2:gtB t 4096 with
 | true=>rfl
 | false =>
 have l3:=Ec h2
 simp only [cond_false]
 have ez:(⟨s.h,s.ck,s.k,0⟩:St)=s:=by cases s; simp only at hf; subst hf; rfl
 have u1e:u1 φ s e=j1 φ s e:=by unfold u1 j1; rw [ez]
 have f1:(u1 φ s e).f=0:=hf
 cases h3:fB (φ.sr e ep) with
 | true =>
  obtain ⟨_,hn⟩:=KI h3
  have g2f:(u2 φ s ep e).f=φ.sr e ep:=Jk f1 hn
  have n2:(u2 φ s ep e).f ≠ 0:=by rw [g2f]; exact hn
  have e3:u3 φ s sa ep e=u2 φ s ep e:=Dt n2
  have e4:u4 φ s sa ep e t=u2 φ s ep e:=by unfold u4; rw [e3]; exact Ld n2
  rw [e4,g2f,Gz hn]
  rfl
 | false =>
 have h30:=K2 h3
 have e2:u2 φ s ep e=j2 φ s ep e:=by unfold u2 j2; rw [← u1e]; exact FQ f1 h30
 have f2:(j2 φ s ep e).f=0:=rfl
 simp only [cond_false]
 cases h4:fB (φ.sr e sa) with
 | true =>
  obtain ⟨_,hn⟩:=KI h4
  have g3f:(u3 φ s sa ep e).f=φ.sr e sa:=by unfold u3; rw [e2]; exact Jk f2 hn
  have n3:(u3 φ s sa ep e).f ≠ 0:=by rw [g3f]; exact hn
  have e4:u4 φ s sa ep e t=u3 φ s sa ep e:=Ld n3
  rw [e4,g3f,Gz hn]
  rfl
 | false =>
 have h40:=K2 h4
 have e3:u3 φ s sa ep e=j3 φ s sa ep e:=by unfold u3 j3; rw [e2]; exact FQ f2 h40
 have k3:(j3 φ s sa ep e).k.length=32:=Lv h40
 have q3:Inv (j3 φ s sa ep e):=Bj _ _ (Bj _ _ (Bm _ (aia hi)))
 have s4:=NW (φ:=φ) (s:=j3 φ s sa ep e) (t:=t) rfl (hφ.hse _ _ _ k3 q3.1 (by omega))
 have e4:u4 φ s sa ep e t=j4 φ s sa ep e t:=by unfold u4; rw [e3]; exact s4.1
 have em:um φ s sa ep e t=φ.pu e++svT φ t (j3 φ s sa ep e):=by unfold um uc; rw [e3,s4.2]
 rw [e4,em]
 rfl
omit hφ in
theorem Kn {s:St}(hi:Inv s) (hf:s.f=0) (se ep ot m:L8):fiV φ s se ep ot m=fiD φ s se ep ot m:=by
 unfold fiV fiD
 rw [acV hi,cond_false]
 cases h1:gtB m 4144 with
 | true=>rfl
 | false =>
 cases h2:ltB2 m 48 with
 | true=>rfl
 | false =>
 simp only [cond_false]
 have ez:(⟨s.h,s.ck,s.k,0⟩:St)=s:=by cases s; simp only at hf; subst hf; rfl
 have v1e:v1 φ s m=i1 φ s m:=by unfold v1 i1; rw [ez]
 have f1:(v1 φ s m).f=0:=hf
 cases h3:fB (φ.sr ep (sl m 0 32)) with
 | true =>
  obtain ⟨_,hn⟩:=KI h3
  have g2f:(v2 φ s ep m).f=φ.sr ep (sl m 0 32):=Jk f1 hn
  have n2:(v2 φ s ep m).f ≠ 0:=by rw [g2f]; exact hn
  have e3:v3 φ s se ep m=v2 φ s ep m:=Dt n2
  have e4:v4 φ s se ep m=v2 φ s ep m:=by unfold v4; rw [e3]; exact IZ n2
  rw [e4,g2f,Gz hn]
  rfl
 | false =>
 have h30:=K2 h3
 have e2:v2 φ s ep m=i2 φ s ep m:=by unfold v2 i2; rw [← v1e]; exact FQ f1 h30
 have f2:(i2 φ s ep m).f=0:=rfl
 simp only [cond_false]
 cases h4:fB (φ.sr se (sl m 0 32)) with
 | true =>
  obtain ⟨_,hn⟩:=KI h4
  have g3f:(v3 φ s se ep m).f=φ.sr se (sl m 0 32):=by unfold v3; rw [e2]; exact Jk f2 hn
  have n3:(v3 φ s se ep m).f ≠ 0:=by rw [g3f]; exact hn
  have e4:v4 φ s se ep m=v3 φ s se ep m:=IZ n3
  rw [e4,g3f,Gz hn]
  rfl
 | false =>
 have h40:=K2 h4
 have e3:v3 φ s se ep m=i3 φ s se ep m:=by unfold v3 i3; rw [e2]; exact FQ f2 h40
 simp only [cond_false]
 cases h5:fB (opE φ (sl m 32 (m.length:Int)) (i3 φ s se ep m)) with
 | true =>
  obtain ⟨_,hn⟩:=KI h5
  have g4f:(v4 φ s se ep m).f=opE φ (sl m 32 (m.length:Int)) (i3 φ s se ep m):=by unfold v4; rw [e3]; exact QM rfl hn
  rw [g4f,Gz hn]
  rfl
 | false =>
 have h50:=K2 h5
 have o4:=M6 (φ:=φ) (s:=i3 φ s se ep m) (c:=sl m 32 (m.length:Int)) rfl h50
 have e4:v4 φ s se ep m=i4 φ s se ep m:=by unfold v4; rw [e3]; exact o4.1
 have ec:vc φ s se ep m=ic φ s se ep m:=by unfold vc; rw [e3]; exact o4.2
 rw [e4,ec]
 rfl
end
end Go.Proofs.YtcplgmgpagekfaaGreatDoor
namespace Go.Proofs.YtcplgmgpagekfaaGreatDoor
open Go Go.Eng Go.Num Go.Bla
theorem x17 (c:UInt8):(Au Tryz.prog Bn (mask 17) 200 17 [.u8 c] [] 1).map (·.1)=some (.str (List.replicate 31 0++[c])):=by kernel_rfl
def c17:List AVal→Option EffA
 | [.u8 c]=>some (.pure (.str (List.replicate 31 0++[c])))
 | _=>none
theorem QP:Ai Tryz.prog (Ag 17 c17):=Ak fun args e he=>by
 unfold c17 at he
 split at he
 ·cases he; exact Ac (A7 _) AB (by rw [gl1]; exact x17 _) rfl rfl
 ·cases he
def wr (x y:Int):Int:=IntKind.wrap .i64 (x+y)
def lgB (a b e f p o t:L8):Bool:=decide ((1024:Int) < wr (wr (wr (wr (wr (wr (a.length:Int) (b.length:Int)) (e.length:Int)) (f.length:Int)) (p.length:Int)) (o.length:Int)) (t.length:Int))
theorem x5 (a b e f p o t:L8):(Au Tryz.prog Bn (mask 5) 200 5 [.agg [.str a,.str b,.str e,.str f,.str p,.str o,.str t]] [] 1).map (·.1)=some (.bool (lgB a b e f p o t)):=by kernel_rfl
def c5:List AVal→Option EffA
 | [.agg [.str a,.str b,.str e,.str f,.str p,.str o,.str t]]=>some (.pure (.bool (lgB a b e f p o t)))
 | _=>none
theorem ah2:Ai Tryz.prog (Ag 5 c5):=Ak fun args e he=>by
 unfold c5 at he
 split at he
 ·cases he; exact Ac (A7 _) AB (by rw [gl1]; exact x5 _ _ _ _ _ _ _) rfl rfl
 ·cases he
def pX (X:L8) (m:Nat) (x:UInt8):List AVal:=B4 (X.map .u8) (0+((m:Int).toNat * 1)) (AA (.u8 x))
def qB (X:L8) (m:Nat):Bool:=decide (0≤(m:Int)) && decide ((m:Int) < (X.length:Int))
def qW (y:Int):Nat:=BitVec.toNat ((BitVec.ofInt (IntKind.bits .i64) y) &&& (BitVec.ofInt (IntKind.bits .i64) 16777215))
def qZ (X:L8) (y:Int) (m:Nat):Bool:=eqS (.int .i64 (Int.tmod (IntKind.wrap .i64 (qW y:Int)) (X.length:Int))) (.int .i64 (m:Int))
def qD (X:L8) (m:Nat) (x:UInt8) (d:L8):Bool:=strAt (pX X m x) 0 X.length d
theorem aml (s:L8) (y:Int) (b:UInt8):AL (An Tryz.prog AP Bn [10] [true] [] (mask 10) 200 10 [.str s,.int .i64 y,.u8 b] [] 1)=some (.str s,[noB s]):=by kernel_rfl
theorem amw (s:L8) (y:Int) (b g:UInt8) (m:Nat) (d:L8):AL (An Tryz.prog AP Bn [10,18,200018,23,24,27,100027,29] [false] [.int .i64 (m:Int),.u8 g,.str d] (mask 10) 200 10 [.str s,.int .i64 y,.u8 b] [] 1)=some (.str d,[qD s m (g ^^^ b) d,Nat.ble ((0+((m:Int).toNat * 1))+(AA (.u8 (g ^^^ b))).length) (s.map AVal.u8).length,qB s m,isAt (s.map .u8) (0+((m:Int).toNat * 1)) (.u8 g),qB s m,qZ s y m,!((s.length:Int) == 0),!(noB s)]):=by kernel_rfl
def tuF (s:L8) (y:Int) (b:UInt8):L8:=cond (noB s) s (s.set (qW y % s.length) (s.getD (qW y % s.length) 0 ^^^ b))
theorem VD (L:List UInt8) (o m:Nat) (h:o+m≤L.length):strAt (L.map .u8) o m ((L.drop o).take m)=true:=by
 unfold strAt
 rw [← List.map_drop,← List.map_take,Lg,List.length_map,Nat.ble_eq_true_of_le h]
 simp
theorem aip (X:List UInt8){m:Nat}(x:UInt8) (h:m < X.length):pX X m x=(X.set m x).map .u8:=by
 unfold pX
 rw [Int.toNat_natCast,Nat.mul_one,Nat.zero_add]
 exact V8 .u8 X m x h
theorem akS (y:Int):qW y≤16777215:=by
 unfold qW
 rw [BitVec.toNat_and]
 exact Nat.le_trans Nat.and_le_right (Nat.le_of_eq (by decide))
def c10:List AVal→Option EffA
 | [.str s,.int .i64 y,.u8 b]=>some (.pure (.str (tuF s y b)))
 | _=>none
theorem I8:Ai Tryz.prog (Ag 10 c10):=Ak fun args e he=>by
 unfold c10 at he
 split at he
 ·rename_i s y b
  cases he
  cases hs:noB s with
  | true =>
   have e0:tuF s y b=s:=by unfold tuF; rw [hs]; rfl
   rw [e0]
   exact Ac (A7 _) AB (by rw [gl1]; exact Aj (Ao _) (aml s y b) (Ab hs rfl)) rfl rfl
  | false =>
   have hl:0 < s.length:=by
    cases s with
    | nil=>cases hs
    | cons x l=>simp
   have hm:qW y % s.length < s.length:=Nat.mod_lt _ hl
   have hq:=akS y
   have e0:tuF s y b=s.set (qW y % s.length) (s.getD (qW y % s.length) 0 ^^^ b):=by unfold tuF; rw [hs]; rfl
   rw [e0]
   generalize hmd:qW y % s.length=m at hm
   obtain ⟨g,hg⟩:∃ g,s[m]? = some g:=⟨_,List.getElem?_eq_getElem hm⟩
   have eg:s.getD m 0=g:=by rw [List.getD_eq_getElem?_getD,hg]; rfl
   rw [eg]
   have q1:qD s m (g ^^^ b) (s.set m (g ^^^ b))=true:=by
    unfold qD
    rw [aip _ _ hm]
    have:=VD (s.set m (g ^^^ b)) 0 s.length (by rw [List.length_set]; omega)
    rwa [List.drop_zero,List.take_of_length_le (by rw [List.length_set]; exact Nat.le_refl _)] at this
   have q5:qB s m=true:=by unfold qB; simp only [Bool.and_eq_true,decide_eq_true_eq]; omega
   have q6:isAt (s.map .u8) (0+((m:Int).toNat * 1)) (.u8 g)=true:=JZ (by rw [Int.toNat_natCast,Nat.mul_one,Nat.zero_add,List.getElem?_map,hg]; rfl) (by simp [eqS])
   have q7:Nat.ble ((0+((m:Int).toNat * 1))+(AA (.u8 (g ^^^ b))).length) (s.map AVal.u8).length=true:=by
    rw [Int.toNat_natCast,Nat.mul_one,Nat.zero_add,List.length_map]
    exact Nat.ble_eq_true_of_le hm
   have q8:qZ s y m=true:=by
    unfold qZ
    rw [CK _ (by omega) (by omega),← Int.ofNat_tmod,hmd]
    simp [eqS]
   have q9:(!((s.length:Int) == 0))=true:=by
    rw [Bool.not_eq_true',beq_eq_false_iff_ne]
    omega
   exact Ac (A7 _) AB (by rw [gl1]; exact Aj (Ao _) (amw s y b g m _) (Ab q1 (Ab q7 (Ab q5 (Ab q6 (Ab q5 (Ab q8 (Ab q9 (Ab (by rw [hs]; rfl) rfl)))))))) ) rfl rfl
 ·cases he
end Go.Proofs.YtcplgmgpagekfaaGreatDoor
namespace Go.Proofs.YtcplgmgpagekfaaGreatDoor
open Go Go.Eng Go.Num Go.Bla
noncomputable def c6:List AVal→Option EffA
 | []=>some (lkE (.bool true))
 | _=>none
noncomputable def psL (φ:Fz):PS:=Bi (Al 14 (y14 φ)) (Al 16 (y16 φ))
noncomputable def ak7 (φ:Fz):CS:=At (Ag 5 c5) (At (Ag 10 c10) (At (Ag 9 (y9 φ)) (At (Ag 12 (y12 φ)) (At (Ag 8 (c8 φ)) (At (Ag 11 (c11 φ)) (At (Ag 13 (c13 φ)) (At (Ag 15 (c15 φ)) (At (Ag 7 (x7 φ)) (Ag 6 c6)))))))))
noncomputable def csL (φ:Fz):CS:=At (csP (psL φ)) (ak7 φ)
def neI (x y:Int):Bool:=!(eI x y)
def rB (a b e f p o t:L8):AVal:=.agg [.str a,.str b,.str e,.str f,.str p,.str o,.str t]
def pbW (φ:Fz) (b:L8) (w:Bool):L8:=cond w b (φ.pu b)
end Go.Proofs.YtcplgmgpagekfaaGreatDoor
