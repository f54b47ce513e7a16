/- Texts Sg3, Sg4, Sg5, Sg6, Sg7, Sg8, GSp1, Sg9, Sg10, Sg11, Sg12: what they show that this claim uses. -/
import Derived.Test.YtcjkbimdmcfppaaGreatDoorS9
import Derived.Test.YtcjkbimdmcfppaaGreatDoorS10
set_option maxRecDepth 100000
set_option maxHeartbeats 1000000
set_option linter.unusedVariables false
set_option linter.unusedSimpArgs false
namespace Go.Proofs.YtcjkbimdmcfppaaGreatDoor
open Go Go.Eng Go.Num Sha
structure Fz where
 canon:List UInt8→Bool
 canonQ:List UInt8→Bool
 clamp:List UInt8→List UInt8
 clampE:List UInt8→Int
 clampQ:List UInt8→List UInt8
 nadd:N16→N16→N16
 nmul:N16→N16→N16
 nby:N16→List UInt8
def realFz:Fz:=⟨canonW,canonN,clampV,clampE,clampL,addN,mulN,bytesN⟩
theorem fz_nadd:realFz.nadd=addN:=by simp only [realFz]
theorem fz_nmul:realFz.nmul=mulN:=by simp only [realFz]
theorem fz_nby:realFz.nby=bytesN:=by simp only [realFz]
def z27 (ζ:Fz):List AVal→Option EffA
 | [a,b]=>match nOf a,nOf b with
  | some x0,some x1=>some (.pure (N16.av (ζ.nadd x0 x1)))
  | _,_=>none
 | _=>none
theorem z27_ok:CSOk Tryz.prog (csOne 27 (z27 realFz)):=csOne_ok fun args e he=>by
 unfold z27 at he
 split at he
 ·split at he
  ·rename_i x0 x1 h0 h1
   cases he
   rw [nOf_eq h0,nOf_eq h1,fz_nadd]
   have r:=run27 x0 x1
   generalize addN x0 x1=y at r ⊢
   exact callOk_val cr2i_ok hmix r rfl rfl
  ·cases he
 ·cases he
def z28 (ζ:Fz):List AVal→Option EffA
 | [a,b]=>match nOf a,nOf b with
  | some x0,some x1=>some (.pure (N16.av (ζ.nmul x0 x1)))
  | _,_=>none
 | _=>none
theorem z28_ok:CSOk Tryz.prog (csOne 28 (z28 realFz)):=csOne_ok fun args e he=>by
 unfold z28 at he
 split at he
 ·split at he
  ·rename_i x0 x1 h0 h1
   cases he
   rw [nOf_eq h0,nOf_eq h1,fz_nmul]
   have r:=run28 x0 x1
   generalize mulN x0 x1=y at r ⊢
   exact callOk_val cr2i_ok hmix r rfl rfl
  ·cases he
 ·cases he
def z29 (ζ:Fz):List AVal→Option EffA
 | [a]=>match nOf a with
  | some x0=>some (.pure (.str (ζ.nby x0)))
  | _=>none
 | _=>none
theorem z29_ok:CSOk Tryz.prog (csOne 29 (z29 realFz)):=csOne_ok fun args e he=>by
 unfold z29 at he
 split at he
 ·split at he
  ·rename_i x0 h0
   cases he
   rw [nOf_eq h0,fz_nby]
   exact callOk_val cs0_ok hmix (run29 x0) rfl rfl
  ·cases he
 ·cases he
def z30 (ζ:Fz):List AVal→Option EffA
 | [.str s]=>some (.pure (.bool (ζ.canon s)))
 | _=>none
theorem z30_ok:CSOk Tryz.prog (csOne 30 (z30 realFz)):=g30_ok
def z36 (ζ:Fz):List AVal→Option EffA
 | [.str s]=>some (.pure (.bool (ζ.canonQ s)))
 | _=>none
theorem z36_ok:CSOk Tryz.prog (csOne 36 (z36 realFz)):=g36_ok
def z42 (ζ:Fz):List AVal→Option EffA
 | [.str s]=>some (.pure (.tup [.str (ζ.clamp s),.int .i64 (ζ.clampE s)]))
 | _=>none
theorem z42_ok:CSOk Tryz.prog (csOne 42 (z42 realFz)):=g42_ok
def z43 (ζ:Fz):List AVal→Option (EffA × Bool)
 | [.str s]=>some (.pure (.str (ζ.clampQ s)),isLen s 32)
 | _=>none
theorem z43_ok:CSOk Tryz.prog (csP (psOne 43 (z43 realFz))):=p43_ok
def csz (ζ:Fz):CS:=csAlt (csOne 27 (z27 ζ)) (csAlt (csOne 28 (z28 ζ)) (csAlt (csOne 29 (z29 ζ)) (csAlt (csOne 30 (z30 ζ)) (csAlt (csOne 36 (z36 ζ)) (csOne 42 (z42 ζ))))))
theorem csz_ok:CSOk Tryz.prog (csz realFz):=csAlt_ok z27_ok (csAlt_ok z28_ok (csAlt_ok z29_ok (csAlt_ok z30_ok (csAlt_ok z36_ok z42_ok))))
def psx (ω:Fw) (φ:Fi) (ζ:Fz):PS:=psAlt (psOne 43 (z43 ζ)) (psAlt (psW ω) (psnj φ))
def csx (ω:Fw) (φ:Fi) (ζ:Fz):CS:=csAlt (csz ζ) (csAlt (csW ω) (chnj φ))
def nx (ω:Fw) (φ:Fi) (ζ:Fz):CS:=csAlt (csP (psx ω φ ζ)) (csx ω φ ζ)
theorem nx_ps (ω:Fw) (φ:Fi) (ζ:Fz):PSOk (psx ω φ ζ) (nx ω φ ζ):=csP_ok
theorem csAlt_l {P:Program}{a b:CS}(h:CSOk P (csAlt a b)):CSOk P a:=fun f args e he=>h f args e (by unfold csAlt; rw [he])
theorem csW_ok:CSOk Tryz.prog (csW ωr):=csAlt_ok (callOk13 φr nr_ok) (csAlt_ok (callOk15 φr nr_ok) (csAlt_ok (callOkn14 φr nr_ok) (callOkn15 φr nr_ok)))
theorem nx_ok:CSOk Tryz.prog (nx ωr realFi realFz):=csAlt_ok (csP_alt z43_ok (csP_alt (csAlt_l nWr_ok) psnj_ok)) (csAlt_ok csz_ok (csAlt_ok csW_ok chnj_ok))
def tabL (v:(Nat→UInt64)→Option AVal):EffA:=.look 2 (tabK v)
theorem tabK_cut (v:(Nat→UInt64)→Option AVal) (η:Nat→Option AObj):tabK v (cutH 2 η)=tabK v η:=rfl
theorem callOk_tabL {cs:CS}(hcs:CSOk Tryz.prog cs){f:FuncId}{args:List AVal}(hcan:canL Tryz.prog.globals.size [] args=some (args,[])){v:(Nat→UInt64)→Option AVal}
  (h:∀ g x,nU 80 g=g→v g=some x→ltV 0 x=true∧∃ F nn H' fr',run1 Tryz.prog cs nn F f args [(0,.cells true (cellsU 80 g))] 2=some (x,H',fr')):CallOk Tryz.prog f args (tabL v):=
 callOk_same2 (callOk_tabK hcs hcan h) fun base H x H' ha=>by
  unfold tabL at ha
  simp only [EffA.app,tabK_cut] at ha
  cases hk:tabK v (aget H) with
  | none=>rw [hk] at ha; cases ha
  | some y =>
   rw [hk] at ha
   cases ha
   refine ⟨H,?_,rfl⟩
   unfold tabE
   simp only [EffA.app,hk]
   rfl
def nbK (n:Nat) (v:(Nat→UInt64)→List AVal→Option AVal) (η:Nat→Option AObj):Option AVal:=match η 0,η 1,η n with
 | some (.cells true g),none,some (.cells false c)=>cond (shG g) (v (gU g) c) none
 | _,_,_=>none
def nbE (n:Nat) (v:(Nat→UInt64)→List AVal→Option AVal):EffA:=.also 2 n (nbK n v)
theorem nbK_also (n:Nat) (v:(Nat→UInt64)→List AVal→Option AVal) (η:Nat→Option AObj):nbK n v (alsoH 2 n η)=nbK n v η:=by
 have e:alsoH 2 n η n=η n:=by unfold alsoH; rw [Nat.beq_refl,Bool.or_true]; rfl
 unfold nbK
 rw [e]
 rfl
theorem callOk_nb {cs:CS}(hcs:CSOk Tryz.prog cs){f:FuncId}{args cargs:List AVal}{n:Nat}(hcan:canL 2 [] args=some (cargs,[n])){v:(Nat→UInt64)→List AVal→Option AVal}
  (h:∀ g c x,nU 80 g=g→v g c=some x→ltL 0 c=true∧ltV 0 x=true∧∃ F nn H' fr',run1 Tryz.prog cs nn F f cargs [(0,.cells true (cellsU 80 g)),(2,.cells false c)] 3=some (x,H',fr')∧aget H' 2=some (.cells false c)):CallOk Tryz.prog f args (nbE n v):=by
 have e1:Tryz.prog.globals.size=2:=Sha.gl
 have h0:CallOk Tryz.prog f args (oneE n fun η c=>match η 0,η 1 with
   | some (.cells true g),none=>cond (shG g) (match v (gU g) c with | some x=>some (x,c) | none=>none) none
   | _,_=>none):=by
  refine callOk_one hcs hmix (by rw [e1]; exact hcan) fun η c w c' hk => ?_
  split at hk
  ·rename_i g0 h0 h00
   cases hb:shG g0 <;> rw [hb] at hk <;> simp only [cond_true,cond_false] at hk
   ·cases hk
   ·split at hk
    ·rename_i x hx
     cases hk
     have eg:=shG_ok hb
     have en:nU 80 (gU g0)=gU g0:=by
      have:gU g0=gU (cellsU 80 (gU g0)):=congrArg gU eg
      rw [gU_cellsU] at this
      exact this.symm
     obtain ⟨a,b,F,nn,H',fr',h1,h2⟩:=h (gU g0) c w en hx
     refine ⟨a,a,b,F,nn,H',fr',?_,by rw [e1]; exact h2⟩
     rw [e1]
     have hg:globA η 2 0=[(0,.cells true (cellsU 80 (gU g0)))]:=by
      have:ltL 0 g0=true:=by rw [eg]; exact ltL_U ..
      simp only [globA,h0,h00,this,cond_true]
      rw [← eg]
     rw [hg]
     exact h1
    ·cases hk
  ·cases hk
 refine callOk_same2 h0 fun base H x H' ha => ?_
 unfold nbE at ha
 simp only [EffA.app,nbK_also] at ha
 cases hk:nbK n v (aget H) with
 | none=>rw [hk] at ha; cases ha
 | some y =>
  rw [hk] at ha
  cases ha
  unfold nbK at hk
  split at hk
  ·rename_i g c h1 h2 h3
   cases hb:shG g <;> rw [hb] at hk <;> simp only [cond_true,cond_false] at hk
   ·cases hk
   ·refine ⟨aset H n (.cells false c),?_,?_⟩
    ·unfold oneE
     simp only [EffA.app,h1,h2,h3,hb,hk,cond_true,appU]
    ·funext m
     rw [aget_aset]
     split
     ·rename_i e; subst e; rw [h3]
     ·rfl
  ·cases hk
end Go.Proofs.YtcjkbimdmcfppaaGreatDoor
namespace Go.Proofs.YtcjkbimdmcfppaaGreatDoor
open Go Go.Eng Go.Num Sha
def ansH (x:Option ((AVal × HL × Nat) × List Bool)):Option (AVal × Option AObj × List Bool):=
 match x with
 | some ((v,H,_),ob)=>some (v,aget H 2,ob)
 | none=>none
def gg (g:Nat→UInt64):Nat→UInt64:=gU (cellsU 80 g)
def st1 (ω:Fw) (g:Nat→UInt64) (s:St) (a:List UInt8):St:=ω.add (gg g) (hst (stC s)) a
def nb2 (ω:Fw) (φ:Fi) (g:Nat→UInt64) (a b:List UInt8):W4:=φ.sof (ω.sum (gg g) (hst (stC (st1 ω g (st1 ω g ω.new a) b))))
def nb3 (ω:Fw) (φ:Fi) (g:Nat→UInt64) (a b c:List UInt8):W4:=φ.sof (ω.sum (gg g) (hst (stC (st1 ω g (st1 ω g (st1 ω g ω.new a) b) c))))
theorem ansH_run {ps:PS}{cs:CS}(hps:PSOk ps cs){sy:List Nat}{os:List Bool}{vs:List AVal}{nn F:Nat}{f:FuncId}{args:List AVal}{H:HL}{fr:Nat}{v:AVal}{o:Option AObj}{ob:List Bool}(h:ansH (run1O Tryz.prog ps cs sy os vs nn F f args H fr)=some (v,o,ob)) (ha:allT ob=true):∃ H' fr',run1 Tryz.prog cs nn F f args H fr=some (v,H',fr')∧aget H' 2=o:=by
 unfold ansH at h
 split at h
 ·rename_i v' H' fr' ob' hr
  simp only [Option.some.injEq,Prod.mk.injEq] at h
  obtain ⟨rfl,rfl,rfl⟩:=h
  exact ⟨H',fr',run1O_ok hps hr ha,rfl⟩
 ·cases h
theorem gg_of {g:Nat→UInt64}(h:nU 80 g=g):gg g=g:=by unfold gg; rw [gU_cellsU,h]
theorem num2 (ω:Fw) (φ:Fi) (ζ:Fz) (g:Nat→UInt64) (a b:List UInt8):ansH (run1O Tryz.prog (psx ω φ ζ) (nx ω φ ζ) [17] [] [] (mask 19) 200 19 [.slice 2 0 2 1] [(0,.cells true (cellsU 80 g)),(2,.cells false [.str a,.str b])] 3)=some ((nb2 ω φ g a b).av,some (.cells false [.str a,.str b]),[Nat.ble b.length 100000000,Nat.ble a.length 100000000]):=by kernel_rfl
theorem num3 (ω:Fw) (φ:Fi) (ζ:Fz) (g:Nat→UInt64) (a b c:List UInt8):ansH (run1O Tryz.prog (psx ω φ ζ) (nx ω φ ζ) [17] [] [] (mask 19) 200 19 [.slice 2 0 3 1] [(0,.cells true (cellsU 80 g)),(2,.cells false [.str a,.str b,.str c])] 3)=some ((nb3 ω φ g a b c).av,some (.cells false [.str a,.str b,.str c]),[Nat.ble c.length 100000000,Nat.ble b.length 100000000,Nat.ble a.length 100000000]):=by kernel_rfl
def nbV2 (v:(Nat→UInt64)→List UInt8→List UInt8→W4) (g:Nat→UInt64):List AVal→Option AVal
 | [.str a,.str b]=>cond (Nat.ble a.length 100000000 && Nat.ble b.length 100000000) (some (v g a b).av) none
 | _=>none
def nbV3 (v:(Nat→UInt64)→List UInt8→List UInt8→List UInt8→W4) (g:Nat→UInt64):List AVal→Option AVal
 | [.str a,.str b,.str c]=>cond (Nat.ble a.length 100000000 && (Nat.ble b.length 100000000 && Nat.ble c.length 100000000)) (some (v g a b c).av) none
 | _=>none
structure Fs where
 n2:(Nat→UInt64)→List UInt8→List UInt8→W4
 n3:(Nat→UInt64)→List UInt8→List UInt8→List UInt8→W4
 key:(Nat→UInt64)→List UInt8→W4
 pre:(Nat→UInt64)→List UInt8→List UInt8
 pub:(Nat→UInt64)→List UInt8→List UInt8
 kq:List UInt8→List UInt8
 pq:List UInt8→List UInt8
def y19 (σ:Fs):List AVal→Option EffA
 | [.slice n 0 2 1]=>some (nbE n (nbV2 σ.n2))
 | [.slice n 0 3 1]=>some (nbE n (nbV3 σ.n3))
 | _=>none
def dr32 (l:List UInt8):List UInt8:=List.drop (Int.toNat 32) (List.take (Int.toNat (l.length:Int)) l)
def ta32 (l:List UInt8):List UInt8:=List.drop (Int.toNat 0) (List.take (Int.toNat 32) l)
theorem dr32_eq (l:List UInt8):dr32 l=l.drop 32:=by
 unfold dr32
 rw [show Int.toNat (l.length:Int)=l.length from rfl,List.take_length]
 rfl
theorem ta32_eq (l:List UInt8):ta32 l=l.take 32:=rfl
def keyO (ω:Fw) (φ:Fi) (ζ:Fz) (g:Nat→UInt64) (l:List UInt8):W4:=φ.sof (ζ.clamp (ta32 (ω.of (gg g) l)))
def preO (ω:Fw) (g:Nat→UInt64) (l:List UInt8):List UInt8:=dr32 (ω.of (gg g) l)
def pubO (ω:Fw) (φ:Fi) (ζ:Fz) (g:Nat→UInt64) (l:List UInt8):List UInt8:=φ.bytes (φ.mul φ.base (keyO ω φ ζ g l))
def keyAv (k:W4) (p q:List UInt8):AVal:=.agg [.u64 k.x0,.u64 k.x1,.u64 k.x2,.u64 k.x3,.str p,.str q]
def ofA (l:List UInt8) (k:W4) (p q:List UInt8):AVal:=.tup [keyAv ⟨cond (isLen l 32) k.x0 0,cond (isLen l 32) k.x1 0,cond (isLen l 32) k.x2 0,cond (isLen l 32) k.x3 0⟩ (cond (isLen l 32) p []) (cond (isLen l 32) q []),.int .i64 (cond (isLen l 32) 0 2)]
def y13 (σ:Fs):List AVal→Option (EffA × Bool)
 | [.str l]=>some (tabL fun g=>some (ofA l (σ.key g l) (σ.pre g l) (σ.pub g l)),Nat.ble l.length 100000000)
 | _=>none
def y14 (σ:Fs):List AVal→Option (EffA × Bool)
 | [.str l]=>some (.pure (.tup [.str (σ.kq l),.str (σ.pq l)]),Nat.ble l.length 100000000)
 | _=>none
theorem of1 (ω:Fw) (φ:Fi) (ζ:Fz) (g:Nat→UInt64) (a:List UInt8):ansO (run1O Tryz.prog (psx ω φ ζ) (nx ω φ ζ) [9,12,15,16,21,26] [true] [] (mask 13) 200 13 [.str a] [(0,.cells true (cellsU 80 g))] 2)=some (.tup [keyAv ⟨0,0,0,0⟩ [] [],.int .i64 2],[(((List.length a:Nat):Int) != 32)]):=by kernel_rfl
theorem of2 (ω:Fw) (φ:Fi) (ζ:Fz) (g:Nat→UInt64) (a:List UInt8):ansO (run1O Tryz.prog (psx ω φ ζ) (nx ω φ ζ) [9,12,15,16,21,26] [false] [] (mask 13) 200 13 [.str a] [(0,.cells true (cellsU 80 g))] 2)=some (.tup [keyAv (keyO ω φ ζ g a) (preO ω g a) (pubO ω φ ζ g a),.int .i64 0],[((decide ((0:Int)≤32)) && ((decide (32≤((List.length (ω.of (gU (cellsU 80 g)) a):Nat):Int))) && (decide (((List.length (ω.of (gU (cellsU 80 g)) a):Nat):Int)≤((List.length (ω.of (gU (cellsU 80 g)) a):Nat):Int))))),((decide ((0:Int)≤0)) && ((decide ((0:Int)≤32)) && (decide (32≤((List.length (ω.of (gU (cellsU 80 g)) a):Nat):Int))))),(Nat.ble (List.length a) 100000000),!(((List.length a:Nat):Int) != 32)]):=by kernel_rfl
theorem parts (ω:Fw) (φ:Fi) (ζ:Fz) (a:List UInt8):ansO (run1O Tryz.prog (psx ω φ ζ) (nx ω φ ζ) [6,8,9,11] [] [] (mask 14) 200 14 [.str a] [] 2)=some (.tup [.str (ζ.clampQ (ta32 (ω.doc a))),.str (dr32 (ω.doc a))],[((decide ((0:Int)≤32)) && ((decide (32≤((List.length (ω.doc a):Nat):Int))) && (decide (((List.length (ω.doc a):Nat):Int)≤((List.length (ω.doc a):Nat):Int))))),(isLen (List.drop (Int.toNat 0) (List.take (Int.toNat 32) (ω.doc a))) 32),((decide ((0:Int)≤0)) && ((decide ((0:Int)≤32)) && (decide (32≤((List.length (ω.doc a):Nat):Int))))),(Nat.ble (List.length a) 100000000)]):=by kernel_rfl
def sgOf (ω:Fw) (φ:Fi) (ζ:Fz):Fs:=⟨nb2 ω φ,nb3 ω φ,keyO ω φ ζ,preO ω,pubO ω φ ζ,fun l=>ζ.clampQ (ta32 (ω.doc l)),fun l=>dr32 (ω.doc l)⟩
theorem y19_ok {ω:Fw}{φ:Fi}{ζ:Fz}(hn:CSOk Tryz.prog (nx ω φ ζ)):CSOk Tryz.prog (csOne 19 (y19 (sgOf ω φ ζ))):=csOne_ok fun args e he=>by
 unfold y19 at he
 split at he
 ·cases he
  refine callOk_nb hn (cargs:=[.slice 2 0 2 1]) rfl fun g c x hg hx => ?_
  unfold nbV2 at hx
  split at hx
  ·rename_i a b
   cases hb:(Nat.ble a.length 100000000 && Nat.ble b.length 100000000) <;> rw [hb] at hx
   ·cases hx
   ·cases hx
    rw [Bool.and_eq_true] at hb
    obtain ⟨H',fr',h1,h2⟩:=ansH_run (nx_ps ω φ ζ) (num2 ω φ ζ g a b) (by simp only [allT,hb.1,hb.2,cond_true])
    exact ⟨rfl,rfl,_,_,H',fr',h1,h2⟩
  ·cases hx
 ·cases he
  refine callOk_nb hn (cargs:=[.slice 2 0 3 1]) rfl fun g c x hg hx => ?_
  unfold nbV3 at hx
  split at hx
  ·rename_i a b c
   cases hb:(Nat.ble a.length 100000000 && (Nat.ble b.length 100000000 && Nat.ble c.length 100000000)) <;> rw [hb] at hx
   ·cases hx
   ·cases hx
    rw [Bool.and_eq_true,Bool.and_eq_true] at hb
    obtain ⟨H',fr',h1,h2⟩:=ansH_run (nx_ps ω φ ζ) (num3 ω φ ζ g a b c) (by simp only [allT,hb.1,hb.2.1,hb.2.2,cond_true])
    exact ⟨rfl,rfl,_,_,H',fr',h1,h2⟩
  ·cases hx
 ·cases he
theorem isLen32_iff (l:List UInt8):isLen l 32=decide ((l.length:Int)=32):=by
 unfold isLen
 rcases Nat.decEq l.length 32 with h | h
 ·rw [decide_eq_false (by omega)]
  cases hb:Nat.beq l.length 32 with
  | false=>rfl
  | true=>exact absurd (Nat.eq_of_beq_eq_true hb) h
 ·rw [h]; rfl
theorem y13_ok {ω:Fw}{φ:Fi}{ζ:Fz}(hn:CSOk Tryz.prog (nx ω φ ζ)) (h64:∀ g l,(ω.of g l).length=64):CSOk Tryz.prog (csP (psOne 13 (y13 (sgOf ω φ ζ)))):=psOne_ok fun args e h=>by
 unfold y13 at h
 split at h
 ·rename_i l
  simp only [Option.some.injEq,Prod.mk.injEq] at h
  obtain ⟨rfl,hc⟩:=h
  refine callOk_tabL hn rfl fun g x hg hx => ?_
  cases hx
  unfold ofA
  have hl:=isLen32_iff l
  cases hi:isLen l 32 with
  | false =>
   rw [hi] at hl
   obtain ⟨H',fr',hr⟩:=run_of (ansO_run (nx_ps ω φ ζ) (of1 ω φ ζ g l) (by
    have:(l.length:Int) ≠ 32:=of_decide_eq_false hl.symm
    simp [allT]; omega))
   exact ⟨rfl,_,_,H',fr',hr⟩
  | true =>
   rw [hi] at hl
   have hl':(l.length:Int)=32:=of_decide_eq_true hl.symm
   have h6:=h64 (gU (cellsU 80 g)) l
   obtain ⟨H',fr',hr⟩:=run_of (ansO_run (nx_ps ω φ ζ) (of2 ω φ ζ g l) (by
    rw [h6,hc]
    simp [allT]; omega))
   exact ⟨rfl,_,_,H',fr',hr⟩
 ·cases h
theorem y14_ok {ω:Fw}{φ:Fi}{ζ:Fz}(hn:CSOk Tryz.prog (nx ω φ ζ)) (h64:∀ l,(ω.doc l).length=64):CSOk Tryz.prog (csP (psOne 14 (y14 (sgOf ω φ ζ)))):=psOne_ok fun args e h=>by
 unfold y14 at h
 split at h
 ·rename_i l
  simp only [Option.some.injEq,Prod.mk.injEq] at h
  obtain ⟨rfl,hc⟩:=h
  have h6:=h64 l
  have hi:isLen (List.drop (Int.toNat 0) (List.take (Int.toNat 32) (ω.doc l))) 32=true:=by
   unfold isLen
   rw [show List.drop (Int.toNat 0) (List.take (Int.toNat 32) (ω.doc l))=(ω.doc l).take 32 from rfl,List.length_take,h6]
   rfl
  exact callOk_val hn hmix (ansO_run (nx_ps ω φ ζ) (parts ω φ ζ l) (by
   rw [hi,h6,hc]
   simp [allT])) rfl rfl
 ·cases h
end Go.Proofs.YtcjkbimdmcfppaaGreatDoor
namespace Go.Proofs.YtcjkbimdmcfppaaGreatDoor
open Go Go.Eng Go.Num Sha
structure Ft where
 pub:(Nat→UInt64)→List UInt8→List UInt8
 pubQ:List UInt8→List UInt8
 sgn:(Nat→UInt64)→List UInt8→List UInt8→List UInt8
 sgnQ:List UInt8→List UInt8→List UInt8
 ver:(Nat→UInt64)→List UInt8→List UInt8→List UInt8→Bool
 verQ:List UInt8→List UInt8→List UInt8→Bool
def resA2 (l x:List UInt8):AVal:=.tup [.str (cond (isLen l 32) x []),.int .i64 (cond (isLen l 32) 0 2)]
def y7 (τ:Ft):List AVal→Option (EffA × Bool)
 | [.str l]=>some (tabL fun g=>some (resA2 l (τ.pub g l)),Nat.ble l.length 100000000)
 | _=>none
def y8 (τ:Ft):List AVal→Option (EffA × Bool)
 | [.str l]=>some (.pure (resA2 l (τ.pubQ l)),Nat.ble l.length 100000000)
 | _=>none
def y9 (τ:Ft):List AVal→Option (EffA × Bool)
 | [.str l,.str s]=>some (tabL fun g=>some (resA2 l (τ.sgn g l s)),Nat.ble l.length 100000000 && Nat.ble s.length 10000000)
 | _=>none
def y10 (τ:Ft):List AVal→Option (EffA × Bool)
 | [.str l,.str s]=>some (.pure (resA2 l (τ.sgnQ l s)),Nat.ble l.length 100000000 && Nat.ble s.length 10000000)
 | _=>none
def y11 (τ:Ft):List AVal→Option (EffA × Bool)
 | [.str l,.str s,.str x]=>some (tabL fun g=>some (.bool (τ.ver g l s x)),Nat.ble l.length 10000000 && Nat.ble s.length 10000000)
 | _=>none
def y12 (τ:Ft):List AVal→Option (EffA × Bool)
 | [.str l,.str s,.str x]=>some (.pure (.bool (τ.verQ l s x)),Nat.ble l.length 10000000 && Nat.ble s.length 10000000)
 | _=>none
def psy (σ:Fs) (ω:Fw) (φ:Fi) (ζ:Fz):PS:=psAlt (psOne 13 (y13 σ)) (psAlt (psOne 14 (y14 σ)) (psx ω φ ζ))
def csy (σ:Fs) (ω:Fw) (φ:Fi) (ζ:Fz):CS:=csAlt (csOne 19 (y19 σ)) (csx ω φ ζ)
def ny (σ:Fs) (ω:Fw) (φ:Fi) (ζ:Fz):CS:=csAlt (csP (psy σ ω φ ζ)) (csy σ ω φ ζ)
theorem ny_ps (σ:Fs) (ω:Fw) (φ:Fi) (ζ:Fz):PSOk (psy σ ω φ ζ) (ny σ ω φ ζ):=csP_ok
def ps8 (τ:Ft) (σ:Fs) (ω:Fw) (φ:Fi) (ζ:Fz):PS:=psAlt (psOne 8 (y8 τ)) (psy σ ω φ ζ)
def n8y (τ:Ft) (σ:Fs) (ω:Fw) (φ:Fi) (ζ:Fz):CS:=csAlt (csP (ps8 τ σ ω φ ζ)) (csy σ ω φ ζ)
theorem n8y_ps (τ:Ft) (σ:Fs) (ω:Fw) (φ:Fi) (ζ:Fz):PSOk (ps8 τ σ ω φ ζ) (n8y τ σ ω φ ζ):=csP_ok
end Go.Proofs.YtcjkbimdmcfppaaGreatDoor
namespace Go.Proofs.YtcjkbimdmcfppaaGreatDoor
open Go Go.Eng Go.Num Sha
def kc (a:List UInt8) (k:W4):W4:=⟨cond (isLen a 32) k.x0 0,cond (isLen a 32) k.x1 0,cond (isLen a 32) k.x2 0,cond (isLen a 32) k.x3 0⟩
def sc (a p:List UInt8):List UInt8:=cond (isLen a 32) p []
def kCells (k:W4) (p q:List UInt8):List AVal:=[.u64 k.x0,.u64 k.x1,.u64 k.x2,.u64 k.x3,.str p,.str q]
def H9a (σ:Fs) (g:Nat→UInt64) (a b:List UInt8):HL:=[(0,.cells true (cellsU 80 g)),(58,.cells false (kCells (kc a (σ.key (gg g) a)) (sc a (σ.pre (gg g) a)) (sc a (σ.pub (gg g) a)))),(122,.cells false [.str (sc a (σ.pre (gg g) a)),.str b])]
def H9b (σ:Fs) (φ:Fi) (g:Nat→UInt64) (a b:List UInt8) (w:W4):HL:=H9a σ g a b++[(138,.cells false (cellsA w.av)),(242,.cells false [.str (φ.bytes (φ.mul φ.base w)),.str (sc a (σ.pub (gg g) a)),.str b])]
def H11 (φ:Fi) (g:Nat→UInt64) (a b c:List UInt8):HL:=[(0,.cells true (cellsU 80 g)),(122,.cells false (cellsA (pAv (φ.dec a)))),(194,.cells false (cellsA (pAv (φ.dec (ta32 c))))),(346,.cells false (cellsA (φ.sof (dr32 c)).av)),(442,.cells false [.str (ta32 c),.str a,.str b])]
section
variable (τ:Ft) (σ:Fs) (ω:Fw) (φ:Fi) (ζ:Fz) (g:Nat→UInt64) (a b c:List UInt8) (w w2:W4)
theorem r7:ansO (run1O Tryz.prog (ps8 τ σ ω φ ζ) (n8y τ σ ω φ ζ) [8] [] [] (mask 7) 200 7 [.str a] [(0,.cells true (cellsU 80 g))] 2)=some (resA2 a (σ.pub (gg g) a),[(Nat.ble (List.length a) 100000000)]):=by kernel_rfl
theorem r8t:ansO (run1O Tryz.prog (psy σ ω φ ζ) (ny σ ω φ ζ) [8,11,16,17,18] [true] [] (mask 8) 200 8 [.str a] [] 2)=some ((AVal.tup [(AVal.str []),(AVal.int IntKind.i64 2)]),[(((List.length a:Nat):Int) != 32)]):=by kernel_rfl
theorem r8f:ansO (run1O Tryz.prog (psy σ ω φ ζ) (ny σ ω φ ζ) [8,11,16,17,18] [false] [] (mask 8) 200 8 [.str a] [] 2)=some ((AVal.tup [(AVal.str (φ.bytesQ (φ.mulQ φ.baseQ (φ.nof (σ.kq a))))),(AVal.int IntKind.i64 0)]),[(φ.okQ (φ.mulQ φ.baseQ (φ.nof (σ.kq a)))),(φ.okQ φ.baseQ),(Nat.ble (List.length (σ.kq a)) 100000),(Nat.ble (List.length a) 100000000),!(((List.length a:Nat):Int) != 32)]):=by kernel_rfl
theorem r9t:ansO (run1O Tryz.prog (ps8 τ σ ω φ ζ) (n8y τ σ ω φ ζ) [12,16,40,300022,300034] [true] [w.av,.tup [],w2.av,.tup []] (mask 9) 200 9 [.str a,.str b] [(0,.cells true (cellsU 80 g))] 2)=some ((AVal.tup [(AVal.str []),(AVal.int IntKind.i64 (bif (isLen a 32) then 0 else 2))]),[((cond (isLen a 32) (0:Int) 2) != 0),(Nat.ble (List.length a) 100000000)]):=by kernel_rfl
theorem r9f:ansO (run1O Tryz.prog (ps8 τ σ ω φ ζ) (n8y τ σ ω φ ζ) [12,16,40,300022,300034] [false] [w.av,.tup [],w2.av,.tup []] (mask 9) 200 9 [.str a,.str b] [(0,.cells true (cellsU 80 g))] 2)=some (.tup [.str (φ.bytes (φ.mul φ.base w)++φ.sby (φ.sadd w (φ.smul w2 (kc a (σ.key (gg g) a))))),.int .i64 0],[(Nat.ble ((List.length (φ.bytes (φ.mul φ.base w)))+(List.length (φ.sby (φ.sadd w (φ.smul w2 { x0:=(bif (isLen a 32) then (σ.key (gU (cellsU 80 g)) a).x0 else 0),x1:=(bif (isLen a 32) then (σ.key (gU (cellsU 80 g)) a).x1 else 0),x2:=(bif (isLen a 32) then (σ.key (gU (cellsU 80 g)) a).x2 else 0),x3:=(bif (isLen a 32) then (σ.key (gU (cellsU 80 g)) a).x3 else 0) }))))) 9223372036854775807),decP ((nbE 242 (nbV3 σ.n3)).app 250 (H9b σ φ g a b w)=some (w2.av,H9b σ φ g a b w)),decP ((nbE 122 (nbV2 σ.n2)).app 130 (H9a σ g a b)=some (w.av,H9a σ g a b)),!((cond (isLen a 32) (0:Int) 2) != 0),(Nat.ble (List.length a) 100000000)]):=by kernel_rfl
theorem r10t:ansO (run1O Tryz.prog (ps8 τ σ ω φ ζ) (n8y τ σ ω φ ζ) [16,19,24,29,30,31,34,35,38,40,41,42,46,52] [true] [] (mask 10) 200 10 [.str a,.str b] [] 2)=some ((AVal.tup [(AVal.str []),(AVal.int IntKind.i64 2)]),[(((List.length a:Nat):Int) != 32)]):=by kernel_rfl
theorem r10f:ansO (run1O Tryz.prog (ps8 τ σ ω φ ζ) (n8y τ σ ω φ ζ) [16,19,24,29,30,31,34,35,38,40,41,42,46,52] [false] [] (mask 10) 200 10 [.str a,.str b] [] 2)=some ((AVal.tup [(AVal.str ((φ.bytesQ (φ.mulQ φ.baseQ (φ.nof (ω.doc ((σ.pq a)++b)))))++(ζ.nby (ζ.nadd (φ.nof (ω.doc ((σ.pq a)++b))) (ζ.nmul (φ.nof (ω.doc (((φ.bytesQ (φ.mulQ φ.baseQ (φ.nof (ω.doc ((σ.pq a)++b)))))++(bif (isLen a 32) then (τ.pubQ a) else []))++b))) (φ.nof (σ.kq a))))))),(AVal.int IntKind.i64 0)]),[(Nat.ble ((List.length (φ.bytesQ (φ.mulQ φ.baseQ (φ.nof (ω.doc ((σ.pq a)++b))))))+(List.length (ζ.nby (ζ.nadd (φ.nof (ω.doc ((σ.pq a)++b))) (ζ.nmul (φ.nof (ω.doc (((φ.bytesQ (φ.mulQ φ.baseQ (φ.nof (ω.doc ((σ.pq a)++b)))))++(bif (isLen a 32) then (τ.pubQ a) else []))++b))) (φ.nof (σ.kq a))))))) 9223372036854775807),(Nat.ble (List.length (σ.kq a)) 100000),(Nat.ble (List.length (ω.doc (((φ.bytesQ (φ.mulQ φ.baseQ (φ.nof (ω.doc ((σ.pq a)++b)))))++(bif (isLen a 32) then (τ.pubQ a) else []))++b))) 100000),(Nat.ble (List.length (((φ.bytesQ (φ.mulQ φ.baseQ (φ.nof (ω.doc ((σ.pq a)++b)))))++(bif (isLen a 32) then (τ.pubQ a) else []))++b)) 100000000),(Nat.ble ((List.length ((φ.bytesQ (φ.mulQ φ.baseQ (φ.nof (ω.doc ((σ.pq a)++b)))))++(bif (isLen a 32) then (τ.pubQ a) else [])))+(List.length b)) 9223372036854775807),(Nat.ble ((List.length (φ.bytesQ (φ.mulQ φ.baseQ (φ.nof (ω.doc ((σ.pq a)++b))))))+(List.length (bif (isLen a 32) then (τ.pubQ a) else []))) 9223372036854775807),(φ.okQ (φ.mulQ φ.baseQ (φ.nof (ω.doc ((σ.pq a)++b))))),(φ.okQ φ.baseQ),(Nat.ble (List.length (ω.doc ((σ.pq a)++b))) 100000),(Nat.ble (List.length ((σ.pq a)++b)) 100000000),(Nat.ble ((List.length (σ.pq a))+(List.length b)) 9223372036854775807),(Nat.ble (List.length a) 100000000),(Nat.ble (List.length a) 100000000),!(((List.length a:Nat):Int) != 32)]):=by kernel_rfl
theorem r11a:ansO (run1O Tryz.prog (ps8 τ σ ω φ ζ) (n8y τ σ ω φ ζ) [15,18,19,20,34,37,41,29,45,55,300059] [true] [w.av,.tup []] (mask 11) 200 11 [.str a,.str b,.str c] [(0,.cells true (cellsU 80 g))] 2)=some ((AVal.bool false),[(((List.length c:Nat):Int) != 64)]):=by kernel_rfl
theorem r11b:ansO (run1O Tryz.prog (ps8 τ σ ω φ ζ) (n8y τ σ ω φ ζ) [15,18,19,20,34,37,41,29,45,55,300059] [false,false] [w.av,.tup []] (mask 11) 200 11 [.str a,.str b,.str c] [(0,.cells true (cellsU 80 g))] 2)=some ((AVal.bool false),[!(ζ.canon (dr32 c)),((decide ((0:Int)≤32)) && ((decide (32≤((List.length c:Nat):Int))) && (decide (((List.length c:Nat):Int)≤((List.length c:Nat):Int))))),!(((List.length c:Nat):Int) != 64)]):=by kernel_rfl
theorem r11d:ansO (run1O Tryz.prog (ps8 τ σ ω φ ζ) (n8y τ σ ω φ ζ) [15,18,19,20,34,37,41,29,45,55,300059] [false,true,false,true] [w.av,.tup []] (mask 11) 200 11 [.str a,.str b,.str c] [(0,.cells true (cellsU 80 g))] 2)=some ((AVal.bool false),[((φ.decR a) != 0),((decide ((0:Int)≤0)) && ((decide ((0:Int)≤32)) && (decide (32≤((List.length c:Nat):Int))))),true,(ζ.canon (dr32 c)),((decide ((0:Int)≤32)) && ((decide (32≤((List.length c:Nat):Int))) && (decide (((List.length c:Nat):Int)≤((List.length c:Nat):Int))))),!(((List.length c:Nat):Int) != 64)]):=by kernel_rfl
theorem r11e:ansO (run1O Tryz.prog (ps8 τ σ ω φ ζ) (n8y τ σ ω φ ζ) [15,18,19,20,34,37,41,29,45,55,300059] [false,true,false,false,true] [w.av,.tup []] (mask 11) 200 11 [.str a,.str b,.str c] [(0,.cells true (cellsU 80 g))] 2)=some ((AVal.bool false),[((φ.decR (ta32 c)) != 0),!((φ.decR a) != 0),((decide ((0:Int)≤0)) && ((decide ((0:Int)≤32)) && (decide (32≤((List.length c:Nat):Int))))),true,(ζ.canon (dr32 c)),((decide ((0:Int)≤32)) && ((decide (32≤((List.length c:Nat):Int))) && (decide (((List.length c:Nat):Int)≤((List.length c:Nat):Int))))),!(((List.length c:Nat):Int) != 64)]):=by kernel_rfl
theorem r11f:ansO (run1O Tryz.prog (ps8 τ σ ω φ ζ) (n8y τ σ ω φ ζ) [15,18,19,20,34,37,41,29,45,55,300059] [false,true,false,false,false,true] [w.av,.tup []] (mask 11) 200 11 [.str a,.str b,.str c] [(0,.cells true (cellsU 80 g))] 2)=some ((AVal.bool false),[(φ.small (φ.dec a)),!((φ.decR (ta32 c)) != 0),!((φ.decR a) != 0),((decide ((0:Int)≤0)) && ((decide ((0:Int)≤32)) && (decide (32≤((List.length c:Nat):Int))))),true,(ζ.canon (dr32 c)),((decide ((0:Int)≤32)) && ((decide (32≤((List.length c:Nat):Int))) && (decide (((List.length c:Nat):Int)≤((List.length c:Nat):Int))))),!(((List.length c:Nat):Int) != 64)]):=by kernel_rfl
theorem r11g:ansO (run1O Tryz.prog (ps8 τ σ ω φ ζ) (n8y τ σ ω φ ζ) [15,18,19,20,34,37,41,29,45,55,300059] [false,true,false,false,false,false] [w.av,.tup []] (mask 11) 200 11 [.str a,.str b,.str c] [(0,.cells true (cellsU 80 g))] 2)=some ((AVal.bool (φ.same (φ.mul φ.base (φ.sof (dr32 c))) (φ.add (φ.dec (ta32 c)) (φ.mul (φ.dec a) w)))),[decP ((nbE 442 (nbV3 σ.n3)).app 450 (H11 φ g a b c)=some (w.av,H11 φ g a b c)),((decide ((0:Int)≤0)) && ((decide ((0:Int)≤32)) && (decide (32≤((List.length c:Nat):Int))))),((decide ((0:Int)≤32)) && ((decide (32≤((List.length c:Nat):Int))) && (decide (((List.length c:Nat):Int)≤((List.length c:Nat):Int))))),!(φ.small (φ.dec a)),!((φ.decR (ta32 c)) != 0),!((φ.decR a) != 0),((decide ((0:Int)≤0)) && ((decide ((0:Int)≤32)) && (decide (32≤((List.length c:Nat):Int))))),true,(ζ.canon (dr32 c)),((decide ((0:Int)≤32)) && ((decide (32≤((List.length c:Nat):Int))) && (decide (((List.length c:Nat):Int)≤((List.length c:Nat):Int))))),!(((List.length c:Nat):Int) != 64)]):=by kernel_rfl
theorem r12a:ansO (run1O Tryz.prog (ps8 τ σ ω φ ζ) (n8y τ σ ω φ ζ) [15,19,23,24,29,34,35,39,42,46,49,51,53,54,55,58,59,60,65,66,67] [true] [] (mask 12) 200 12 [.str a,.str b,.str c] [] 2)=some ((AVal.bool false),[(((List.length a:Nat):Int) != 32)]):=by kernel_rfl
theorem r12b:ansO (run1O Tryz.prog (ps8 τ σ ω φ ζ) (n8y τ σ ω φ ζ) [15,19,23,24,29,34,35,39,42,46,49,51,53,54,55,58,59,60,65,66,67] [false,true] [] (mask 12) 200 12 [.str a,.str b,.str c] [] 2)=some ((AVal.bool false),[(((List.length c:Nat):Int) != 64),!(((List.length a:Nat):Int) != 32)]):=by kernel_rfl
theorem r12c:ansO (run1O Tryz.prog (ps8 τ σ ω φ ζ) (n8y τ σ ω φ ζ) [15,19,23,24,29,34,35,39,42,46,49,51,53,54,55,58,59,60,65,66,67] [false,false,false] [] (mask 12) 200 12 [.str a,.str b,.str c] [] 2)=some ((AVal.bool false),[!(ζ.canonQ (dr32 c)),((decide ((0:Int)≤32)) && ((decide (32≤((List.length c:Nat):Int))) && (decide (((List.length c:Nat):Int)≤((List.length c:Nat):Int))))),!(((List.length c:Nat):Int) != 64),!(((List.length a:Nat):Int) != 32)]):=by kernel_rfl
theorem r12d:ansO (run1O Tryz.prog (ps8 τ σ ω φ ζ) (n8y τ σ ω φ ζ) [15,19,23,24,29,34,35,39,42,46,49,51,53,54,55,58,59,60,65,66,67] [false,false,true,true] [] (mask 12) 200 12 [.str a,.str b,.str c] [] 2)=some ((AVal.bool false),[((φ.decRQ a) != 0),((decide ((0:Int)≤0)) && ((decide ((0:Int)≤32)) && (decide (32≤((List.length c:Nat):Int))))),(ζ.canonQ (dr32 c)),((decide ((0:Int)≤32)) && ((decide (32≤((List.length c:Nat):Int))) && (decide (((List.length c:Nat):Int)≤((List.length c:Nat):Int))))),!(((List.length c:Nat):Int) != 64),!(((List.length a:Nat):Int) != 32)]):=by kernel_rfl
theorem r12e:ansO (run1O Tryz.prog (ps8 τ σ ω φ ζ) (n8y τ σ ω φ ζ) [15,19,23,24,29,34,35,39,42,46,49,51,53,54,55,58,59,60,65,66,67] [false,false,true,false,true] [] (mask 12) 200 12 [.str a,.str b,.str c] [] 2)=some ((AVal.bool false),[((φ.decRQ (ta32 c)) != 0),!((φ.decRQ a) != 0),((decide ((0:Int)≤0)) && ((decide ((0:Int)≤32)) && (decide (32≤((List.length c:Nat):Int))))),(ζ.canonQ (dr32 c)),((decide ((0:Int)≤32)) && ((decide (32≤((List.length c:Nat):Int))) && (decide (((List.length c:Nat):Int)≤((List.length c:Nat):Int))))),!(((List.length c:Nat):Int) != 64),!(((List.length a:Nat):Int) != 32)]):=by kernel_rfl
theorem r12f:ansO (run1O Tryz.prog (ps8 τ σ ω φ ζ) (n8y τ σ ω φ ζ) [15,19,23,24,29,34,35,39,42,46,49,51,53,54,55,58,59,60,65,66,67] [false,false,true,false,false,true] [] (mask 12) 200 12 [.str a,.str b,.str c] [] 2)=some ((AVal.bool false),[(φ.smallQ (φ.decQ a)),(φ.okQ (φ.decQ a)),!((φ.decRQ (ta32 c)) != 0),!((φ.decRQ a) != 0),((decide ((0:Int)≤0)) && ((decide ((0:Int)≤32)) && (decide (32≤((List.length c:Nat):Int))))),(ζ.canonQ (dr32 c)),((decide ((0:Int)≤32)) && ((decide (32≤((List.length c:Nat):Int))) && (decide (((List.length c:Nat):Int)≤((List.length c:Nat):Int))))),!(((List.length c:Nat):Int) != 64),!(((List.length a:Nat):Int) != 32)]):=by kernel_rfl
theorem r12g:ansO (run1O Tryz.prog (ps8 τ σ ω φ ζ) (n8y τ σ ω φ ζ) [15,19,23,24,29,34,35,39,42,46,49,51,53,54,55,58,59,60,65,66,67] [false,false,true,false,false,false] [] (mask 12) 200 12 [.str a,.str b,.str c] [] 2)=some ((AVal.bool (φ.sameQ (φ.mulQ φ.baseQ (φ.nof (dr32 c))) (φ.addQ (φ.decQ (ta32 c)) (φ.mulQ (φ.decQ a) (φ.nof (ω.doc (((ta32 c)++a)++b))))))),[((φ.okQ (φ.mulQ φ.baseQ (φ.nof (dr32 c)))) && (φ.okQ (φ.addQ (φ.decQ (ta32 c)) (φ.mulQ (φ.decQ a) (φ.nof (ω.doc (((ta32 c)++a)++b))))))),((φ.okQ (φ.decQ (ta32 c))) && (φ.okQ (φ.mulQ (φ.decQ a) (φ.nof (ω.doc (((ta32 c)++a)++b)))))),(φ.okQ (φ.decQ a)),(φ.okQ φ.baseQ),(Nat.ble (List.length (dr32 c)) 100000),((decide ((0:Int)≤32)) && ((decide (32≤((List.length c:Nat):Int))) && (decide (((List.length c:Nat):Int)≤((List.length c:Nat):Int))))),(Nat.ble (List.length (ω.doc (((ta32 c)++a)++b))) 100000),(Nat.ble (List.length (((ta32 c)++a)++b)) 100000000),(Nat.ble ((List.length ((ta32 c)++a))+(List.length b)) 9223372036854775807),(Nat.ble ((List.length (ta32 c))+(List.length a)) 9223372036854775807),((decide ((0:Int)≤0)) && ((decide ((0:Int)≤32)) && (decide (32≤((List.length c:Nat):Int))))),!(φ.smallQ (φ.decQ a)),(φ.okQ (φ.decQ a)),!((φ.decRQ (ta32 c)) != 0),!((φ.decRQ a) != 0),((decide ((0:Int)≤0)) && ((decide ((0:Int)≤32)) && (decide (32≤((List.length c:Nat):Int))))),(ζ.canonQ (dr32 c)),((decide ((0:Int)≤32)) && ((decide (32≤((List.length c:Nat):Int))) && (decide (((List.length c:Nat):Int)≤((List.length c:Nat):Int))))),!(((List.length c:Nat):Int) != 64),!(((List.length a:Nat):Int) != 32)]):=by kernel_rfl
end
end Go.Proofs.YtcjkbimdmcfppaaGreatDoor
namespace Go.Proofs.YtcjkbimdmcfppaaGreatDoor
open Go Go.Eng Go.Num Sha
section
variable (σ:Fs) (ω:Fw) (φ:Fi) (ζ:Fz) (g:Nat→UInt64) (a b c:List UInt8)
def sw:W4:=σ.n2 (gg g) (σ.pre (gg g) a) b
def sr:List UInt8:=φ.bytes (φ.mul φ.base (sw σ g a b))
def sgnT:List UInt8:=sr σ φ g a b++φ.sby (φ.sadd (sw σ g a b) (φ.smul (σ.n3 (gg g) (sr σ φ g a b) (σ.pub (gg g) a) b) (σ.key (gg g) a)))
def pubQT:List UInt8:=φ.bytesQ (φ.mulQ φ.baseQ (φ.nof (σ.kq a)))
def qr:List UInt8:=φ.bytesQ (φ.mulQ φ.baseQ (φ.nof (ω.doc (σ.pq a++b))))
def sgnQT:List UInt8:=qr σ ω φ a b++ζ.nby (ζ.nadd (φ.nof (ω.doc (σ.pq a++b))) (ζ.nmul (φ.nof (ω.doc ((qr σ ω φ a b++pubQT σ φ a)++b))) (φ.nof (σ.kq a))))
def verT:Bool:=cond (isLen c 64 && ζ.canon (dr32 c)) (cond (decide (φ.decR a=0) && (decide (φ.decR (ta32 c)=0) && !φ.small (φ.dec a))) (φ.same (φ.mul φ.base (φ.sof (dr32 c))) (φ.add (φ.dec (ta32 c)) (φ.mul (φ.dec a) (σ.n3 (gg g) (ta32 c) a b)))) false) false
def verQT:Bool:=cond (isLen a 32 && (isLen c 64 && ζ.canonQ (dr32 c))) (cond (decide (φ.decRQ a=0) && (decide (φ.decRQ (ta32 c)=0) && !φ.smallQ (φ.decQ a))) (φ.sameQ (φ.mulQ φ.baseQ (φ.nof (dr32 c))) (φ.addQ (φ.decQ (ta32 c)) (φ.mulQ (φ.decQ a) (φ.nof (ω.doc ((ta32 c++a)++b)))))) false) false
def ftOf:Ft:=⟨fun g a=>σ.pub (gg g) a,pubQT σ φ,sgnT σ φ,sgnQT σ ω φ ζ,verT σ φ ζ,verQT ω φ ζ⟩
structure Hyp:Prop where
 hn:CSOk Tryz.prog (ny σ ω φ ζ)
 pre32:∀ g a,(σ.pre g a).length=32
 pub32:∀ g a,(σ.pub g a).length=32
 by32:∀ w,(φ.bytes (φ.mul φ.base w)).length=32
 sby32:∀ w,(φ.sby w).length=32
 kq32:∀ a,(σ.kq a).length=32
 pq32:∀ a,(σ.pq a).length=32
 doc64:∀ l,(ω.doc l).length=64
 okb:φ.okQ φ.baseQ=true
 okm:∀ l,φ.okQ (φ.mulQ φ.baseQ (φ.nof l))=true
 byq32:∀ l,(φ.bytesQ (φ.mulQ φ.baseQ (φ.nof l))).length=32
 nby32:∀ n,(ζ.nby n).length=32
 okd:∀ a,φ.decRQ a=0→φ.okQ (φ.decQ a)=true
 okdm:∀ a l,φ.decRQ a=0→φ.okQ (φ.mulQ (φ.decQ a) (φ.nof l))=true
 okda:∀ a b l,φ.decRQ a=0→φ.decRQ b=0→φ.okQ (φ.addQ (φ.decQ b) (φ.mulQ (φ.decQ a) (φ.nof l)))=true
end
theorem nb2_at {v:(Nat→UInt64)→List UInt8→List UInt8→W4}{n base:Nat}{H:HL}{g:Nat→UInt64}{a b:List UInt8}(h0:aget H 0=some (.cells true (cellsU 80 g))) (h1:aget H 1=none) (hn:aget H n=some (.cells false [.str a,.str b])) (ha:Nat.ble a.length 100000000=true) (hb:Nat.ble b.length 100000000=true):(nbE n (nbV2 v)).app base H=some ((v (gg g) a b).av,H):=by
 unfold nbE
 simp only [EffA.app,nbK_also]
 have hs:shG (cellsU 80 g)=true:=by kernel_rfl
 have:nbK n (nbV2 v) (aget H)=some (v (gg g) a b).av:=by
  unfold nbK
  rw [h0,h1,hn]
  simp only [hs,cond_true]
  unfold nbV2
  simp only [ha,hb,Bool.and_self,cond_true]
  rfl
 rw [this]
theorem nb3_at {v:(Nat→UInt64)→List UInt8→List UInt8→List UInt8→W4}{n base:Nat}{H:HL}{g:Nat→UInt64}{a b c:List UInt8}(h0:aget H 0=some (.cells true (cellsU 80 g))) (h1:aget H 1=none) (hn:aget H n=some (.cells false [.str a,.str b,.str c])) (ha:Nat.ble a.length 100000000=true) (hb:Nat.ble b.length 100000000=true) (hc:Nat.ble c.length 100000000=true):(nbE n (nbV3 v)).app base H=some ((v (gg g) a b c).av,H):=by
 unfold nbE
 simp only [EffA.app,nbK_also]
 have hs:shG (cellsU 80 g)=true:=by kernel_rfl
 have:nbK n (nbV3 v) (aget H)=some (v (gg g) a b c).av:=by
  unfold nbK
  rw [h0,h1,hn]
  simp only [hs,cond_true]
  unfold nbV3
  simp only [ha,hb,hc,Bool.and_self,cond_true]
  rfl
 rw [this]
theorem bneInt {x y:Int}:(x != y) = !decide (x=y):=by
 by_cases h:x=y
 ·subst h; simp
 ·simp [h]
theorem ble_of {a b:Nat}(h:a≤b):Nat.ble a b=true:=Nat.ble_eq_true_of_le h
theorem isLen64_iff (l:List UInt8):isLen l 64=decide ((l.length:Int)=64):=by
 unfold isLen
 rcases Nat.decEq l.length 64 with h | h
 ·rw [decide_eq_false (by omega)]
  cases hb:Nat.beq l.length 64 with
  | false=>rfl
  | true=>exact absurd (Nat.eq_of_beq_eq_true hb) h
 ·rw [h]; rfl
theorem allT_c {b:Bool}{l:List Bool}(h:b=true) (k:allT l=true):allT (b::l)=true:=by rw [h]; exact k
theorem ta32_len {c:List UInt8}(h:isLen c 64=true):(ta32 c).length=32∧(dr32 c).length=32:=by
 have hc:=Nat.eq_of_beq_eq_true h
 rw [ta32_eq,dr32_eq,List.length_take,List.length_drop]
 omega
theorem sl1 {c:List UInt8}(h:isLen c 64=true):((decide ((0:Int)≤32)) && ((decide (32≤((List.length c:Nat):Int))) && (decide (((List.length c:Nat):Int)≤((List.length c:Nat):Int)))))=true∧((decide ((0:Int)≤0)) && ((decide ((0:Int)≤32)) && (decide (32≤((List.length c:Nat):Int)))))=true:=by
 have hc:=Nat.eq_of_beq_eq_true h
 rw [hc]
 decide
theorem ne32i {a:List UInt8}{b:Bool}(h:isLen a 32=b):(((List.length a:Nat):Int) != 32) = !b:=by rw [bneInt,← isLen32_iff,h]
theorem ne64i {a:List UInt8}{b:Bool}(h:isLen a 64=b):(((List.length a:Nat):Int) != 64) = !b:=by rw [bneInt,← isLen64_iff,h]
section
variable {τ:Ft}{σ:Fs}{ω:Fw}{φ:Fi}{ζ:Fz}
theorem y8_ok (h:Hyp σ ω φ ζ):CSOk Tryz.prog (csP (psOne 8 (y8 (ftOf σ ω φ ζ)))):=psOne_ok fun args e he=>by
 unfold y8 at he
 split at he
 ·rename_i l
  simp only [Option.some.injEq,Prod.mk.injEq] at he
  obtain ⟨rfl,hc⟩:=he
  unfold resA2
  cases hi:isLen l 32 with
  | false=>exact callOk_val h.hn hmix (ansO_run (ny_ps σ ω φ ζ) (r8t σ ω φ ζ l) (allT_c (ne32i hi) rfl)) rfl rfl
  | true=>exact callOk_val h.hn hmix (ansO_run (ny_ps σ ω φ ζ) (r8f σ ω φ ζ l) (allT_c (h.okm _) (allT_c h.okb (allT_c (by rw [h.kq32]; rfl) (allT_c hc (allT_c (by rw [ne32i hi]; rfl) rfl)))))) rfl rfl
 ·cases he
theorem n8y_ok (h:Hyp σ ω φ ζ) (hc:CSOk Tryz.prog (csP (psy σ ω φ ζ))) (hd:CSOk Tryz.prog (csy σ ω φ ζ)):CSOk Tryz.prog (n8y (ftOf σ ω φ ζ) σ ω φ ζ):=csAlt_ok (csP_alt (y8_ok h) hc) hd
theorem y7_ok (hn:CSOk Tryz.prog (n8y (ftOf σ ω φ ζ) σ ω φ ζ)):CSOk Tryz.prog (csP (psOne 7 (y7 (ftOf σ ω φ ζ)))):=psOne_ok fun args e he=>by
 unfold y7 at he
 split at he
 ·rename_i l
  simp only [Option.some.injEq,Prod.mk.injEq] at he
  obtain ⟨rfl,hc⟩:=he
  refine callOk_tabL hn rfl fun g x hg hx => ?_
  cases hx
  obtain ⟨H',fr',hr⟩:=run_of (ansO_run (n8y_ps (ftOf σ ω φ ζ) σ ω φ ζ) (r7 (ftOf σ ω φ ζ) σ ω φ ζ g l) (allT_c hc rfl))
  exact ⟨rfl,_,_,H',fr',hr⟩
 ·cases he
theorem y9_ok (h:Hyp σ ω φ ζ) (hn:CSOk Tryz.prog (n8y (ftOf σ ω φ ζ) σ ω φ ζ)):CSOk Tryz.prog (csP (psOne 9 (y9 (ftOf σ ω φ ζ)))):=psOne_ok fun args e he=>by
 unfold y9 at he
 split at he
 ·rename_i l s
  simp only [Option.some.injEq,Prod.mk.injEq] at he
  obtain ⟨rfl,hc⟩:=he
  rw [Bool.and_eq_true] at hc
  refine callOk_tabL hn rfl fun g x hg hx => ?_
  cases hx
  unfold resA2
  cases hi:isLen l 32 with
  | false =>
   have r:=r9t (ftOf σ ω φ ζ) σ ω φ ζ g l s ⟨0,0,0,0⟩ ⟨0,0,0,0⟩
   rw [hi] at r
   obtain ⟨H',fr',hr⟩:=run_of (ansO_run (n8y_ps (ftOf σ ω φ ζ) σ ω φ ζ) r (allT_c rfl (allT_c hc.1 rfl)))
   exact ⟨rfl,_,_,H',fr',hr⟩
  | true =>
   have hs:Nat.ble s.length 100000000=true:=ble_of (by have:=Nat.le_of_ble_eq_true hc.2; omega)
   have e1:kc l (σ.key (gg g) l)=σ.key (gg g) l:=by unfold kc; rw [hi]; rfl
   have e2:sc l (σ.pre (gg g) l)=σ.pre (gg g) l:=by unfold sc; rw [hi]; rfl
   have e3:sc l (σ.pub (gg g) l)=σ.pub (gg g) l:=by unfold sc; rw [hi]; rfl
   have r:=r9f (ftOf σ ω φ ζ) σ ω φ ζ g l s (sw σ g l s) (σ.n3 (gg g) (sr σ φ g l s) (σ.pub (gg g) l) s)
   rw [e1] at r
   obtain ⟨H',fr',hr⟩:=run_of (ansO_run (n8y_ps (ftOf σ ω φ ζ) σ ω φ ζ) r (by
    refine allT_c (by rw [h.by32,h.sby32]; rfl) (allT_c (decP_of ?_) (allT_c (decP_of ?_) (allT_c (by rw [hi]; rfl) (allT_c hc.1 rfl))))
    ·refine nb3_at (g:=g) rfl rfl (a:=sr σ φ g l s) (b:=σ.pub (gg g) l) (c:=s) ?_ (by unfold sr; rw [h.by32]; rfl) (by rw [h.pub32]; rfl) hs
     rw [← e3]
     rfl
    ·refine nb2_at (g:=g) rfl rfl (a:=σ.pre (gg g) l) (b:=s) ?_ (by rw [h.pre32]; rfl) hs
     rw [← e2]
     rfl))
   exact ⟨rfl,_,_,H',fr',hr⟩
 ·cases he
theorem y10_ok (h:Hyp σ ω φ ζ) (hn:CSOk Tryz.prog (n8y (ftOf σ ω φ ζ) σ ω φ ζ)):CSOk Tryz.prog (csP (psOne 10 (y10 (ftOf σ ω φ ζ)))):=psOne_ok fun args e he=>by
 unfold y10 at he
 split at he
 ·rename_i l s
  simp only [Option.some.injEq,Prod.mk.injEq] at he
  obtain ⟨rfl,hc⟩:=he
  rw [Bool.and_eq_true] at hc
  unfold resA2
  cases hi:isLen l 32 with
  | false=>exact callOk_val hn hmix (ansO_run (n8y_ps (ftOf σ ω φ ζ) σ ω φ ζ) (r10t (ftOf σ ω φ ζ) σ ω φ ζ l s) (allT_c (ne32i hi) rfl)) rfl rfl
  | true =>
   have hs:=Nat.le_of_ble_eq_true hc.2
   have r:=r10f (ftOf σ ω φ ζ) σ ω φ ζ l s
   rw [hi] at r
   have hp:(φ.bytesQ (φ.mulQ φ.baseQ (φ.nof (σ.kq l)))).length=32:=h.byq32 _
   have hpp:(ftOf σ ω φ ζ).pubQ l=φ.bytesQ (φ.mulQ φ.baseQ (φ.nof (σ.kq l))):=rfl
   rw [hpp] at r
   exact callOk_val hn hmix (ansO_run (n8y_ps (ftOf σ ω φ ζ) σ ω φ ζ) r (by
    simp only [cond_true]
    refine allT_c (by rw [h.byq32,h.nby32]; rfl) (allT_c (by rw [h.kq32]; rfl) (allT_c (by rw [h.doc64]; rfl) (allT_c (ble_of (by simp only [List.length_append,h.byq32]; omega)) (allT_c (ble_of (by simp only [List.length_append,h.byq32]; omega)) (allT_c (by rw [h.byq32,h.byq32]; rfl) (allT_c (h.okm _) (allT_c h.okb (allT_c (by rw [h.doc64]; rfl) (allT_c (ble_of (by rw [List.length_append,h.pq32]; omega)) (allT_c (ble_of (by rw [h.pq32]; omega)) (allT_c hc.1 (allT_c hc.1 (allT_c (by rw [ne32i hi]; rfl) rfl))))))))))))))) rfl rfl
 ·cases he
end
end Go.Proofs.YtcjkbimdmcfppaaGreatDoor
namespace Go.Proofs.YtcjkbimdmcfppaaGreatDoor
open Go Go.Eng Go.Num Sha
section
variable {τ:Ft}{σ:Fs}{ω:Fw}{φ:Fi}{ζ:Fz}
theorem ne0t {x:Int}(h:¬ x=0):(x != 0)=true:=by rw [bneInt,decide_eq_false h]; rfl
theorem ne0f {x:Int}(h:x=0):(!(x != 0))=true:=by rw [bneInt,decide_eq_true h]; rfl
theorem y11_ok (h:Hyp σ ω φ ζ) (hn:CSOk Tryz.prog (n8y (ftOf σ ω φ ζ) σ ω φ ζ)):CSOk Tryz.prog (csP (psOne 11 (y11 (ftOf σ ω φ ζ)))):=psOne_ok fun args e he=>by
 unfold y11 at he
 split at he
 ·rename_i a b c
  simp only [Option.some.injEq,Prod.mk.injEq] at he
  obtain ⟨rfl,hc⟩:=he
  rw [Bool.and_eq_true] at hc
  refine callOk_tabL hn rfl fun g x hg hx => ?_
  cases hx
  have ps:=n8y_ps (ftOf σ ω φ ζ) σ ω φ ζ
  show _∧∃ F nn H' fr',run1 Tryz.prog (n8y (ftOf σ ω φ ζ) σ ω φ ζ) nn F 11 _ _ 2=some (.bool (verT σ φ ζ g a b c),H',fr')
  have fin:∀ v:Bool,verT σ φ ζ g a b c=v→(run1 Tryz.prog (n8y (ftOf σ ω φ ζ) σ ω φ ζ) (mask 11) 200 11 [.str a,.str b,.str c] [(0,.cells true (cellsU 80 g))] 2).map (·.1)=some (.bool v)→ltV 0 (.bool (verT σ φ ζ g a b c))=true∧∃ F nn H' fr',run1 Tryz.prog (n8y (ftOf σ ω φ ζ) σ ω φ ζ) nn F 11 [.str a,.str b,.str c] [(0,.cells true (cellsU 80 g))] 2=some (.bool (verT σ φ ζ g a b c),H',fr'):=fun v e r=>by
   obtain ⟨H',fr',hr⟩:=run_of r
   rw [e]
   exact ⟨rfl,_,_,H',fr',hr⟩
  let w:W4:=σ.n3 (gg g) (ta32 c) a b
  cases hi:isLen c 64 with
  | false=>exact fin false (by unfold verT; rw [hi]; rfl) (ansO_run ps (r11a (ftOf σ ω φ ζ) σ ω φ ζ g a b c w) (allT_c (ne64i hi) rfl))
  | true =>
   obtain ⟨s1,s2⟩:=sl1 hi
   have s3:(!(((List.length c:Nat):Int) != 64))=true:=by rw [ne64i hi]; rfl
   cases hk:ζ.canon (dr32 c) with
   | false=>exact fin false (by unfold verT; rw [hi,hk]; rfl) (ansO_run ps (r11b (ftOf σ ω φ ζ) σ ω φ ζ g a b c w) (allT_c (by rw [hk]; rfl) (allT_c s1 (allT_c s3 rfl))))
   | true =>
    by_cases ha:φ.decR a=0
    ·by_cases hr:φ.decR (ta32 c)=0
     ·cases hm:φ.small (φ.dec a) with
      | true=>exact fin false (by unfold verT; rw [hi,hk,hm,decide_eq_true ha,decide_eq_true hr]; rfl) (ansO_run ps (r11f (ftOf σ ω φ ζ) σ ω φ ζ g a b c w) (allT_c hm (allT_c (ne0f hr) (allT_c (ne0f ha) (allT_c s2 (allT_c rfl (allT_c hk (allT_c s1 (allT_c s3 rfl)))))))))
      | false =>
       refine fin _ (by unfold verT; rw [hi,hk,hm,decide_eq_true ha,decide_eq_true hr]; rfl) (ansO_run ps (r11g (ftOf σ ω φ ζ) σ ω φ ζ g a b c w) (allT_c (decP_of ?_) (allT_c s2 (allT_c s1 (allT_c (by rw [hm]; rfl) (allT_c (ne0f hr) (allT_c (ne0f ha) (allT_c s2 (allT_c rfl (allT_c hk (allT_c s1 (allT_c s3 rfl))))))))))))
       exact nb3_at (g:=g) rfl rfl rfl (by rw [(ta32_len hi).1]; rfl) (ble_of (by have:=Nat.le_of_ble_eq_true hc.1; omega)) (ble_of (by have:=Nat.le_of_ble_eq_true hc.2; omega))
     ·exact fin false (by unfold verT; rw [hi,hk,decide_eq_true ha,decide_eq_false hr]; rfl) (ansO_run ps (r11e (ftOf σ ω φ ζ) σ ω φ ζ g a b c w) (allT_c (ne0t hr) (allT_c (ne0f ha) (allT_c s2 (allT_c rfl (allT_c hk (allT_c s1 (allT_c s3 rfl))))))))
    ·exact fin false (by unfold verT; rw [hi,hk,decide_eq_false ha]; rfl) (ansO_run ps (r11d (ftOf σ ω φ ζ) σ ω φ ζ g a b c w) (allT_c (ne0t ha) (allT_c s2 (allT_c rfl (allT_c hk (allT_c s1 (allT_c s3 rfl)))))))
 ·cases he
theorem y12_ok (h:Hyp σ ω φ ζ) (hn:CSOk Tryz.prog (n8y (ftOf σ ω φ ζ) σ ω φ ζ)):CSOk Tryz.prog (csP (psOne 12 (y12 (ftOf σ ω φ ζ)))):=psOne_ok fun args e he=>by
 unfold y12 at he
 split at he
 ·rename_i a b c
  simp only [Option.some.injEq,Prod.mk.injEq] at he
  obtain ⟨rfl,hc⟩:=he
  rw [Bool.and_eq_true] at hc
  have ps:=n8y_ps (ftOf σ ω φ ζ) σ ω φ ζ
  show CallOk Tryz.prog 12 [.str a,.str b,.str c] (.pure (.bool (verQT ω φ ζ a b c)))
  have fin:∀ v:Bool,verQT ω φ ζ a b c=v→(run1 Tryz.prog (n8y (ftOf σ ω φ ζ) σ ω φ ζ) (mask 12) 200 12 [.str a,.str b,.str c] [] 2).map (·.1)=some (.bool v)→CallOk Tryz.prog 12 [.str a,.str b,.str c] (.pure (.bool (verQT ω φ ζ a b c))):=fun v e r=>by
   rw [e]
   exact callOk_val hn hmix r rfl rfl
  cases hj:isLen a 32 with
  | false=>exact fin false (by unfold verQT; rw [hj]; rfl) (ansO_run ps (r12a (ftOf σ ω φ ζ) σ ω φ ζ a b c) (allT_c (ne32i hj) rfl))
  | true =>
   have s4:(!(((List.length a:Nat):Int) != 32))=true:=by rw [ne32i hj]; rfl
   cases hi:isLen c 64 with
   | false=>exact fin false (by unfold verQT; rw [hj,hi]; rfl) (ansO_run ps (r12b (ftOf σ ω φ ζ) σ ω φ ζ a b c) (allT_c (ne64i hi) (allT_c s4 rfl)))
   | true =>
    obtain ⟨s1,s2⟩:=sl1 hi
    obtain ⟨l1,l2⟩:=ta32_len hi
    have s3:(!(((List.length c:Nat):Int) != 64))=true:=by rw [ne64i hi]; rfl
    have hal:=Nat.eq_of_beq_eq_true hj
    have hbl:=Nat.le_of_ble_eq_true hc.2
    cases hk:ζ.canonQ (dr32 c) with
    | false=>exact fin false (by unfold verQT; rw [hj,hi,hk]; rfl) (ansO_run ps (r12c (ftOf σ ω φ ζ) σ ω φ ζ a b c) (allT_c (by rw [hk]; rfl) (allT_c s1 (allT_c s3 (allT_c s4 rfl)))))
    | true =>
     by_cases ha:φ.decRQ a=0
     ·by_cases hr:φ.decRQ (ta32 c)=0
      ·cases hm:φ.smallQ (φ.decQ a) with
       | true=>exact fin false (by unfold verQT; rw [hj,hi,hk,hm,decide_eq_true ha,decide_eq_true hr]; rfl) (ansO_run ps (r12f (ftOf σ ω φ ζ) σ ω φ ζ a b c) (allT_c hm (allT_c (h.okd a ha) (allT_c (ne0f hr) (allT_c (ne0f ha) (allT_c s2 (allT_c hk (allT_c s1 (allT_c s3 (allT_c s4 rfl))))))))))
       | false =>
        have hoa:=h.okd a ha
        have hor:=h.okd _ hr
        refine fin _ (by unfold verQT; rw [hj,hi,hk,hm,decide_eq_true ha,decide_eq_true hr]; rfl) (ansO_run ps (r12g (ftOf σ ω φ ζ) σ ω φ ζ a b c) ?_)
        refine allT_c (by rw [h.okm,h.okda _ _ _ ha hr]; rfl) (allT_c (by rw [hor,h.okdm _ _ ha]; rfl) (allT_c hoa (allT_c h.okb (allT_c (by rw [l2]; rfl) (allT_c s1 (allT_c (by rw [h.doc64]; rfl) (allT_c (ble_of (by simp only [List.length_append,l1]; omega)) (allT_c (ble_of (by simp only [List.length_append,l1]; omega)) (allT_c (ble_of (by rw [l1]; omega)) (allT_c s2 (allT_c (by rw [hm]; rfl) (allT_c hoa (allT_c (ne0f hr) (allT_c (ne0f ha) (allT_c s2 (allT_c hk (allT_c s1 (allT_c s3 (allT_c s4 rfl)))))))))))))))))))
      ·exact fin false (by unfold verQT; rw [hj,hi,hk,decide_eq_true ha,decide_eq_false hr]; rfl) (ansO_run ps (r12e (ftOf σ ω φ ζ) σ ω φ ζ a b c) (allT_c (ne0t hr) (allT_c (ne0f ha) (allT_c s2 (allT_c hk (allT_c s1 (allT_c s3 (allT_c s4 rfl))))))))
     ·exact fin false (by unfold verQT; rw [hj,hi,hk,decide_eq_false ha]; rfl) (ansO_run ps (r12d (ftOf σ ω φ ζ) σ ω φ ζ a b c) (allT_c (ne0t ha) (allT_c s2 (allT_c hk (allT_c s1 (allT_c s3 (allT_c s4 rfl)))))))
 ·cases he
end
def psT (τ:Ft):PS:=psAlt (psOne 7 (y7 τ)) (psAlt (psOne 8 (y8 τ)) (psAlt (psOne 9 (y9 τ)) (psAlt (psOne 10 (y10 τ)) (psAlt (psOne 11 (y11 τ)) (psOne 12 (y12 τ))))))
theorem psT_ok {σ:Fs}{ω:Fw}{φ:Fi}{ζ:Fz}(h:Hyp σ ω φ ζ) (hc:CSOk Tryz.prog (csP (psy σ ω φ ζ))) (hd:CSOk Tryz.prog (csy σ ω φ ζ)):CSOk Tryz.prog (csP (psT (ftOf σ ω φ ζ))):=by
 have hn:=n8y_ok h hc hd
 exact csP_alt (y7_ok hn) (csP_alt (y8_ok h) (csP_alt (y9_ok h hn) (csP_alt (y10_ok h hn) (csP_alt (y11_ok h hn) (y12_ok h hn)))))
end Go.Proofs.YtcjkbimdmcfppaaGreatDoor
namespace Go.Proofs.YtcjkbimdmcfppaaGreatDoor.Sha
open Go Go.Eng
set_option maxRecDepth 1000000
theorem rot_eq (x:UInt64) (n:Int) (k:UInt64) (hk:(UInt64.ofInt (IntKind.wrap .i64 (0 - n)) &&& 63).toNat=(64 - k).toNat) (hk2:(64 - (UInt64.ofInt (IntKind.wrap .i64 (0 - n)) &&& 63)).toNat=k.toNat):φr.rot x n=φr.rotd x k:=by
 show shl_u64 x _ ||| shr_u64 x _=shr_u64 x _ ||| shl_u64 x _
 rw [hk,hk2,UInt64.or_comm]
theorem sched_eq (w0 w1 w9 w14:UInt64):sched φr w0 w1 w9 w14=schedD φr w0 w1 w9 w14:=by
 unfold sched schedD
 rw [rot_eq w1 1 1 (by decide) (by decide),rot_eq w1 8 8 (by decide) (by decide),rot_eq w14 19 19 (by decide) (by decide),rot_eq w14 61 61 (by decide) (by decide)]
 rw [UInt64.add_assoc w0 w9,UInt64.add_comm w9,← UInt64.add_assoc w0]
theorem rndT_eq (g w:UInt64) (x:Nat→UInt64):rndT φr g w x=rndTD φr g w x:=by
 unfold rndT rndTD
 rw [rot_eq (x 4) 14 14 (by decide) (by decide),rot_eq (x 4) 18 18 (by decide) (by decide),rot_eq (x 4) 41 41 (by decide) (by decide)]
theorem rnd_eq (g w:UInt64) (x:Nat→UInt64):rnd φr g w x=rndD φr g w x:=by
 unfold rnd rndD rndL rndLD
 rw [rndT_eq,rot_eq (x 0) 28 28 (by decide) (by decide),rot_eq (x 0) 34 34 (by decide) (by decide),rot_eq (x 0) 39 39 (by decide) (by decide),UInt64.add_assoc (rndTD φr g w x)]
theorem W2_eq (w:Nat→UInt64):∀ i,W2 φr w i=W2D φr w i
 | 0=>rfl
 | i+1=>by
  simp only [W2,W2D]
  rw [W2_eq w i,sched_eq]
theorem X3_eq (g w h:Nat→UInt64):∀ i,X3 φr g w h i=X3D φr g w h i
 | 0=>rfl
 | i+1=>by
  simp only [X3,X3D]
  rw [X3_eq g w h i,rnd_eq]
theorem take_eq (g h:Nat→UInt64) (b:Nat→UInt8):takeF φr g h b=pieceD φr g h b:=by
 unfold takeF pieceD
 rw [W2_eq,X3_eq]
theorem W1_congr {b b':Nat→UInt8}{n:Nat}(h:∀ i,i < n→b i=b' i):∀ i,i≤n→W1 b i=W1 b' i
 | 0,_=>rfl
 | i+1,hi=>by
  simp only [W1]
  rw [W1_congr h i (by omega),h i (by omega)]
theorem takeF_congr {φ:Fr}{g h:Nat→UInt64}{b b':Nat→UInt8}(hb:∀ i,i < 128→b i=b' i):takeF φ g h b=takeF φ g h b':=by
 unfold takeF
 rw [W1_congr hb 128 (Nat.le_refl _)]
def pushL (φ:Fr) (g:Nat→UInt64) (s:St) (l:List UInt8):St:=l.foldl (addS φ g) s
theorem pushL_append (φ:Fr) (g:Nat→UInt64) (s:St) (l m:List UInt8):pushL φ g s (l++m)=pushL φ g (pushL φ g s l) m:=List.foldl_append ..
theorem addsN_push (φ:Fr) (g:Nat→UInt64) (s:St) (l:List UInt8):∀ i,i≤l.length→addsN φ g s l i=pushL φ g s (l.take i)
 | 0,_=>by simp [addsN,pushL]
 | i+1,hi=>by
  simp only [addsN]
  rw [addsN_push φ g s l i (by omega),List.take_add_one,pushL_append]
  have:l[i]? = some (l.getD i 0):=by
   rw [List.getD_eq_getElem?_getD,List.getElem?_eq_getElem (by omega)]; rfl
  rw [this]
  rfl
theorem adds_push (φ:Fr) (g:Nat→UInt64) (s:St) (l:List UInt8):addsS φ g s l=pushL φ g s l:=by
 unfold addsS
 rw [addsN_push φ g s l l.length (Nat.le_refl _),List.take_length]
theorem zer_push (φ:Fr) (g:Nat→UInt64) (s:St):∀ k,zer φ g s k=pushL φ g s ((List.range k).map fun _=>0)
 | 0=>rfl
 | k+1=>by
  simp only [zer]
  rw [zer_push φ g s k,List.range_succ,List.map_append,pushL_append]; rfl
theorem lenA_push (φ:Fr) (g:Nat→UInt64) (x:UInt64) (s:St):∀ k,lenA φ g x s k=pushL φ g s ((List.range k).map (lenB x))
 | 0=>rfl
 | k+1=>by
  simp only [lenA]
  rw [lenA_push φ g x s k,List.range_succ,List.map_append,pushL_append]; rfl
theorem push_n (φ:Fr) (g:Nat→UInt64):∀ (l:List UInt8) (s:St),(pushL φ g s l).n=s.n+UInt64.ofNat l.length
 | [],s=>by show s.n=_; simp
 | x::l,s=>by
  show (pushL φ g (addS φ g s x) l).n=_
  rw [push_n φ g l,addS_n,UInt64.add_assoc]
  congr 1
  apply UInt64.toNat_inj.1
  rw [UInt64.toNat_add,UInt64.toNat_ofNat',UInt64.toNat_ofNat',List.length_cons]
  have h1:(1:UInt64).toNat=1:=rfl
  rw [h1]
  omega
theorem push_bS_n (φ:Fr) (g:Nat→UInt64) (l:List UInt8):(pushL φ g bS l).n=UInt64.ofNat l.length:=by
 rw [push_n]; show 0+_=_; simp
theorem padK_of (n:Nat) (h:n < 18446744073709551616):padK (UInt64.ofNat n)=padN n:=by
 unfold padK padN
 rw [UInt64.toNat_ofNat',Nat.mod_eq_of_lt (show n < 2 ^ 64 by omega)]
theorem sum_push (φ:Fr) (g:Nat→UInt64) (l:List UInt8) (h:l.length < 18446744073709551616):sumSt φ g (pushL φ g bS l)=pushL φ g bS (padL l):=by
 unfold sumSt padL exL
 have e:(List.range 16).map (tailB (UInt64.ofNat l.length))=(List.range 8).map (fun _=>(0:UInt8))++(List.range 8).map (lenB (UInt64.ofNat l.length)):=rfl
 rw [lenA_push,zer_push,zer_push,push_bS_n,padK_of _ h,e]
 rw [pushL_append,pushL_append,pushL_append,pushL_append]
 rfl
theorem add0_at (s:St) (x:UInt8) (i:Nat):(add0 s x).b i=if i < 128 then (if i=(s.n % 128).toNat then x else s.b i) else 0:=rfl
theorem push_part (φ:Fr) (g:Nat→UInt64) (s:St) (hs:nS s=s) (h0:s.n.toNat % 128=0) (l:List UInt8):l.length < 128 →
  (pushL φ g s l).h=s.h∧(∀ j,j < l.length→(pushL φ g s l).b j=l.getD j 0)∧nS (pushL φ g s l)=pushL φ g s l:=by
 have key:∀ k,k≤l.length→k < 128→(pushL φ g s (l.take k)).h=s.h∧(∀ j,j < k→(pushL φ g s (l.take k)).b j=l.getD j 0)∧nS (pushL φ g s (l.take k))=pushL φ g s (l.take k):=by
  intro k
  induction k with
  | zero=>intro _ _; exact ⟨by simp [pushL],fun j hj=>by omega,by simp [pushL,hs]⟩
  | succ k ih =>
   intro hk hk2
   obtain ⟨i1,i2,i3⟩:=ih (by omega) (by omega)
   have e:l[k]? = some (l.getD k 0):=by
    rw [List.getD_eq_getElem?_getD,List.getElem?_eq_getElem (by omega)]; rfl
   have en:(pushL φ g s (l.take k)).n.toNat % 128=k:=by
    rw [push_n,UInt64.toNat_add,UInt64.toNat_ofNat',List.length_take]
    have:=s.n.toNat_lt
    omega
   have e2:pushL φ g s (l.take (k+1))=add0 (pushL φ g s (l.take k)) (l.getD k 0):=by
    rw [List.take_add_one,pushL_append,e]
    show addS φ g (pushL φ g s (l.take k)) (l.getD k 0)=_
    unfold addS
    have:(((pushL φ g s (l.take k)).n+1) % 128 == 0)=false:=by
     rw [beq_eq_false_iff_ne]
     intro h
     have h2:=congrArg UInt64.toNat h
     rw [UInt64.toNat_mod,UInt64.toNat_add] at h2
     have h3:(1:UInt64).toNat=1:=rfl
     have h4:(128:UInt64).toNat=128:=rfl
     have h5:(0:UInt64).toNat=0:=rfl
     rw [h3,h4,h5] at h2
     omega
    rw [this]; rfl
   rw [e2]
   refine ⟨?_,fun j hj => ?_,nS_add0 ..⟩
   ·show nU 8 (pushL φ g s (l.take k)).h=s.h
    rw [i1]
    exact congrArg St.h hs
   ·rw [add0_at,if_pos (by omega)]
    have e4:((pushL φ g s (l.take k)).n % 128).toNat=k:=by
     rw [UInt64.toNat_mod]
     have h4:(128:UInt64).toNat=128:=rfl
     rw [h4,en]
    rw [e4]
    by_cases hj2:j=k
    ·rw [if_pos hj2,hj2]
    ·rw [if_neg hj2]; exact i2 j (by omega)
 intro hl
 have:=key l.length (Nat.le_refl _) hl
 rwa [List.take_length] at this
theorem push_piece0 (φ:Fr) (g:Nat→UInt64) (s:St) (hs:nS s=s) (h0:s.n.toNat % 128=0) (m:List UInt8) (x:UInt8) (hl2:m.length=127) :
  (pushL φ g s (m++[x])).h=nU 8 (takeF φ g s.h fun j=>(m++[x]).getD j 0)∧nS (pushL φ g s (m++[x]))=pushL φ g s (m++[x]):=by
 obtain ⟨i1,i2,i3⟩:=push_part φ g s hs h0 m (by omega)
 have en:(pushL φ g s m).n.toNat % 128=127:=by
  rw [push_n,UInt64.toNat_add,UInt64.toNat_ofNat',hl2]
  have:=s.n.toNat_lt
  omega
 obtain ⟨t,ht⟩:∃ t,t=pushL φ g s m:=⟨_,rfl⟩
 rw [← ht] at i1 i2 i3 en
 have e2:pushL φ g s (m++[x])=takeS φ g (add0 t x):=by
  rw [pushL_append,← ht]
  show addS φ g t x=_
  unfold addS
  have:((t.n+1) % 128 == 0)=true:=by
   rw [beq_iff_eq]
   apply UInt64.toNat_inj.1
   rw [UInt64.toNat_mod,UInt64.toNat_add]
   have h3:(1:UInt64).toNat=1:=rfl
   have h4:(128:UInt64).toNat=128:=rfl
   have h5:(0:UInt64).toNat=0:=rfl
   rw [h3,h4,h5]
   omega
  rw [this]; rfl
 rw [e2]
 refine ⟨?_,nS_takeS ..⟩
 have hh:nU 8 s.h=s.h:=congrArg St.h hs
 have e5:(takeS φ g (add0 t x)).h=nU 8 (takeF φ g (nU 8 t.h) (add0 t x).b):=rfl
 rw [e5,i1,hh]
 have e6:takeF φ g s.h (add0 t x).b=takeF φ g s.h fun j=>(m++[x]).getD j 0:=by
  apply takeF_congr
  intro j hj
  have e4:(t.n % 128).toNat=127:=by
   rw [UInt64.toNat_mod]
   have h4:(128:UInt64).toNat=128:=rfl
   rw [h4,en]
  rw [add0_at,if_pos hj,e4,List.getD_eq_getElem?_getD]
  by_cases hj2:j=127
  ·rw [if_pos hj2,hj2,List.getElem?_append_right (by omega),hl2]; rfl
  ·rw [if_neg hj2,i2 j (by omega),List.getD_eq_getElem?_getD,List.getElem?_append_left (by omega)]
 rw [e6]
theorem push_piece (φ:Fr) (g:Nat→UInt64) (s:St) (hs:nS s=s) (h0:s.n.toNat % 128=0) (l:List UInt8) (hl:l.length=128) :
  (pushL φ g s l).h=nU 8 (takeF φ g s.h fun j=>l.getD j 0)∧nS (pushL φ g s l)=pushL φ g s l:=by
 have e:∃ m x,l=m++[x]∧m.length=127:=by
  have e2:l[127]? = some (l.getD 127 0):=by
   rw [List.getD_eq_getElem?_getD,List.getElem?_eq_getElem (by omega)]; rfl
  have:=List.take_add_one (l:=l) (i:=127)
  rw [e2,List.take_of_length_le (by omega)] at this
  exact ⟨l.take 127,l.getD 127 0,this,by rw [List.length_take]; omega⟩
 obtain ⟨m,x,rfl,hm⟩:=e
 exact push_piece0 φ g s hs h0 m x hm
theorem foldD_succ (P:PieceF) (η:Nat→UInt64) (c:List UInt8) (k:Nat):foldD P η c (k+1)=P (nU 8 (foldD P η c k)) fun j=>gB (c.map .u8) (128 * k+j):=rfl
theorem push_fold0 {P:PieceF}{φ:Fr}{g:Nat→UInt64}(hP:∀ h b b',(∀ i,i < 128→b i=b' i)→takeF φ g h b=P h b') (c:List UInt8):∀ k,128 * k≤c.length→(pushL φ g bS (c.take (128 * k))).h=nU 8 (foldD P hF c k)∧nS (pushL φ g bS (c.take (128 * k)))=pushL φ g bS (c.take (128 * k))
 | 0,_=>by
  have:pushL φ g bS (c.take (128 * 0))=bS:=by simp [pushL]
  rw [this]
  exact ⟨(congrArg St.h nS_bS).symm,nS_bS⟩
 | k+1,hk=>by
  obtain ⟨i1,i2⟩:=push_fold0 hP c k (by omega)
  have e:c.take (128 * (k+1))=c.take (128 * k)++(c.drop (128 * k)).take 128:=by
   rw [show 128 * (k+1)=128 * k+128 by omega,List.take_add]
  rw [e,pushL_append]
  have hn:(pushL φ g bS (c.take (128 * k))).n.toNat % 128=0:=by
   rw [push_bS_n,UInt64.toNat_ofNat',List.length_take]
   omega
  obtain ⟨s,hs⟩:∃ s,s=pushL φ g bS (c.take (128 * k)):=⟨_,rfl⟩
  rw [← hs] at i1 i2 hn ⊢
  obtain ⟨j1,j2⟩:=push_piece φ g s i2 hn ((c.drop (128 * k)).take 128) (by rw [List.length_take,List.length_drop]; omega)
  refine ⟨?_,j2⟩
  rw [j1,i1,foldD_succ]
  refine congrArg (nU 8) (hP _ _ _ fun j hj => ?_)
  rw [gB_map,List.getD_eq_getElem?_getD,List.getD_eq_getElem?_getD,List.getElem?_take_of_lt hj,List.getElem?_drop]
theorem take_piece (g h:Nat→UInt64) (b b':Nat→UInt8) (hb:∀ i,i < 128→b i=b' i):takeF φr g h b=pieceD φr g h b':=by
 rw [← take_eq]
 exact takeF_congr hb
theorem push_fold (g:Nat→UInt64) (c:List UInt8) (k:Nat) (hk:128 * k≤c.length):(pushL φr g bS (c.take (128 * k))).h=nU 8 (foldD (pieceD φr g) hF c k):=(push_fold0 (take_piece g) c k hk).1
theorem outF_at (h:Nat→UInt64):∀ n i,i < n→outF h n i=outB h i
 | n+1,i,hi=>by
  simp only [outF,updF]
  by_cases e:i=n
  ·rw [if_pos e,e]
  ·rw [if_neg e]; exact outF_at h n i (by omega)
theorem of_doc (l:List UInt8) (h:l.length < 1000000000):ofS φr kF l=docR l:=by
 unfold ofS docR docF sumS
 rw [adds_push,sum_push φr kF l (by omega)]
 have hm:=padL_mod l
 have hk:128 * ((padL l).length / 128)=(padL l).length:=by omega
 have i1:=push_fold kF (padL l) ((padL l).length / 128) (by omega)
 rw [hk,List.take_length] at i1
 rw [i1]
 apply List.map_congr_left
 intro i hi
 have hi2:i < 64:=List.mem_range.1 hi
 rw [outF_at _ _ _ hi2]
 unfold outB nU
 rw [if_pos (by omega)]
end Go.Proofs.YtcjkbimdmcfppaaGreatDoor.Sha
namespace Go.Proofs.YtcjkbimdmcfppaaGreatDoor
open Go Go.Eng Go.Num Sha Sgn
theorem docR_len (l:List UInt8):(docR l).length=64:=by simp [docR,docF]
theorem of_len (g:Nat→UInt64) (l:List UInt8):(ωr.of g l).length=64:=by
 have e:ωr.of=ofS φr:=rfl
 rw [e]
 simp [ofS,sumS]
theorem wr_doc:ωr.doc=docR:=rfl
theorem psx_ok:CSOk Tryz.prog (csP (psx ωr realFi realFz)):=csP_alt z43_ok (csP_alt (csAlt_l nWr_ok) psnj_ok)
theorem csx_ok:CSOk Tryz.prog (csx ωr realFi realFz):=csAlt_ok csz_ok (csAlt_ok csW_ok chnj_ok)
noncomputable def sgr:Fs:=sgOf ωr realFi realFz
theorem psy_ok:CSOk Tryz.prog (csP (psy sgr ωr realFi realFz)):=csP_alt (y13_ok nx_ok of_len) (csP_alt (y14_ok nx_ok docR_len) psx_ok)
theorem csy_ok:CSOk Tryz.prog (csy sgr ωr realFi realFz):=csAlt_ok (y19_ok nx_ok) csx_ok
theorem fz_clampQ:realFz.clampQ=clampL:=by simp only [realFz]
theorem fz_clamp:realFz.clamp=clampV:=by simp only [realFz]
theorem fz_canon:realFz.canon=canonW:=by simp only [realFz]
theorem fz_canonQ:realFz.canonQ=canonN:=by simp only [realFz]
theorem fi_nof:realFi.nof=ofN:=by simp only [realFi]
theorem clampl_len {k:List UInt8}(h:isLen k 32=true):(clampL k).length=32:=by
 rw [isLen_eq] at h
 unfold clampL
 rw [List.length_set,List.length_set]; exact h
theorem by32 (w:W4):(realFi.bytes (realFi.mul realFi.base w)).length=32:=by
 obtain ⟨q,f,h,_⟩:=b_mul w
 exact (pi_back h).1
theorem take_len {l:List UInt8}(h:l.length=64):isLen (l.take 32) 32=true:=isLen_of (by rw [List.length_take,h]; rfl)
theorem pi_nof {p:P4 E5}{q:P4 N16}{f:P4 Fp}(h:PI p q f) (l:List UInt8):∃ g,PI (realFi.mul p (ofW l)) (realFi.mulQ q (realFi.nof l)) g∧aff g=mulA dF (aff f) (ofW l).val:=by
 rw [fi_nof]
 exact pi_mul h (ofN_val l).1 (by rw [ofW_val,(ofN_val l).2])
theorem byq (l:List UInt8):realFi.bytesQ (realFi.mulQ realFi.baseQ (realFi.nof l))=realFi.bytes (realFi.mul realFi.base (ofW l)):=by
 obtain ⟨g,h,_⟩:=pi_nof pi_base l
 exact (pi_bytes h).symm
theorem pi_decQ {a:List UInt8}(h:realFi.decRQ a=0):∃ x:Fp × Fp,PI (realFi.dec a) (realFi.decQ a) (up x):=pi_dec (by rw [fi_rsame]; exact h)
theorem hypR:Hyp sgr ωr realFi realFz where
 hn:=csAlt_ok psy_ok csy_ok
 pre32:=fun g a=>by
  show (dr32 (ωr.of (gg g) a)).length=32
  rw [dr32_eq,List.length_drop,of_len]
 pub32:=fun g a=>by32 _
 by32:=by32
 sby32:=fun w=>by rw [fi_sby]; exact bytesW_len w
 kq32:=fun a=>by
  show (realFz.clampQ (ta32 (ωr.doc a))).length=32
  rw [fz_clampQ,ta32_eq,wr_doc]
  exact clampl_len (take_len (docR_len a))
 pq32:=fun a=>by
  show (dr32 (ωr.doc a)).length=32
  rw [dr32_eq,List.length_drop,wr_doc,docR_len]
 doc64:=docR_len
 okb:=pi_ok pi_base
 okm:=fun l=>by
  obtain ⟨g,h,_⟩:=pi_nof pi_base l
  exact pi_ok h
 byq32:=fun l=>by rw [byq]; exact by32 _
 nby32:=fun n=>by rw [fz_nby]; exact bytesN_len n
 okd:=fun a h=>by
  obtain ⟨x,hx⟩:=pi_decQ h
  exact pi_ok hx
 okdm:=fun a l h=>by
  obtain ⟨x,hx⟩:=pi_decQ h
  obtain ⟨g,hg,_⟩:=pi_nof hx l
  exact pi_ok hg
 okda:=fun a b l h k=>by
  obtain ⟨x,hx⟩:=pi_decQ h
  obtain ⟨y,hy⟩:=pi_decQ k
  obtain ⟨g,hg,_⟩:=pi_nof hx l
  exact pi_ok (pi_add hy hg)
noncomputable def ftr:Ft:=ftOf sgr ωr realFi realFz
theorem psTr_ok:CSOk Tryz.prog (csP (psT ftr)):=psT_ok hypR psy_ok csy_ok
theorem nkF:nU 80 kF=kF:=by
 funext j
 unfold nU kF
 by_cases h:j < 80
 ·rw [if_pos h]
 ·rw [if_neg h]
  simp only [List.getD,List.getElem?_eq_none (show roundsL.length≤j by simp only [roundsL,List.length_cons,List.length_nil]; omega),Option.getD_none]
theorem nS_push (φ:Fr) (g:Nat→UInt64):∀ (l:List UInt8) (s:St),nS s=s→nS (pushL φ g s l)=pushL φ g s l
 | [],s,hs=>hs
 | x::l,s,hs=>nS_push φ g l (addS φ g s x) (nS_addS ..)
theorem ggk:gg kF=kF:=gg_of nkF
theorem st1_push {s:St}(hs:nS s=s) (a:List UInt8):st1 ωr kF s a=pushL φr kF s a:=by
 unfold st1
 rw [ggk,hstS hs]
 exact adds_push ..
theorem sum_doc (l:List UInt8) (h:l.length < 1000000000):ωr.sum kF (pushL φr kF bS l)=docR l:=by
 rw [← of_doc l h]
 unfold ofS
 rw [adds_push]
 rfl
theorem wr_new:ωr.new=bS:=rfl
theorem nb2_doc (a b:List UInt8) (h:(a++b).length < 1000000000):nb2 ωr realFi kF a b=Sgn.numW docR (a++b):=by
 unfold nb2 Sgn.numW
 rw [wr_new,st1_push nS_bS,st1_push (nS_push _ _ _ _ nS_bS),← pushL_append,hstS (nS_push _ _ _ _ nS_bS),ggk,sum_doc _ h]
theorem nb3_doc (a b c:List UInt8) (h:(a++(b++c)).length < 1000000000):nb3 ωr realFi kF a b c=Sgn.numW docR (a++(b++c)):=by
 unfold nb3 Sgn.numW
 rw [wr_new,st1_push nS_bS,st1_push (nS_push _ _ _ _ nS_bS),← pushL_append,st1_push (nS_push _ _ _ _ nS_bS),← pushL_append,hstS (nS_push _ _ _ _ nS_bS),ggk,List.append_assoc,sum_doc _ h]
theorem of_doc2 (l:List UInt8) (h:l.length < 1000000000):ωr.of (gg kF) l=docR l:=by
 rw [ggk]
 exact of_doc l h
end Go.Proofs.YtcjkbimdmcfppaaGreatDoor
namespace Go.Proofs.YtcjkbimdmcfppaaGreatDoor
open Go Go.Eng Go.Num Sha Sgn
theorem sg_n2:sgr.n2=nb2 ωr realFi:=by simp only [sgr,sgOf]
theorem sg_n3:sgr.n3=nb3 ωr realFi:=by simp only [sgr,sgOf]
theorem sg_key:sgr.key=keyO ωr realFi realFz:=by simp only [sgr,sgOf]
theorem sg_pre:sgr.pre=preO ωr:=by simp only [sgr,sgOf]
theorem sg_pub:sgr.pub=pubO ωr realFi realFz:=by simp only [sgr,sgOf]
theorem sg_kq (a:List UInt8):sgr.kq a=realFz.clampQ (ta32 (ωr.doc a)):=by simp only [sgr,sgOf]
theorem sg_pq (a:List UInt8):sgr.pq a=dr32 (ωr.doc a):=by simp only [sgr,sgOf]
theorem ft_pub (g:Nat→UInt64) (a:List UInt8):ftr.pub g a=sgr.pub (gg g) a:=by simp only [ftr,ftOf]
theorem ft_pubQ:ftr.pubQ=pubQT sgr realFi:=by simp only [ftr,ftOf]
theorem ft_sgn:ftr.sgn=sgnT sgr realFi:=by simp only [ftr,ftOf]
theorem ft_sgnQ:ftr.sgnQ=sgnQT sgr ωr realFi realFz:=by simp only [ftr,ftOf]
theorem ft_ver:ftr.ver=verT sgr realFi realFz:=by simp only [ftr,ftOf]
theorem ft_verQ:ftr.verQ=verQT ωr realFi realFz:=by simp only [ftr,ftOf]
theorem key_doc (a:List UInt8) (h:a.length < 1000000000):sgr.key (gg kF) a=keyW docR a:=by
 rw [sg_key]
 unfold keyO keyW
 rw [ggk,of_doc2 a h,fz_clamp,ta32_eq]
theorem pre_doc (a:List UInt8) (h:a.length < 1000000000):sgr.pre (gg kF) a=preB docR a:=by
 rw [sg_pre]
 unfold preO preB
 rw [ggk,of_doc2 a h,dr32_eq]
theorem pub_doc (a:List UInt8) (h:a.length < 1000000000):sgr.pub (gg kF) a=pubB docR a:=by
 have:=key_doc a h
 rw [sg_key] at this
 rw [sg_pub]
 unfold Sgn.pubB pubO
 rw [this]
theorem pubB_len (a:List UInt8):(pubB docR a).length=32:=by32 _
theorem rB_len (a b:List UInt8):(rB docR a b).length=32:=by32 _
theorem preB_len (a:List UInt8):(preB docR a).length=32:=by
 unfold preB
 rw [List.length_drop,docR_len]
theorem n2_doc (a b:List UInt8) (h:(a++b).length < 1000000000):sgr.n2 (gg kF) a b=numW docR (a++b):=by
 rw [ggk,sg_n2,nb2_doc a b h]
theorem n3_doc (a b c:List UInt8) (h:(a++(b++c)).length < 1000000000):sgr.n3 (gg kF) a b c=numW docR (a++(b++c)):=by
 rw [ggk,sg_n3,nb3_doc a b c h]
theorem sw_doc (a b:List UInt8) (ha:a.length < 100000000) (hb:b.length < 100000000):sw sgr kF a b=rW docR a b:=by
 unfold sw rW
 rw [pre_doc a (by omega),n2_doc _ _ (by rw [List.length_append,preB_len]; omega)]
theorem sr_doc (a b:List UInt8) (ha:a.length < 100000000) (hb:b.length < 100000000):sr sgr realFi kF a b=rB docR a b:=by
 unfold sr rB
 rw [sw_doc a b ha hb]
theorem sgn_doc (a b:List UInt8) (ha:a.length < 100000000) (hb:b.length < 100000000):ftr.sgn kF a b=sigB docR a b:=by
 rw [ft_sgn]
 unfold sgnT sigB xW
 rw [sr_doc a b ha hb,sw_doc a b ha hb,pub_doc a (by omega),key_doc a (by omega),n3_doc _ _ _ (by rw [List.length_append,List.length_append,rB_len,pubB_len]; omega)]
theorem pubT_doc (a:List UInt8) (h:a.length < 100000000):ftr.pub kF a=pubB docR a:=by rw [ft_pub,pub_doc a (by omega)]
theorem ver_doc (a b c:List UInt8) (ha:a.length < 100000000) (hb:b.length < 100000000):ftr.ver kF a b c=verP docR a b c:=by
 rw [ft_ver]
 unfold verT verP
 rw [n3_doc _ _ _ (by rw [List.length_append,List.length_append,ta32_eq,List.length_take]; omega),fz_canon,dr32_eq,ta32_eq]
theorem kq_doc (a:List UInt8):sgr.kq a=clampL ((docR a).take 32):=by
 rw [sg_kq,fz_clampQ,ta32_eq,wr_doc]
theorem pq_doc (a:List UInt8):sgr.pq a=preB docR a:=by
 rw [sg_pq,dr32_eq,wr_doc]
 rfl
theorem keyW_of (a:List UInt8):keyW docR a=ofW (clampL ((docR a).take 32)):=by
 have hi:=take_len (docR_len a)
 have e:clampV ((docR a).take 32)=clampL ((docR a).take 32):=by unfold clampV; rw [hi]; rfl
 unfold keyW
 rw [e,fi_sof,oV_ok (okL32 (clampl_len hi))]
theorem numW_of (l:List UInt8):numW docR l=ofW (docR l):=by
 unfold numW
 rw [fi_sof,oV_ok (okL64 (docR_len l))]
theorem pubQ_doc (a:List UInt8):ftr.pubQ a=pubB docR a:=by
 rw [ft_pubQ]
 unfold pubQT Sgn.pubB
 rw [kq_doc,byq,keyW_of]
theorem qr_doc (a b:List UInt8):qr sgr ωr realFi a b=rB docR a b:=by
 unfold qr rB rW
 rw [byq,pq_doc,wr_doc,numW_of]
theorem sgnQ_doc (a b:List UInt8):ftr.sgnQ a b=sigB docR a b:=by
 rw [ft_sgnQ]
 have hp:pubQT sgr realFi a=pubB docR a:=by rw [← ft_pubQ,pubQ_doc a]
 unfold sgnQT sigB
 rw [qr_doc,hp,pq_doc,kq_doc,wr_doc]
 refine congrArg (rB docR a b ++ ·) ?_
 rw [fi_nof,fz_nby,fz_nadd,fz_nmul,fi_sby]
 unfold xW rW
 rw [fi_sadd,fi_smul,numW_of,numW_of,keyW_of,List.append_assoc]
 have h1:=ofN_val (docR (preB docR a++b))
 have h2:=ofN_val (docR (rB docR a b++(pubB docR a++b)))
 have h3:=ofN_val (clampL ((docR a).take 32))
 have m:=mulN_val _ _ h2.1 h3.1
 have s:=addN_val _ _ h1.1 m.1
 refine (same_bytes s.1 ?_).symm
 rw [s.2,m.2,h1.2,h2.2,h3.2,addW_val _ _ (ofW_lt _) (by rw [mulW_val]; exact Nat.mod_lt _ Lq_pos),mulW_val,ofW_val,ofW_val,ofW_val]
theorem smallQ_doc {a:List UInt8}(h:realFi.decRQ a=0):realFi.smallQ (realFi.decQ a)=realFi.small (realFi.dec a):=by
 obtain ⟨x,hx⟩:=pi_decQ h
 have h2:=pi_add hx hx
 have h4:=pi_add h2 h2
 have h8:=pi_add h4 h4
 rw [small_eq,smallQ_eq]
 exact (pi_same h8 pi_zero).symm
theorem decR_len {a:List UInt8}(h:isLen a 32=false):¬ realFi.decR a=0:=fun e=>by
 rw [fi_decR] at e
 rw [(decR_ok e).1] at h
 cases h
theorem verQ_doc (a b c:List UInt8):ftr.verQ a b c=verP docR a b c:=by
 rw [ft_verQ]
 unfold verQT verP
 rw [fz_canonQ,dr32_eq,ta32_eq,wr_doc,← canon_same]
 cases hi:isLen a 32 with
 | false =>
  rw [decide_eq_false (decR_len hi),Bool.false_and,cond_false,Bool.false_and,cond_false]
  cases isLen c 64 && canonW (c.drop 32) <;> rfl
 | true =>
  rw [Bool.true_and]
  cases hc:isLen c 64 with
  | false=>rfl
  | true =>
   by_cases ha:realFi.decRQ a=0
   ·by_cases hr:realFi.decRQ (c.take 32)=0
    ·rw [smallQ_doc ha,fi_rsame (c.take 32),fi_rsame a]
     have e:realFi.sameQ (realFi.mulQ realFi.baseQ (realFi.nof (c.drop 32))) (realFi.addQ (realFi.decQ (c.take 32)) (realFi.mulQ (realFi.decQ a) (realFi.nof (docR ((c.take 32++a)++b)))))=realFi.same (realFi.mul realFi.base (realFi.sof (c.drop 32))) (realFi.add (realFi.dec (c.take 32)) (realFi.mul (realFi.dec a) (numW docR (c.take 32++(a++b))))):=by
      obtain ⟨x,hx⟩:=pi_decQ ha
      obtain ⟨y,hy⟩:=pi_decQ hr
      have hl:okL (c.drop 32)=true:=okL32 (by rw [List.length_drop,Nat.eq_of_beq_eq_true hc])
      obtain ⟨g1,p1,_⟩:=pi_nof pi_base (c.drop 32)
      obtain ⟨g2,p2,_⟩:=pi_nof hx (docR (c.take 32++(a++b)))
      rw [fi_sof,oV_ok hl,numW_of,List.append_assoc]
      exact (pi_same p1 (pi_add hy p2)).symm
     rw [e]
    ·rw [fi_rsame (c.take 32),decide_eq_false hr]
     simp only [Bool.false_and,Bool.and_false,cond_false]
   ·rw [fi_rsame a,decide_eq_false ha]
    simp only [Bool.false_and,Bool.and_false,cond_false]
end Go.Proofs.YtcjkbimdmcfppaaGreatDoor
namespace Go.Proofs.YtcjkbimdmcfppaaGreatDoor
open Go Go.Eng Go.Num Sha
def nT (τ:Ft):CS:=csAlt (csP (psT τ)) noCS
theorem nT_ps (τ:Ft):PSOk (psT τ) (nT τ):=csP_ok
def y6 (v:(Nat→UInt64)→Option AVal):List AVal→Option EffA
 | []=>some (tabL v)
 | _=>none
def n6 (τ:Ft) (v:(Nat→UInt64)→Option AVal):CS:=csAlt (csP (psT τ)) (csOne 6 (y6 v))
theorem n6_ps (τ:Ft) (v:(Nat→UInt64)→Option AVal):PSOk (psT τ) (n6 τ v):=csP_ok
noncomputable def alP (v:(Nat→UInt64)→Option AVal) (base:Nat) (H:HL):Bool:=decP ((tabL v).app base H=some (.bool true,H))
def z0:List UInt8:=List.replicate 32 0
def tx1:List UInt8:=[116,101,120,116]
def ta63 (l:List UInt8):List UInt8:=List.drop (Int.toNat 0) (List.take (Int.toNat 63) l)
def tx2:List UInt8:=[116,101,120,84]
end Go.Proofs.YtcjkbimdmcfppaaGreatDoor
namespace Go.Proofs.YtcjkbimdmcfppaaGreatDoor
open Go Go.Eng Go.Num Sha
def tL (τ:Ft) (g:Nat→UInt64) (a b:List UInt8):List UInt8:=(sc a (τ.pub (gg g) a)++sc a (τ.sgn (gg g) a b))++b
def pX (X:List UInt8) (m:Nat) (x:UInt8):List AVal:=putA (X.map .u8) (0+((m:Int).toNat * 1)) (cellsA (.u8 x))
def H5 (τ:Ft) (g:Nat→UInt64) (a b:List UInt8) (m:Nat) (x:UInt8):HL:=[(0,.cells true (cellsU 80 g)),(434,.cells false (pX (tL τ g a b) m x))]
def qW (y:Int):Nat:=BitVec.toNat ((BitVec.ofInt (IntKind.bits .i64) y) &&& (BitVec.ofInt (IntKind.bits .i64) 16777215))
section
variable (τ:Ft) (al:(Nat→UInt64)→Option AVal) (g:Nat→UInt64) (a b c d e:List UInt8) (n:Int) (m:Nat) (x y:UInt8)
def alOb:List Bool:=[((Nat.ble (List.length (τ.pub (gg g) z0)) 10000000) && (Nat.ble (List.length tx1) 10000000)),((decide ((0:Int)≤0)) && ((decide ((0:Int)≤63)) && (decide (63≤((List.length (τ.sgn (gg g) z0 tx1):Nat):Int))))),!(τ.ver (gg g) (τ.pub (gg g) z0) tx2 (τ.sgn (gg g) z0 tx1)),((Nat.ble (List.length (τ.pub (gg g) z0)) 10000000) && (Nat.ble (List.length tx2) 10000000)),(τ.ver (gg g) (τ.pub (gg g) z0) tx1 (τ.sgn (gg g) z0 tx1)),((Nat.ble (List.length (τ.pub (gg g) z0)) 10000000) && (Nat.ble (List.length tx1) 10000000)),true,(((List.length (τ.sgn (gg g) z0 tx1):Nat):Int) == 64),(((List.length (τ.pub (gg g) z0):Nat):Int) == 32),true,true,true,true,true]
theorem a6:ansO (run1O Tryz.prog (psT τ) (nT τ) [12,17,21,25,28,33,38,42,47,52,58,59] [true,true,true,true,true,true,false] [] (mask 6) 200 6 [] [(0,.cells true (cellsU 80 g))] 2)=some (.bool (!τ.ver (gg g) (τ.pub (gg g) z0) tx1 (ta63 (τ.sgn (gg g) z0 tx1))),
 alOb τ g):=by kernel_rfl
theorem s3x:ansO (run1O Tryz.prog (psT τ) (n6 τ al) [18,22,27,33,39,44,48,53,58,300019] [true] [.bool true,.tup []] (mask 3) 200 3 [.str a,.str b] [(0,.cells true (cellsU 80 g))] 2)=some ((AVal.bool true),
 [alP al 58 ([(0,.cells true (cellsU 80 g))]),(decide ((2048:Int) < (IntKind.wrap IntKind.i64 (((List.length a:Nat):Int)+((List.length b:Nat):Int)))))]):=by kernel_rfl
theorem s3y:ansO (run1O Tryz.prog (psT τ) (n6 τ al) [18,22,27,33,39,44,48,53,58,300061] [false,true,true,true,true] [.bool true,.tup []] (mask 3) 200 3 [.str a,.str b] [(0,.cells true (cellsU 80 g))] 2)=some ((AVal.bool true),
 [alP al 450 ([(0,.cells true (cellsU 80 g))]),((cond (isLen a 32) (0:Int) 2) == (cond (isLen a 32) (0:Int) 2)),((sc a (τ.sgn (gg g) a b)) == (sc a (τ.sgnQ a b))),((cond (isLen a 32) (0:Int) 2) == (cond (isLen a 32) (0:Int) 2)),((sc a (τ.pub (gg g) a)) == (sc a (τ.pubQ a))),((Nat.ble (List.length a) 100000000) && (Nat.ble (List.length b) 10000000)),((Nat.ble (List.length a) 100000000) && (Nat.ble (List.length b) 10000000)),(Nat.ble (List.length a) 100000000),(Nat.ble (List.length a) 100000000),!(decide ((2048:Int) < (IntKind.wrap IntKind.i64 (((List.length a:Nat):Int)+((List.length b:Nat):Int)))))]):=by kernel_rfl
theorem s4x:ansO (run1O Tryz.prog (psT τ) (n6 τ al) [15,20,24,25,300016] [true] [.bool true,.tup []] (mask 4) 200 4 [.str a,.str b,.str c] [(0,.cells true (cellsU 80 g))] 2)=some ((AVal.bool true),
 [alP al 82 ([(0,.cells true (cellsU 80 g))]),(decide ((2048:Int) < (IntKind.wrap IntKind.i64 ((IntKind.wrap IntKind.i64 (((List.length a:Nat):Int)+((List.length b:Nat):Int)))+((List.length c:Nat):Int)))))]):=by kernel_rfl
theorem s4y:ansO (run1O Tryz.prog (psT τ) (n6 τ al) [15,20,24,25,300027] [false,true,true] [.bool true,.tup []] (mask 4) 200 4 [.str a,.str b,.str c] [(0,.cells true (cellsU 80 g))] 2)=some ((AVal.bool true),
 [alP al 162 ([(0,.cells true (cellsU 80 g))]),(τ.verQ a b c),((Nat.ble (List.length a) 10000000) && (Nat.ble (List.length b) 10000000)),(τ.ver (gg g) a b c),((Nat.ble (List.length a) 10000000) && (Nat.ble (List.length b) 10000000)),!(decide ((2048:Int) < (IntKind.wrap IntKind.i64 ((IntKind.wrap IntKind.i64 (((List.length a:Nat):Int)+((List.length b:Nat):Int)))+((List.length c:Nat):Int)))))]):=by kernel_rfl
theorem s4z:ansO (run1O Tryz.prog (psT τ) (n6 τ al) [15,20,24,25,300027] [false,false,false] [.bool true,.tup []] (mask 4) 200 4 [.str a,.str b,.str c] [(0,.cells true (cellsU 80 g))] 2)=some ((AVal.bool true),
 [alP al 162 ([(0,.cells true (cellsU 80 g))]),!(τ.verQ a b c),((Nat.ble (List.length a) 10000000) && (Nat.ble (List.length b) 10000000)),!(τ.ver (gg g) a b c),((Nat.ble (List.length a) 10000000) && (Nat.ble (List.length b) 10000000)),!(decide ((2048:Int) < (IntKind.wrap IntKind.i64 ((IntKind.wrap IntKind.i64 (((List.length a:Nat):Int)+((List.length b:Nat):Int)))+((List.length c:Nat):Int)))))]):=by kernel_rfl
theorem s5A:ansO (run1O Tryz.prog (psT τ) (n6 τ al) [17,21,26,32,36,39,44,49,55,59,63,65,200071,71,76,77,80,100080,82,83,85,86,88,89,90,92,93,95,96,98,99,100,300023,300060,300103] [true] [.bool true,.tup []] (mask 5) 200 5 [.str a,.str b,.int .i64 n,.u8 y] [(0,.cells true (cellsU 80 g))] 2)=some ((AVal.bool true),
 [alP al 74 ([(0,.cells true (cellsU 80 g))]),(((List.length a:Nat):Int) != 32)]):=by kernel_rfl
theorem s5B:ansO (run1O Tryz.prog (psT τ) (n6 τ al) [17,21,26,32,36,39,44,49,55,59,63,65,200071,71,76,77,80,100080,82,83,85,86,88,89,90,92,93,95,96,98,99,100,300023,300060,300103] [false,true] [.bool true,.tup []] (mask 5) 200 5 [.str a,.str b,.int .i64 n,.u8 y] [(0,.cells true (cellsU 80 g))] 2)=some ((AVal.bool true),
 [alP al 74 ([(0,.cells true (cellsU 80 g))]),(decide ((1024:Int) < ((List.length b:Nat):Int))),!(((List.length a:Nat):Int) != 32)]):=by kernel_rfl
theorem s5C:ansO (run1O Tryz.prog (psT τ) (n6 τ al) [17,21,26,32,36,39,44,49,55,59,63,65,200071,71,76,77,80,100080,82,83,85,86,88,89,90,92,93,95,96,98,99,100,300023,300060,300103] [false,false,false,false,false,false,true,true] [.bool true,.tup []] (mask 5) 200 5 [.str a,.str b,.int .i64 n,.u8 y] [(0,.cells true (cellsU 80 g))] 2)=some ((AVal.bool true),
 [alP al 394 ([(0,.cells true (cellsU 80 g))]),(y == (0)),(τ.ver (gg g) (sc a (τ.pub (gg g) a)) b (sc a (τ.sgn (gg g) a b))),((Nat.ble (List.length (sc a (τ.pub (gg g) a))) 10000000) && (Nat.ble (List.length b) 10000000)),!(((List.length (sc a (τ.sgn (gg g) a b)):Nat):Int) != 64),!(((List.length (sc a (τ.pub (gg g) a)):Nat):Int) != 32),!((cond (isLen a 32) (0:Int) 2) != 0),!((cond (isLen a 32) (0:Int) 2) != 0),((Nat.ble (List.length a) 100000000) && (Nat.ble (List.length b) 10000000)),(Nat.ble (List.length a) 100000000),!(decide ((1024:Int) < ((List.length b:Nat):Int))),!(((List.length a:Nat):Int) != 32)]):=by kernel_rfl
theorem s5D:ansO (run1O Tryz.prog (psT τ) (n6 τ al) [17,21,26,32,36,39,44,49,55,59,63,65,200071,71,76,77,80,100080,82,83,85,86,88,89,90,92,93,95,96,98,99,100,300023,300060,300103] [false,false,false,false,false,false,true,false,true,true] [.int .i64 (m:Int),.u8 x,.str c,.str d,.str e,.str c,.str d,.str e,.bool true,.tup []] (mask 5) 200 5 [.str a,.str b,.int .i64 n,.u8 y] [(0,.cells true (cellsU 80 g))] 2)=some ((AVal.bool true),
 [alP al 754 (H5 τ g a b m (x ^^^ y)),(τ.verQ c d e),((Nat.ble (List.length c) 10000000) && (Nat.ble (List.length d) 10000000)),(strAt (pX (tL τ g a b) m (x ^^^ y)) (0+((Int.toNat 32) * 1)) ((Int.toNat 96) - (Int.toNat 32)) e),((decide ((0:Int)≤32)) && ((decide ((32:Int)≤96)) && (decide (96≤((List.length (tL τ g a b):Nat):Int))))),(strAt (pX (tL τ g a b) m (x ^^^ y)) (0+((Int.toNat 96) * 1)) ((Int.toNat ((List.length (tL τ g a b):Nat):Int)) - (Int.toNat 96)) d),((decide ((0:Int)≤96)) && ((decide (96≤((List.length (tL τ g a b):Nat):Int))) && (decide (((List.length (tL τ g a b):Nat):Int)≤((List.length (tL τ g a b):Nat):Int))))),(strAt (pX (tL τ g a b) m (x ^^^ y)) (0+((Int.toNat 0) * 1)) ((Int.toNat 32) - (Int.toNat 0)) c),((decide ((0:Int)≤0)) && ((decide ((0:Int)≤32)) && (decide (32≤((List.length (tL τ g a b):Nat):Int))))),(τ.ver (gg g) c d e),((Nat.ble (List.length c) 10000000) && (Nat.ble (List.length d) 10000000)),(strAt (pX (tL τ g a b) m (x ^^^ y)) (0+((Int.toNat 32) * 1)) ((Int.toNat 96) - (Int.toNat 32)) e),((decide ((0:Int)≤32)) && ((decide ((32:Int)≤96)) && (decide (96≤((List.length (tL τ g a b):Nat):Int))))),(strAt (pX (tL τ g a b) m (x ^^^ y)) (0+((Int.toNat 96) * 1)) ((Int.toNat ((List.length (tL τ g a b):Nat):Int)) - (Int.toNat 96)) d),((decide ((0:Int)≤96)) && ((decide (96≤((List.length (tL τ g a b):Nat):Int))) && (decide (((List.length (tL τ g a b):Nat):Int)≤((List.length (tL τ g a b):Nat):Int))))),(strAt (pX (tL τ g a b) m (x ^^^ y)) (0+((Int.toNat 0) * 1)) ((Int.toNat 32) - (Int.toNat 0)) c),((decide ((0:Int)≤0)) && ((decide ((0:Int)≤32)) && (decide (32≤((List.length (tL τ g a b):Nat):Int))))),(Nat.ble ((0+((Int.toNat (m:Int)) * 1))+(List.length (cellsA (AVal.u8 (x ^^^ y))))) (List.length (List.map AVal.u8 (tL τ g a b)))),((decide ((0:Int)≤(m:Int))) && (decide ((m:Int) < ((List.length (tL τ g a b):Nat):Int)))),(isAt (List.map AVal.u8 (tL τ g a b)) (0+((Int.toNat (m:Int)) * 1)) (AVal.u8 x)),((decide ((0:Int)≤(m:Int))) && (decide ((m:Int) < ((List.length (tL τ g a b):Nat):Int)))),(eqS (AVal.int IntKind.i64 (Int.tmod (IntKind.wrap IntKind.i64 ((qW n:Nat):Int)) ((List.length (tL τ g a b):Nat):Int))) (AVal.int IntKind.i64 (m:Int))),!(((List.length (tL τ g a b):Nat):Int) == 0),(Nat.ble ((List.length ((sc a (τ.pub (gg g) a))++(sc a (τ.sgn (gg g) a b))))+(List.length b)) 9223372036854775807),(Nat.ble ((List.length (sc a (τ.pub (gg g) a)))+(List.length (sc a (τ.sgn (gg g) a b)))) 9223372036854775807),!(y == (0)),(τ.ver (gg g) (sc a (τ.pub (gg g) a)) b (sc a (τ.sgn (gg g) a b))),((Nat.ble (List.length (sc a (τ.pub (gg g) a))) 10000000) && (Nat.ble (List.length b) 10000000)),!(((List.length (sc a (τ.sgn (gg g) a b)):Nat):Int) != 64),!(((List.length (sc a (τ.pub (gg g) a)):Nat):Int) != 32),!((cond (isLen a 32) (0:Int) 2) != 0),!((cond (isLen a 32) (0:Int) 2) != 0),((Nat.ble (List.length a) 100000000) && (Nat.ble (List.length b) 10000000)),(Nat.ble (List.length a) 100000000),!(decide ((1024:Int) < ((List.length b:Nat):Int))),!(((List.length a:Nat):Int) != 32)]):=by kernel_rfl
theorem s5E:ansO (run1O Tryz.prog (psT τ) (n6 τ al) [17,21,26,32,36,39,44,49,55,59,63,65,200071,71,76,77,80,100080,82,83,85,86,88,89,90,92,93,95,96,98,99,100,300023,300060,300103] [false,false,false,false,false,false,true,false,false,false] [.int .i64 (m:Int),.u8 x,.str c,.str d,.str e,.str c,.str d,.str e,.bool true,.tup []] (mask 5) 200 5 [.str a,.str b,.int .i64 n,.u8 y] [(0,.cells true (cellsU 80 g))] 2)=some ((AVal.bool true),
 [alP al 754 (H5 τ g a b m (x ^^^ y)),!(τ.verQ c d e),((Nat.ble (List.length c) 10000000) && (Nat.ble (List.length d) 10000000)),(strAt (pX (tL τ g a b) m (x ^^^ y)) (0+((Int.toNat 32) * 1)) ((Int.toNat 96) - (Int.toNat 32)) e),((decide ((0:Int)≤32)) && ((decide ((32:Int)≤96)) && (decide (96≤((List.length (tL τ g a b):Nat):Int))))),(strAt (pX (tL τ g a b) m (x ^^^ y)) (0+((Int.toNat 96) * 1)) ((Int.toNat ((List.length (tL τ g a b):Nat):Int)) - (Int.toNat 96)) d),((decide ((0:Int)≤96)) && ((decide (96≤((List.length (tL τ g a b):Nat):Int))) && (decide (((List.length (tL τ g a b):Nat):Int)≤((List.length (tL τ g a b):Nat):Int))))),(strAt (pX (tL τ g a b) m (x ^^^ y)) (0+((Int.toNat 0) * 1)) ((Int.toNat 32) - (Int.toNat 0)) c),((decide ((0:Int)≤0)) && ((decide ((0:Int)≤32)) && (decide (32≤((List.length (tL τ g a b):Nat):Int))))),!(τ.ver (gg g) c d e),((Nat.ble (List.length c) 10000000) && (Nat.ble (List.length d) 10000000)),(strAt (pX (tL τ g a b) m (x ^^^ y)) (0+((Int.toNat 32) * 1)) ((Int.toNat 96) - (Int.toNat 32)) e),((decide ((0:Int)≤32)) && ((decide ((32:Int)≤96)) && (decide (96≤((List.length (tL τ g a b):Nat):Int))))),(strAt (pX (tL τ g a b) m (x ^^^ y)) (0+((Int.toNat 96) * 1)) ((Int.toNat ((List.length (tL τ g a b):Nat):Int)) - (Int.toNat 96)) d),((decide ((0:Int)≤96)) && ((decide (96≤((List.length (tL τ g a b):Nat):Int))) && (decide (((List.length (tL τ g a b):Nat):Int)≤((List.length (tL τ g a b):Nat):Int))))),(strAt (pX (tL τ g a b) m (x ^^^ y)) (0+((Int.toNat 0) * 1)) ((Int.toNat 32) - (Int.toNat 0)) c),((decide ((0:Int)≤0)) && ((decide ((0:Int)≤32)) && (decide (32≤((List.length (tL τ g a b):Nat):Int))))),(Nat.ble ((0+((Int.toNat (m:Int)) * 1))+(List.length (cellsA (AVal.u8 (x ^^^ y))))) (List.length (List.map AVal.u8 (tL τ g a b)))),((decide ((0:Int)≤(m:Int))) && (decide ((m:Int) < ((List.length (tL τ g a b):Nat):Int)))),(isAt (List.map AVal.u8 (tL τ g a b)) (0+((Int.toNat (m:Int)) * 1)) (AVal.u8 x)),((decide ((0:Int)≤(m:Int))) && (decide ((m:Int) < ((List.length (tL τ g a b):Nat):Int)))),(eqS (AVal.int IntKind.i64 (Int.tmod (IntKind.wrap IntKind.i64 ((qW n:Nat):Int)) ((List.length (tL τ g a b):Nat):Int))) (AVal.int IntKind.i64 (m:Int))),!(((List.length (tL τ g a b):Nat):Int) == 0),(Nat.ble ((List.length ((sc a (τ.pub (gg g) a))++(sc a (τ.sgn (gg g) a b))))+(List.length b)) 9223372036854775807),(Nat.ble ((List.length (sc a (τ.pub (gg g) a)))+(List.length (sc a (τ.sgn (gg g) a b)))) 9223372036854775807),!(y == (0)),(τ.ver (gg g) (sc a (τ.pub (gg g) a)) b (sc a (τ.sgn (gg g) a b))),((Nat.ble (List.length (sc a (τ.pub (gg g) a))) 10000000) && (Nat.ble (List.length b) 10000000)),!(((List.length (sc a (τ.sgn (gg g) a b)):Nat):Int) != 64),!(((List.length (sc a (τ.pub (gg g) a)):Nat):Int) != 32),!((cond (isLen a 32) (0:Int) 2) != 0),!((cond (isLen a 32) (0:Int) 2) != 0),((Nat.ble (List.length a) 100000000) && (Nat.ble (List.length b) 10000000)),(Nat.ble (List.length a) 100000000),!(decide ((1024:Int) < ((List.length b:Nat):Int))),!(((List.length a:Nat):Int) != 32)]):=by kernel_rfl
end
end Go.Proofs.YtcjkbimdmcfppaaGreatDoor
