/- Texts Rd4, Rd5, Rd6, Fp, Mq1, Num6, Ed1, Ed2, Ed3, Ed4, Ed5, Ed6, Ed7, PrimeL, Mq3, Rq0: what they show that this claim uses. -/
import Derived.Test.YtlchjbidkdokmaaGreatDoorQ10
import Derived.Test.YtlchjbidkdokmaaGreatDoorQ9
import Derived.Test.YtlchjbidkdokmaaGreatDoorQ7
set_option maxRecDepth 100000
set_option maxHeartbeats 1000000
set_option linter.unusedVariables false
set_option linter.unusedSimpArgs false
namespace Go.Proofs.YtlchjbidkdokmaaGreatDoor.Bk
open Go Go.Eng Go.Num Go.Bla
noncomputable def csS:CS:=csAlt (csP (psOne 166 g101)) (nU 2)
theorem csS_ok:CSOk Tryz.prog csS:=csAlt_ok g101_ok (nU_ok _)
def T73 (s:List UInt8) (x:Int):TL:=[(0,.int .i64 32),(1,.str []),(2,.str s),(6,.str []),(7,.ptr 21 0),(8,.str s),(28,.bool false),(9,.int .i64 x)]
def S73 (s:List UInt8) (x:Int) (h:Nat→UInt32):SA:=⟨T73 s x,[(21,.cells false (cellsW 8 h))],181⟩
def E73 (s:List UInt8) (x:Int) (h:Nat→UInt32):SA:=⟨T73 s x++[(42,.bool false)],[(21,.cells false (cellsW 8 h))],221⟩
def R73 (s:List UInt8) (x:Int) (h:Nat→UInt32) (r:List UInt8):SA:=⟨T73 s x++[(42,.bool false),(10,.str r)],[(21,.cells false (cellsW 8 h))],253⟩
def h0D (i:Nat):UInt32:=cond (Nat.beq i 0) (((iv 0 ^^^ 0x01010000) ^^^ shl_u32 (UInt32.ofInt 0) 8) ^^^ UInt32.ofInt 32) (iv i)
noncomputable def p73:List Code:=pieces (bodyOf Tryz.f134)
noncomputable def b73:Code:=loopOf (p73.getD 7 .skip)
def sl73 (s:List UInt8) (a b:Int):List UInt8:=(s.take b.toNat).drop a.toNat
def in73 (s:List UInt8) (a b:Int):Bool:=decide (0≤a) && (decide (a≤b) && decide (b≤(s.length:Int)))
noncomputable def obQ (h h2:Nat→UInt32) (n:UInt64) (p:List UInt8) (l:Bool) (base:Nat) (H:HL):Bool:=decP ((EffA.pure (.agg (cellsW 8 (pieceD (w32 (cellsW 8 h)) n (gB p) l)))).app base H=some (.agg (cellsW 8 h2),H))
def zC (k:Nat):List AVal:=(List.range (64 - k)).map fun _=>.u8 0
section
variable (s:List UInt8) (x:Int) (h h2 u:Nat→UInt32) (f:Nat→UInt8)
theorem pre73:segO (evSO Tryz.prog (psOne 166 g101) csS [] Tryz.f134.ntmps (mask 134) 200 5 (p73.take 7) ⟨startT [.int .i64 32,.str [],.str s] 0,[],5⟩ ⟨[],[],[]⟩)=some (S73 s 0 h0D,[]):=by kernel_rfl
theorem rnd73 (F:Nat):roundO2 Tryz.prog (psOne 166 g101) csS [42,48,52,300052] [true] [.agg (cellsW 8 h2),.tup []] Tryz.f134.ntmps (mask 134) F 5 b73 (S73 s 0 u) (S73 s x h)=some (S73 s (IntKind.wrap .i64 (x+64)) h2,[obQ h h2 (UInt64.ofInt (IntKind.wrap .i64 (x+64))) (sl73 s x (IntKind.wrap .i64 (x+64))) false 289 [(21,.cells false (cellsW 8 h))],gd101 (cellsW 8 h) (sl73 s x (IntKind.wrap .i64 (x+64))),in73 s x (IntKind.wrap .i64 (x+64)),decide (64 < IntKind.wrap .i64 ((s.length:Int) - x))]):=by kernel_rfl
theorem ext73 (F:Nat):evT Tryz.prog (psOne 166 g101) csS [42] Tryz.f134.ntmps (mask 134) F 5 b73 (S73 s x h) ⟨[false],[],[]⟩=some (.exit 0,E73 s x h,⟨[],[],[!(decide (64 < IntKind.wrap .i64 ((s.length:Int) - x)))]⟩):=by kernel_rfl
theorem seg73 (F:Nat):segO (evSO Tryz.prog (psOne 166 g101) csS [57] Tryz.f134.ntmps (mask 134) F 5 ((p73.drop 8).take 1) (E73 s x h) ⟨[],[],[]⟩)=some (R73 s x h (sl73 s x (s.length:Int)),[in73 s x (s.length:Int)]):=by kernel_rfl
end
def P73 (s:List UInt8) (x:Int) (h h2:Nat→UInt32) (f:Nat→UInt8) (k:Nat):Prop:=ansG Tryz.prog Tryz.f134 [] (evSO Tryz.prog (psOne 166 g101) csS [69,300069] Tryz.f134.ntmps (mask 134) 200 5 (p73.drop 9) (R73 s x h (strB k f)) ⟨[],[.agg (cellsW 8 h2),.tup []],[]⟩)=some (.str (outC h2),[],[obQ h h2 (UInt64.ofInt (s.length:Nat)) (strB 64 (padF k f)) true 337 [(21,.cells false (cellsW 8 h)),(293,.cells false (zC k))],gd101 (cellsW 8 h) (strB 64 (padF k f))])
theorem suf73_0 (s:List UInt8) (x:Int) (h h2:Nat→UInt32) (f:Nat→UInt8):(b:Nat)→b < 8→P73 s x h h2 f (8 * 0+b+1)
 | 0,_=>by unfold P73; kernel_rfl
 | 1,_=>by unfold P73; kernel_rfl
 | 2,_=>by unfold P73; kernel_rfl
 | 3,_=>by unfold P73; kernel_rfl
 | 4,_=>by unfold P73; kernel_rfl
 | 5,_=>by unfold P73; kernel_rfl
 | 6,_=>by unfold P73; kernel_rfl
 | 7,_=>by unfold P73; kernel_rfl
theorem suf73_1 (s:List UInt8) (x:Int) (h h2:Nat→UInt32) (f:Nat→UInt8):(b:Nat)→b < 8→P73 s x h h2 f (8 * 1+b+1)
 | 0,_=>by unfold P73; kernel_rfl
 | 1,_=>by unfold P73; kernel_rfl
 | 2,_=>by unfold P73; kernel_rfl
 | 3,_=>by unfold P73; kernel_rfl
 | 4,_=>by unfold P73; kernel_rfl
 | 5,_=>by unfold P73; kernel_rfl
 | 6,_=>by unfold P73; kernel_rfl
 | 7,_=>by unfold P73; kernel_rfl
theorem suf73_2 (s:List UInt8) (x:Int) (h h2:Nat→UInt32) (f:Nat→UInt8):(b:Nat)→b < 8→P73 s x h h2 f (8 * 2+b+1)
 | 0,_=>by unfold P73; kernel_rfl
 | 1,_=>by unfold P73; kernel_rfl
 | 2,_=>by unfold P73; kernel_rfl
 | 3,_=>by unfold P73; kernel_rfl
 | 4,_=>by unfold P73; kernel_rfl
 | 5,_=>by unfold P73; kernel_rfl
 | 6,_=>by unfold P73; kernel_rfl
 | 7,_=>by unfold P73; kernel_rfl
theorem suf73_3 (s:List UInt8) (x:Int) (h h2:Nat→UInt32) (f:Nat→UInt8):(b:Nat)→b < 8→P73 s x h h2 f (8 * 3+b+1)
 | 0,_=>by unfold P73; kernel_rfl
 | 1,_=>by unfold P73; kernel_rfl
 | 2,_=>by unfold P73; kernel_rfl
 | 3,_=>by unfold P73; kernel_rfl
 | 4,_=>by unfold P73; kernel_rfl
 | 5,_=>by unfold P73; kernel_rfl
 | 6,_=>by unfold P73; kernel_rfl
 | 7,_=>by unfold P73; kernel_rfl
theorem suf73_4 (s:List UInt8) (x:Int) (h h2:Nat→UInt32) (f:Nat→UInt8):(b:Nat)→b < 8→P73 s x h h2 f (8 * 4+b+1)
 | 0,_=>by unfold P73; kernel_rfl
 | 1,_=>by unfold P73; kernel_rfl
 | 2,_=>by unfold P73; kernel_rfl
 | 3,_=>by unfold P73; kernel_rfl
 | 4,_=>by unfold P73; kernel_rfl
 | 5,_=>by unfold P73; kernel_rfl
 | 6,_=>by unfold P73; kernel_rfl
 | 7,_=>by unfold P73; kernel_rfl
theorem suf73_5 (s:List UInt8) (x:Int) (h h2:Nat→UInt32) (f:Nat→UInt8):(b:Nat)→b < 8→P73 s x h h2 f (8 * 5+b+1)
 | 0,_=>by unfold P73; kernel_rfl
 | 1,_=>by unfold P73; kernel_rfl
 | 2,_=>by unfold P73; kernel_rfl
 | 3,_=>by unfold P73; kernel_rfl
 | 4,_=>by unfold P73; kernel_rfl
 | 5,_=>by unfold P73; kernel_rfl
 | 6,_=>by unfold P73; kernel_rfl
 | 7,_=>by unfold P73; kernel_rfl
theorem suf73_6 (s:List UInt8) (x:Int) (h h2:Nat→UInt32) (f:Nat→UInt8):(b:Nat)→b < 8→P73 s x h h2 f (8 * 6+b+1)
 | 0,_=>by unfold P73; kernel_rfl
 | 1,_=>by unfold P73; kernel_rfl
 | 2,_=>by unfold P73; kernel_rfl
 | 3,_=>by unfold P73; kernel_rfl
 | 4,_=>by unfold P73; kernel_rfl
 | 5,_=>by unfold P73; kernel_rfl
 | 6,_=>by unfold P73; kernel_rfl
 | 7,_=>by unfold P73; kernel_rfl
theorem suf73_7 (s:List UInt8) (x:Int) (h h2:Nat→UInt32) (f:Nat→UInt8):(b:Nat)→b < 8→P73 s x h h2 f (8 * 7+b+1)
 | 0,_=>by unfold P73; kernel_rfl
 | 1,_=>by unfold P73; kernel_rfl
 | 2,_=>by unfold P73; kernel_rfl
 | 3,_=>by unfold P73; kernel_rfl
 | 4,_=>by unfold P73; kernel_rfl
 | 5,_=>by unfold P73; kernel_rfl
 | 6,_=>by unfold P73; kernel_rfl
 | 7,_=>by unfold P73; kernel_rfl
theorem suf73_a (s:List UInt8) (x:Int) (h h2:Nat→UInt32) (f:Nat→UInt8) (b:Nat) (hb:b < 8):(a:Nat)→a < 8→P73 s x h h2 f (8 * a+b+1)
 | 0,_=>suf73_0 s x h h2 f b hb
 | 1,_=>suf73_1 s x h h2 f b hb
 | 2,_=>suf73_2 s x h h2 f b hb
 | 3,_=>suf73_3 s x h h2 f b hb
 | 4,_=>suf73_4 s x h h2 f b hb
 | 5,_=>suf73_5 s x h h2 f b hb
 | 6,_=>suf73_6 s x h h2 f b hb
 | 7,_=>suf73_7 s x h h2 f b hb
theorem suf73 (s:List UInt8) (x:Int) (h h2:Nat→UInt32) (f:Nat→UInt8) (k:Nat) (h0:0 < k) (h1:k < 65):P73 s x h h2 f k:=by
 have:=suf73_a s x h h2 f ((k - 1) % 8) (by omega) ((k - 1) / 8) (by omega)
 rwa [show 8 * ((k - 1) / 8)+(k - 1) % 8+1=k by omega] at this
end Go.Proofs.YtlchjbidkdokmaaGreatDoor.Bk
namespace Go.Proofs.YtlchjbidkdokmaaGreatDoor.Bk
open Go Go.Eng Go.Num Go.Bla
def nD (q:Nat):UInt64:=UInt64.ofInt ((64 * q+64:Nat):Int)
def ptD (s:List UInt8) (q:Nat):List UInt8:=(s.take (64 * q+64)).drop (64 * q)
def hsD (s:List UInt8):Nat→Nat→UInt32
 | 0=>h0D
 | q+1=>pieceD (hsD s q) (nD q) (gB (ptD s q)) false
def wD (s:List UInt8):Nat→UInt32:=pieceD (hsD s (qL s)) (UInt64.ofInt (s.length:Nat)) (gB (strB 64 (padF (kL s) (pcF s (qL s))))) true
def oD (s:List UInt8):List UInt8:=outC (wD s)
theorem pieceD_w (h:Nat→UInt32) (n:UInt64) (p:Nat→UInt8) (l:Bool):cellsW 8 (pieceD (w32 (cellsW 8 h)) n p l)=cellsW 8 (pieceD h n p l):=by
 have e:∀ i,i < 8→w32 (cellsW 8 h) i=h i:=fun i hi=>match i,hi with
  | 0,_=>rfl | 1,_=>rfl | 2,_=>rfl | 3,_=>rfl | 4,_=>rfl | 5,_=>rfl | 6,_=>rfl | 7,_=>rfl
 have ev:vW (w32 (cellsW 8 h)) n l=vW h n l:=funext fun i=>by
  unfold vW
  cases hb:Nat.blt i 8 with
  | true=>simp only [cond_true]; exact e i (by simpa using hb)
  | false=>simp only [cond_false]
 unfold pieceD
 rw [ev]
 generalize roundsD (mD p) 10 (vW h n l)=v
 show (List.range 8).map (fun j=>AVal.u32 (finD (w32 (cellsW 8 h)) v j))=(List.range 8).map fun j=>AVal.u32 (finD h v j)
 refine List.map_congr_left fun i hi => ?_
 unfold finD
 rw [e i (List.mem_range.1 hi)]
theorem obQ_ok (h:Nat→UInt32) (n:UInt64) (p:List UInt8) (l:Bool) (base:Nat) (H:HL):obQ h (pieceD h n (gB p) l) n p l base H=true:=by
 refine decP_of ?_
 rw [pieceD_w]
 rfl
theorem gd101_ok (h:Nat→UInt32) (p:List UInt8) (hp:p.length=64):gd101 (cellsW 8 h) p=true:=by
 unfold gd101
 rw [w32_W8,eqL_W,hp]
 rfl
theorem ptD_len (s:List UInt8) (q:Nat) (h:64 * q+64≤s.length):(ptD s q).length=64:=by
 unfold ptD
 rw [List.length_drop,List.length_take]
 omega
theorem at73:Tryz.prog.funcs[134]? = some Tryz.f134:=by kernel_rfl
theorem bo73:Tryz.f134.body=some (bodyOf Tryz.f134):=by kernel_rfl
theorem lp73:(pieces (bodyOf Tryz.f134))[7]? = some (.block 0 (.loop b73)):=by kernel_rfl
theorem ok73 (s:List UInt8) (x:Int) (h:Nat→UInt32):okS Tryz.prog (S73 s x h)=true:=by kernel_rfl
theorem pokS:PSOk (psOne 166 g101) csS:=csP_ok
theorem sum73 (s:List UInt8) (hg:gd s=true):ansR [] (run1 Tryz.prog csS (mask 134) 200 134 [.int .i64 32,.str [],.str s] [] 5)=some (.str (oD s),[]):=by
 obtain ⟨h0,h1⟩:=gd_ok hg
 have hq:64 * qL s+kL s=s.length:=by unfold qL kL; omega
 have hk:0 < kL s∧kL s < 65:=by unfold kL; omega
 have hw:∀ x:Int,-100 < x→x < 20000→IntKind.wrap .i64 x=x:=fun x a b=>wrapI x (by omega) (by omega)
 refine preM pokS (fn:=Tryz.f134) (s:=S73 s 0 h0D) at73 bo73 rfl 7 (pre73 s) rfl ?_
 show finM Tryz.prog Tryz.f134 [] (evS Tryz.prog csS Tryz.f134.ntmps (mask 134) 200 5 ((pieces (bodyOf Tryz.f134)).drop 7) (S73 s 0 h0D))=_
 -- the rounds
 have hst:∀ q,q < qL s→roundA (evC Tryz.prog csS Tryz.f134.ntmps (mask 134) 200 5 b73) (headA Tryz.prog 5 (S73 s 0 h0D)) (S73 s ((64 * q:Nat):Int) (hsD s q))=some (S73 s ((64 * (q+1):Nat):Int) (hsD s (q+1))):=fun q hq'=>by
  have hx:=rnd73 s ((64 * q:Nat):Int) (hsD s q) (hsD s (q+1)) h0D 200
  have e1:IntKind.wrap .i64 (((64 * q:Nat):Int)+64)=((64 * q+64:Nat):Int):=by rw [hw _ (by omega) (by omega)]; omega
  rw [e1,hw _ (by omega) (by omega)] at hx
  have e2:sl73 s ((64 * q:Nat):Int) ((64 * q+64:Nat):Int)=ptD s q:=by
   unfold sl73 ptD
   rw [Int.toNat_natCast,Int.toNat_natCast]
  rw [e2] at hx
  refine roundO2_ok pokS hx ?_ (ok73 _ _ _)
  refine allM (obQ_ok _ _ _ _ _ _) (allM (gd101_ok _ _ (ptD_len s q (by omega))) (allM ?_ (allM ?_ rfl)))
  ·unfold in73
   simp only [Bool.and_eq_true,decide_eq_true_eq]
   omega
  ·simp only [decide_eq_true_eq]
   omega
 have hex:=ext73 s ((64 * qL s:Nat):Int) (hsD s (qL s)) 200
 rw [hw _ (by omega) (by omega)] at hex
 have hev:=(evT_ok pokS b73 _ _ _ _ _ hex (allM (by simp only [Bool.not_eq_true',decide_eq_false_iff_not]; omega) rfl)).1
 have e0:S73 s 0 h0D=S73 s ((64 * 0:Nat):Int) (hsD s 0):=rfl
 rw [e0,evS_loop lp73 (fun q=>S73 s ((64 * q:Nat):Int) (hsD s q)) (qL s) hst hev (by unfold qL; omega)]
 -- what stands behind it
 have hs:=seg73 s ((64 * qL s:Nat):Int) (hsD s (qL s)) 200
 have hin:in73 s ((64 * qL s:Nat):Int) (s.length:Int)=true:=by
  unfold in73
  simp only [Bool.and_eq_true,decide_eq_true_eq]
  omega
 have hs2:=segO_ok pokS hs (allM hin rfl)
 have e3:sl73 s ((64 * qL s:Nat):Int) (s.length:Int)=strB (kL s) (pcF s (qL s)):=by
  unfold sl73 strB
  rw [Int.toNat_natCast,Int.toNat_natCast,List.take_length]
  apply List.ext_getElem
  ·rw [List.length_drop,List.length_map,List.length_range]; omega
  ·intro i h1 h2
   simp only [List.getElem_drop,List.getElem_map,List.getElem_range]
   unfold pcF
   rw [List.getD_eq_getElem?_getD,List.getElem?_eq_getElem (by simp at h1; omega)]
   rfl
 rw [e3] at hs2
 have hf:=suf73 s ((64 * qL s:Nat):Int) (hsD s (qL s)) (wD s) (pcF s (qL s)) (kL s) hk.1 hk.2
 unfold P73 at hf
 have hlast:=(ansG_ok pokS hf (allM (obQ_ok _ _ _ _ _ _) (allM (gd101_ok _ _ (by simp [strB])) rfl))).1
 have e4:(p73.drop 8)=(pieces (bodyOf Tryz.f134)).drop (7+1):=rfl
 rw [← e4,hs2]
 exact hlast
def g73:List AVal→Option (EffA × Bool)
 | [.int .i64 32,.str [],.str s]=>some (.pure (.str (oD s)),gd s)
 | _=>none
theorem ansR_val {x:Option (AVal × HL × Nat)}{v:AVal}(h:ansR [] x=some (v,[])):x.map (·.1)=some v:=by
 unfold ansR at h
 split at h
 ·simp only [List.map_nil,Option.some.injEq,Prod.mk.injEq,and_true] at h
  subst h
  rfl
 ·cases h
theorem g73_ok:CSOk Tryz.prog (csP (psOne 134 g73)):=psOne_ok fun args e he=>by
 unfold g73 at he
 split at he
 ·rename_i s
  simp only [Option.some.injEq,Prod.mk.injEq] at he
  obtain ⟨rfl,hg⟩:=he
  exact callOk_val csS_ok hmix (by rw [gl1]; exact ansR_val (sum73 s hg)) rfl rfl
 ·cases he
theorem run46 (s:List UInt8):ansO (run1O Tryz.prog (psOne 134 g73) (csAlt (csP (psOne 134 g73)) noCS) [4] [] [] (mask 93) 200 93 [.str s] [] 5)=some (.str (oD s),[gd s]):=by kernel_rfl
def g46:List AVal→Option (EffA × Bool)
 | [.str s]=>some (.pure (.str (oD s)),gd s)
 | _=>none
theorem g46_ok:CSOk Tryz.prog (csP (psOne 93 g46)):=psOne_ok fun args e he=>by
 unfold g46 at he
 split at he
 ·rename_i s
  simp only [Option.some.injEq,Prod.mk.injEq] at he
  obtain ⟨rfl,hg⟩:=he
  exact callOk_val (csAlt_ok g73_ok (noCS_ok _)) hmix (by rw [gl1]; exact ansO_run csP_ok (run46 s) (allM hg rfl)) rfl rfl
 ·cases he
end Go.Proofs.YtlchjbidkdokmaaGreatDoor.Bk
namespace Go.Proofs.YtlchjbidkdokmaaGreatDoor.Bk
open Go Go.Eng Go.Num Go.Bla
theorem shl32_nat (x:UInt32) (k:Nat) (hk:k < 32) (h:x.toNat * 2 ^ k < 2 ^ 32):(shl_u32 x k).toNat=x.toNat * 2 ^ k:=by
 unfold shl_u32
 have e:Nat.ble k 31=true:=by rw [Nat.ble_eq]; omega
 rw [e]
 simp only [cond_true,UInt32.toNat_shiftLeft]
 have:(UInt32.ofNat k).toNat % 32=k:=by
  rw [UInt32.toNat_ofNat']
  omega
 rw [this,Nat.shiftLeft_eq,Nat.mod_eq_of_lt h]
theorem or_add (a b i:Nat) (h:b < 2 ^ i):a * 2 ^ i ||| b=a * 2 ^ i+b:=by
 have:=Nat.shiftLeft_add_eq_or_of_lt h a
 rw [Nat.shiftLeft_eq] at this
 exact this.symm
theorem word_eq (p0 p1 p2 p3:UInt8):((((0 ||| shl_u32 p0.toUInt32 0) ||| shl_u32 p1.toUInt32 8) ||| shl_u32 p2.toUInt32 16) ||| shl_u32 p3.toUInt32 24)=(shl_u32 ((shl_u32 ((shl_u32 ((shl_u32 0 8) ||| p3.toUInt32) 8) ||| p2.toUInt32) 8) ||| p1.toUInt32) 8) ||| p0.toUInt32:=by
 have l0:=p0.toNat_lt
 have l1:=p1.toNat_lt
 have l2:=p2.toNat_lt
 have l3:=p3.toNat_lt
 have c0:p0.toUInt32.toNat=p0.toNat:=UInt8.toNat_toUInt32 p0
 have c1:p1.toUInt32.toNat=p1.toNat:=UInt8.toNat_toUInt32 p1
 have c2:p2.toUInt32.toNat=p2.toNat:=UInt8.toNat_toUInt32 p2
 have c3:p3.toUInt32.toNat=p3.toNat:=UInt8.toNat_toUInt32 p3
 apply UInt32.toNat_inj.1
 have e0:(shl_u32 p0.toUInt32 0).toNat=p0.toNat:=by rw [shl32_nat _ 0 (by omega) (by omega),c0]; omega
 have e1:(shl_u32 p1.toUInt32 8).toNat=p1.toNat * 2 ^ 8:=by rw [shl32_nat _ 8 (by omega) (by omega),c1]
 have e2:(shl_u32 p2.toUInt32 16).toNat=p2.toNat * 2 ^ 16:=by rw [shl32_nat _ 16 (by omega) (by omega),c2]
 have e3:(shl_u32 p3.toUInt32 24).toNat=p3.toNat * 2 ^ 24:=by rw [shl32_nat _ 24 (by omega) (by omega),c3]
 have z8:(shl_u32 (0:UInt32) 8)=0:=by decide
 have f3:((shl_u32 (0:UInt32) 8) ||| p3.toUInt32).toNat=p3.toNat:=by rw [z8,UInt32.toNat_or,c3]; simp
 have g3:(shl_u32 ((shl_u32 (0:UInt32) 8) ||| p3.toUInt32) 8).toNat=p3.toNat * 2 ^ 8:=by rw [shl32_nat _ 8 (by omega) (by omega),f3]
 have f2:(shl_u32 ((shl_u32 (0:UInt32) 8) ||| p3.toUInt32) 8 ||| p2.toUInt32).toNat=p3.toNat * 2 ^ 8+p2.toNat:=by rw [UInt32.toNat_or,g3,c2,or_add _ _ 8 (by omega)]
 have g2:(shl_u32 (shl_u32 ((shl_u32 (0:UInt32) 8) ||| p3.toUInt32) 8 ||| p2.toUInt32) 8).toNat=(p3.toNat * 2 ^ 8+p2.toNat) * 2 ^ 8:=by rw [shl32_nat _ 8 (by omega) (by omega),f2]
 have f1:(shl_u32 (shl_u32 ((shl_u32 (0:UInt32) 8) ||| p3.toUInt32) 8 ||| p2.toUInt32) 8 ||| p1.toUInt32).toNat=(p3.toNat * 2 ^ 8+p2.toNat) * 2 ^ 8+p1.toNat:=by rw [UInt32.toNat_or,g2,c1,or_add _ _ 8 (by omega)]
 have g1:(shl_u32 (shl_u32 (shl_u32 ((shl_u32 (0:UInt32) 8) ||| p3.toUInt32) 8 ||| p2.toUInt32) 8 ||| p1.toUInt32) 8).toNat=((p3.toNat * 2 ^ 8+p2.toNat) * 2 ^ 8+p1.toNat) * 2 ^ 8:=by rw [shl32_nat _ 8 (by omega) (by omega),f1]
 rw [UInt32.toNat_or _ p0.toUInt32,g1,c0,or_add _ _ 8 (by omega)]
 rw [UInt32.toNat_or,UInt32.toNat_or,UInt32.toNat_or,UInt32.toNat_or,e0,e1,e2,e3]
 have z0:(0:UInt32).toNat=0:=rfl
 rw [z0,Nat.zero_or,Nat.or_comm p0.toNat,or_add _ _ 8 (by omega),Nat.or_comm _ (p2.toNat * 2 ^ 16),or_add _ _ 16 (by omega),Nat.or_comm _ (p3.toNat * 2 ^ 24),or_add _ _ 24 (by omega)]
 omega
theorem mWD (p p':Nat→UInt8) (i:Nat) (h:∀ j,j < 64→p j=p' j) (hi:i < 16):mW p i=mD p' i:=by
 unfold mW mD
 rw [h _ (by omega),h _ (by omega),h _ (by omega),h _ (by omega)]
 exact word_eq _ _ _ _
theorem hf1 (q:Q4) (x:UInt32):hf q x 16 20=dhF q x 16 12:=by
 have e1:hfA q x=daF q x:=(UInt32.add_assoc _ _ _).symm
 have e2:∀ y:UInt32,rotC y 16=tuD y 16:=fun y=>UInt32.or_comm _ _
 have e3:∀ y:UInt32,rotC y 20=tuD y 12:=fun y=>UInt32.or_comm _ _
 unfold hf dhF hfC dcF hfD ddF
 rw [e1,e2,e3]
theorem hf2 (q:Q4) (x:UInt32):hf q x 24 25=dhF q x 8 7:=by
 have e1:hfA q x=daF q x:=(UInt32.add_assoc _ _ _).symm
 have e2:∀ y:UInt32,rotC y 24=tuD y 8:=fun y=>UInt32.or_comm _ _
 have e3:∀ y:UInt32,rotC y 25=tuD y 7:=fun y=>UInt32.or_comm _ _
 unfold hf dhF hfC dcF hfD ddF
 rw [e1,e2,e3]
theorem mix_eq (k:Nat) (v:Nat→UInt32) (x y:UInt32):mixK k v x y=mixDK k v x y:=by
 unfold mixK mixDK mixF mixD mix4
 rw [hf1,hf2]
theorem ord_lt:∀ r,r < 10→∀ j,j < 16→ord r j < 16:=by decide
theorem round_eq (p p':Nat→UInt8) (h:∀ j,j < 64→p j=p' j) (r:Nat) (hr:r < 10) (v:Nat→UInt32):stp (mW p) r v 8=stpD (mD p') r v 8:=by
 have key:∀ k,k≤8→stp (mW p) r v k=stpD (mD p') r v k:=by
  intro k
  induction k with
  | zero=>intro _; rfl
  | succ k ih =>
   intro hk
   show stepR (mW p) r k (stp (mW p) r v k)=stepD (mD p') r k (stpD (mD p') r v k)
   rw [ih (by omega)]
   unfold stepR stepD
   rw [mWD p p' _ h (ord_lt r hr _ (by omega)),mWD p p' _ h (ord_lt r hr _ (by omega)),mix_eq]
 exact key 8 (Nat.le_refl _)
theorem rounds_eq (p p':Nat→UInt8) (h:∀ j,j < 64→p j=p' j) (v:Nat→UInt32):∀ r,r≤10→rounds (mW p) r v=roundsD (mD p') r v
 | 0,_=>rfl
 | r+1,hr=>by
  show stp (mW p) r (rounds (mW p) r v) 8=stpD (mD p') r (roundsD (mD p') r v) 8
  rw [rounds_eq p p' h v r (by omega)]
  exact round_eq p p' h r (by omega) _
theorem piece_eq (h:Nat→UInt32) (n:UInt64) (p p':Nat→UInt8) (l:Bool) (hp:∀ j,j < 64→p j=p' j):takeF h n p l=pieceD h n p' l:=by
 funext i
 unfold takeF pieceD finF finD
 rw [rounds_eq p p' hp _ 10 (Nat.le_refl _),UInt32.xor_assoc]
theorem h0_eq:h0F=h0D:=by
 funext i
 unfold h0F h0D
 cases Nat.beq i 0 with
 | false=>rfl
 | true =>
  show iv 0 ^^^ ((0x01010000 ^^^ shl_u32 (UInt32.ofInt 0) 8) ^^^ UInt32.ofInt 32)=((iv 0 ^^^ 0x01010000) ^^^ shl_u32 (UInt32.ofInt 0) 8) ^^^ UInt32.ofInt 32
  decide
theorem nq_nD (q:Nat):UInt64.ofNat (64 * q)+64=nD q:=by
 unfold nD
 rw [ofInt_nat,UInt64.ofNat_add]
 rfl
theorem hs_eq (s:List UInt8):∀ q,64 * q≤s.length→hsF h0F s q=hsD s q
 | 0,_=>h0_eq
 | q+1,hq=>by
  show takeF (hsF h0F s q) (UInt64.ofNat (64 * q)+64) (pcF s q) false=pieceD (hsD s q) (nD q) (gB (ptD s q)) false
  rw [hs_eq s q (by omega),nq_nD]
  refine piece_eq _ _ _ _ _ fun j hj => ?_
  unfold pcF gB ptD
  rw [List.getD_eq_getElem?_getD,List.getD_eq_getElem?_getD,List.getElem?_drop,List.getElem?_take,if_pos (by omega)]
theorem of_eq (s:List UInt8) (hg:gd s=true):oF s=oD s:=by
 obtain ⟨h0,h1⟩:=gd_ok hg
 have hq:64 * qL s+kL s=s.length:=by unfold qL kL; omega
 unfold oF oD wF wD
 rw [hs_eq s _ (by omega)]
 have en:nF s=UInt64.ofInt (s.length:Nat):=by
  unfold nF nq
  rw [ofInt_nat,ofInt_nat,← UInt64.ofNat_add,hq]
 rw [en]
 congr 1
 refine piece_eq _ _ _ _ _ fun j hj => ?_
 unfold gB strB
 rw [List.getD_eq_getElem?_getD,List.getElem?_map,List.getElem?_range hj]
 rfl
end Go.Proofs.YtlchjbidkdokmaaGreatDoor.Bk
namespace Go.Num
instance pqNe:NeZero Pq:=⟨by decide⟩
abbrev Fp:=Fin Pq
def toF (n:Nat):Fp:=Fin.ofNat Pq n
theorem toF_eq {a b:Nat}:toF a=toF b ↔ a % Pq=b % Pq:=⟨fun h=>congrArg Fin.val h,fun h=>Fin.ext h⟩
theorem toF_self (a:Fp):toF a.val=a:=Fin.ext (Nat.mod_eq_of_lt a.isLt)
theorem toF_add (a b:Nat):toF (a+b)=toF a+toF b:=Fin.ext (by rw [Fin.val_add]; show (a+b) % Pq=(a % Pq+b % Pq) % Pq; rw [← Nat.add_mod])
theorem toF_mul (a b:Nat):toF (a * b)=toF a * toF b:=Fin.ext (by rw [Fin.val_mul]; show a * b % Pq=(a % Pq) * (b % Pq) % Pq; rw [← Nat.mul_mod])
theorem toF_neg (b:Nat):toF (Pq - b % Pq) = - toF b:=Fin.ext (by
 rw [Fin.val_neg']; rfl)
theorem toF_sub (a b:Nat):toF (a+(Pq - b % Pq))=toF a - toF b:=by
 rw [toF_add,toF_neg]; grind -lia -linarith (splits:=0)
theorem toF_zero {a:Nat}:toF a=0 ↔ a % Pq=0:=toF_eq (b:=0)
theorem F_inv {a:Fp}(h:a ≠ 0):∃ b,a * b=1:=by
 have h0:a.val % Pq ≠ 0:=fun e=>h (by rw [← toF_self a]; exact toF_zero.2 e)
 obtain ⟨b,hb⟩:∃ b:Nat,a.val * b % Pq=1:=⟨_,genP.inv P3 h0⟩
 refine ⟨toF b,?_⟩
 rw [← toF_self a,← toF_mul]
 exact toF_eq.2 (by rw [hb]; exact (Nat.mod_eq_of_lt (by decide)).symm)
theorem F_cancel {a b c:Fp}(ha:a ≠ 0) (h:a * b=a * c):b=c:=by
 obtain ⟨u,hu⟩:=F_inv ha
 have e1:u * (a * b)=b:=by grind -lia -linarith (splits:=0)
 have e2:u * (a * c)=c:=by grind -lia -linarith (splits:=0)
 rw [← e1,h,e2]
theorem F_mul_ne {a b:Fp}(ha:a ≠ 0) (hb:b ≠ 0):a * b ≠ 0:=fun h=>hb (F_cancel ha (by rw [h]; grind -lia -linarith (splits:=0)))
theorem F_two:(2:Fp) ≠ 0:=by
 intro h
 have:=congrArg Fin.val h
 exact absurd this (by decide)
theorem F_one:(1:Fp) ≠ 0:=by
 intro h
 have:=congrArg Fin.val h
 exact absurd this (by decide)
structure P4 (R:Type) where
 x:R
 y:R
 z:R
 t:R
def addO {R:Type}(o:Ops R) (d:R) (p q:P4 R):P4 R:=
  ⟨o.mul (o.add (o.mul p.x q.y) (o.mul p.y q.x)) (o.sub (o.mul p.z q.z) (o.mul (o.mul d p.t) q.t)),
   o.mul (o.add (o.mul p.z q.z) (o.mul (o.mul d p.t) q.t)) (o.add (o.mul p.y q.y) (o.mul p.x q.x)),
   o.mul (o.sub (o.mul p.z q.z) (o.mul (o.mul d p.t) q.t)) (o.add (o.mul p.z q.z) (o.mul (o.mul d p.t) q.t)),
   o.mul (o.add (o.mul p.x q.y) (o.mul p.y q.x)) (o.add (o.mul p.y q.y) (o.mul p.x q.x))⟩
def opsF:Ops Fp:=⟨fun a b=>a+b,fun a b=>a - b,fun a b=>a * b,fun n=>toF n.toNat,0⟩
structure Crv (d i:Fp):Prop where
 ii:i * i = -1
 ns:∀ w:Fp,w * w ≠ d
structure On (d:Fp) (p:P4 Fp):Prop where
 z:p.z ≠ 0
 c:p.y * p.y - p.x * p.x=p.z * p.z+d * p.t * p.t
 k:p.x * p.y=p.z * p.t
theorem ns_zero {d i:Fp}(h:Crv d i){u v:Fp}(e:d * (u * u)=v * v):u=0:=by
 by_cases hu:u=0
 ·exact hu
 ·exfalso
  obtain ⟨w,hw⟩:=F_inv hu
  refine h.ns (v * w) ?_
  have:(v * w) * (v * w)=d * ((u * w) * (u * w)):=by grind -lia -linarith (splits:=0)
  rw [this,hw]; grind -lia -linarith (splits:=0)
theorem complete_eq (d i e x1 y1 z1 t1 x2 y2 z2 t2:Fp)
 (h1:y1*y1 - x1*x1=z1*z1+d*t1*t1) (k1:x1*y1=z1*t1)
 (h2:y2*y2 - x2*x2=z2*z2+d*t2*t2) (k2:x2*y2=z2*t2) (hi:i*i = -1) (he:e*e=1) (hc:d*t1*t2=e*(z1*z2)) :
 d*((t1*(y2+i*x2))*(t1*(y2+i*x2)))=(z2*(y1+e*i*x1))*(z2*(y1+e*i*x1)):=by
 grind -lia -linarith (splits:=0)
theorem lit1 (d z:Fp) (hz:z=0):(z * z - z * z) - d * z * z=z:=by grind -lia -linarith (splits:=0)
theorem lit2 (o d m z:Fp) (hz:z=0):o+d * m * (z * o)=o:=by grind -lia -linarith (splits:=0)
theorem lit3 (o d m z:Fp) (hz:z=0):o - d * m * (z * o)=o:=by grind -lia -linarith (splits:=0)
theorem lit4 (a b o z:Fp) (ho:o=1) (hz:z=0):(a * o+b * z) * o=a:=by grind -lia -linarith (splits:=0)
theorem complete_ne {d i:Fp}(h:Crv d i){p q:P4 Fp}(hp:On d p) (hq:On d q){e:Fp}(he:e * e=1):d * p.t * q.t ≠ e * (p.z * q.z):=by
 intro hc
 have e0:e ≠ 0:=fun h0=>F_one (by rw [← he,h0]; grind -lia -linarith (splits:=0))
 have t1:p.t ≠ 0:=fun h0=>F_mul_ne e0 (F_mul_ne hp.z hq.z) (by rw [← hc,h0]; grind -lia -linarith (splits:=0))
 have a1:=ns_zero h (complete_eq d i e p.x p.y p.z p.t q.x q.y q.z q.t hp.c hp.k hq.c hq.k h.ii he hc)
 have a2:=ns_zero h (complete_eq d (-i) e p.x p.y p.z p.t q.x q.y q.z q.t hp.c hp.k hq.c hq.k (by have:=h.ii; grind -lia -linarith (splits:=0)) he hc)
 have b1:q.y+i * q.x=0:=F_cancel t1 (by rw [a1]; grind -lia -linarith (splits:=0))
 have b2:q.y + -i * q.x=0:=F_cancel t1 (by rw [a2]; grind -lia -linarith (splits:=0))
 have y0:q.y=0:=F_cancel F_two (by grind -lia -linarith (splits:=0))
 have x0:q.x=0:=by
  have hi:=h.ii
  have hix:i * q.x=0:=by grind -lia -linarith (splits:=0)
  have:i * (i * q.x) = - q.x:=by grind -lia -linarith (splits:=0)
  rw [hix] at this
  grind -lia -linarith (splits:=0)
 have hk:=hq.k
 have hcc:=hq.c
 rw [y0,x0] at hk hcc
 have t0:q.t=0:=F_cancel hq.z (by rw [← hk]; grind -lia -linarith (splits:=0))
 rw [t0] at hcc
 have e9:q.z * q.z=(0 * 0 - 0 * 0) - d * 0 * 0:=by rw [hcc]; grind -lia -linarith (splits:=0)
 have e8:((0:Fp) * 0 - 0 * 0) - d * 0 * 0=0:=lit1 d 0 rfl
 exact F_mul_ne hq.z hq.z (e9.trans e8)
theorem fg_ne {d i:Fp}(h:Crv d i){p q:P4 Fp}(hp:On d p) (hq:On d q):p.z * q.z - d * p.t * q.t ≠ 0∧p.z * q.z+d * p.t * q.t ≠ 0:=
 ⟨fun e=>complete_ne h hp hq (e:=1) (by grind -lia -linarith (splits:=0)) (by grind -lia -linarith (splits:=0)),fun e=>complete_ne h hp hq (e:=-1) (by grind -lia -linarith (splits:=0)) (by grind -lia -linarith (splits:=0))⟩
theorem add_curve (d x1 y1 z1 t1 x2 y2 z2 t2:Fp)
 (h1:y1*y1 - x1*x1=z1*z1+d*t1*t1) (k1:x1*y1=z1*t1)
 (h2:y2*y2 - x2*x2=z2*z2+d*t2*t2) (k2:x2*y2=z2*t2) :
 ((z1*z2+d*t1*t2)*(y1*y2+x1*x2))*((z1*z2+d*t1*t2)*(y1*y2+x1*x2)) - ((x1*y2+y1*x2)*(z1*z2 - d*t1*t2))*((x1*y2+y1*x2)*(z1*z2 - d*t1*t2))=((z1*z2 - d*t1*t2)*(z1*z2+d*t1*t2))*((z1*z2 - d*t1*t2)*(z1*z2+d*t1*t2))+d*((x1*y2+y1*x2)*(y1*y2+x1*x2))*((x1*y2+y1*x2)*(y1*y2+x1*x2)):=by
 grind -lia -linarith (splits:=0)
theorem On.add {d i:Fp}(h:Crv d i){p q:P4 Fp}(hp:On d p) (hq:On d q):On d (addO opsF d p q):=by
 have n:=fg_ne h hp hq
 refine ⟨F_mul_ne n.1 n.2,add_curve d p.x p.y p.z p.t q.x q.y q.z q.t hp.c hp.k hq.c hq.k,?_⟩
 show (p.x * q.y+p.y * q.x) * (p.z * q.z - d * p.t * q.t) * ((p.z * q.z+d * p.t * q.t) * (p.y * q.y+p.x * q.x))=(p.z * q.z - d * p.t * q.t) * (p.z * q.z+d * p.t * q.t) * ((p.x * q.y+p.y * q.x) * (p.y * q.y+p.x * q.x))
 generalize p.x * q.y+p.y * q.x=a
 generalize p.z * q.z - d * p.t * q.t=f
 generalize p.z * q.z+d * p.t * q.t=g
 generalize p.y * q.y+p.x * q.x=b
 grind -lia -linarith (splits:=0)
def negO {R:Type}(neg:R→R) (p:P4 R):P4 R:=⟨neg p.x,p.y,p.z,neg p.t⟩
theorem On.neg {d:Fp}{p:P4 Fp}(hp:On d p):On d (negO (fun a => -a) p):=by
 have h1:=hp.c
 have h2:=hp.k
 refine ⟨hp.z,?_,?_⟩
 ·show p.y * p.y - -p.x * -p.x=p.z * p.z+d * -p.t * -p.t
  grind -lia -linarith (splits:=0)
 ·show -p.x * p.y=p.z * -p.t
  grind -lia -linarith (splits:=0)
def zero4:P4 Fp:=⟨0,1,1,0⟩
theorem On.zero (d:Fp):On d zero4:=⟨F_one,by show (1:Fp) * 1 - 0 * 0=1 * 1+d * 0 * 0; grind -lia -linarith (splits:=0),by show (0:Fp) * 1=1 * 0; grind -lia -linarith (splits:=0)⟩
noncomputable def invF (a:Fp):Fp:=by
 classical
 exact if h:a ≠ 0 then Classical.choose (F_inv h) else 0
theorem invF_mul {a:Fp}(h:a ≠ 0):a * invF a=1:=by
 unfold invF
 rw [dif_pos h]
 exact Classical.choose_spec (F_inv h)
theorem F_eq_div {a b c:Fp}(hb:b ≠ 0) (h:c * b=a):a * invF b=c:=by
 have:=invF_mul hb
 rw [← h]; grind -lia -linarith (splits:=0)
noncomputable def aff (p:P4 Fp):Fp × Fp:=(p.x * invF p.z,p.y * invF p.z)
def OnA (d:Fp) (a:Fp × Fp):Prop:=a.2 * a.2 - a.1 * a.1=1+d * (a.1 * a.2) * (a.1 * a.2)
noncomputable def addA (d:Fp) (a b:Fp × Fp):Fp × Fp:=
 ((a.1 * b.2+a.2 * b.1) * invF (1+d * (a.1 * a.2) * (b.1 * b.2)),(a.2 * b.2+a.1 * b.1) * invF (1 - d * (a.1 * a.2) * (b.1 * b.2)))
def up (a:Fp × Fp):P4 Fp:=⟨a.1,a.2,1,a.1 * a.2⟩
theorem aff_up (a:Fp × Fp):aff (up a)=a:=by
 have h:=invF_mul F_one
 have e:invF (1:Fp)=1:=by grind -lia -linarith (splits:=0)
 unfold aff up
 simp only [e]
 exact Prod.ext (by show a.1 * 1=a.1; grind -lia -linarith (splits:=0)) (by show a.2 * 1=a.2; grind -lia -linarith (splits:=0))
theorem on_up {d:Fp}{a:Fp × Fp}(h:OnA d a):On d (up a):=by
 unfold OnA at h
 refine ⟨F_one,?_,?_⟩
 ·show a.2 * a.2 - a.1 * a.1=1 * 1+d * (a.1 * a.2) * (a.1 * a.2)
  rw [h]; grind -lia -linarith (splits:=0)
 ·show a.1 * a.2=1 * (a.1 * a.2)
  grind -lia -linarith (splits:=0)
theorem on_aff {d:Fp}{p:P4 Fp}(h:On d p):OnA d (aff p):=by
 have hz:=invF_mul h.z
 have h1:=h.c
 have h2:=h.k
 unfold OnA aff
 show p.y * invF p.z * (p.y * invF p.z) - p.x * invF p.z * (p.x * invF p.z)=1+d * (p.x * invF p.z * (p.y * invF p.z)) * (p.x * invF p.z * (p.y * invF p.z))
 generalize invF p.z=w at hz
 have e1:p.x * w * (p.y * w)=p.t * w:=by
  have:p.x * w * (p.y * w)=(p.x * p.y) * w * w:=by grind -lia -linarith (splits:=0)
  rw [this,h2]; grind -lia -linarith (splits:=0)
 rw [e1]
 have e2:p.y * w * (p.y * w) - p.x * w * (p.x * w)=(p.y * p.y - p.x * p.x) * (w * w):=by grind -lia -linarith (splits:=0)
 rw [e2,h1]
 have e3:p.z * p.z * (w * w)=1:=by
  have:p.z * p.z * (w * w)=(p.z * w) * (p.z * w):=by grind -lia -linarith (splits:=0)
  rw [this,hz]; grind -lia -linarith (splits:=0)
 have e4:(p.z * p.z+d * p.t * p.t) * (w * w)=p.z * p.z * (w * w)+d * (p.t * w) * (p.t * w):=by grind -lia -linarith (splits:=0)
 rw [e4,e3]
def SameP (p q:P4 Fp):Prop:=p.x * q.z=q.x * p.z∧p.y * q.z=q.y * p.z
theorem same_aff {d:Fp}{p q:P4 Fp}(hp:On d p) (hq:On d q):SameP p q ↔ aff p=aff q:=by
 have h1:=invF_mul hp.z
 have h2:=invF_mul hq.z
 have key:∀ a b:Fp,a * q.z=b * p.z ↔ a * invF p.z=b * invF q.z:=fun a b=>by
  generalize invF p.z=u at h1
  generalize invF q.z=v at h2
  constructor
  ·intro h
   have e1:a * u=(a * q.z) * (v * u):=by grind -lia -linarith (splits:=0)
   have e2:b * v=(b * p.z) * (u * v):=by grind -lia -linarith (splits:=0)
   rw [e1,e2,h]; grind -lia -linarith (splits:=0)
  ·intro h
   have e1:a * q.z=(a * u) * (p.z * q.z):=by grind -lia -linarith (splits:=0)
   have e2:b * p.z=(b * v) * (q.z * p.z):=by grind -lia -linarith (splits:=0)
   rw [e1,e2,h]; grind -lia -linarith (splits:=0)
 unfold SameP aff
 rw [Prod.mk.injEq,key,key]
theorem aff_add {d i:Fp}(h:Crv d i){p q:P4 Fp}(hp:On d p) (hq:On d q):aff (addO opsF d p q)=addA d (aff p) (aff q):=by
 have n:=fg_ne h hp hq
 have u:=invF_mul hp.z
 have v:=invF_mul hq.z
 have k1:=hp.k
 have k2:=hq.k
 unfold aff addA
 show ((p.x * q.y+p.y * q.x) * (p.z * q.z - d * p.t * q.t) * invF ((p.z * q.z - d * p.t * q.t) * (p.z * q.z+d * p.t * q.t)),(p.z * q.z+d * p.t * q.t) * (p.y * q.y+p.x * q.x) * invF ((p.z * q.z - d * p.t * q.t) * (p.z * q.z+d * p.t * q.t)))=_
 have w:=invF_mul (F_mul_ne n.1 n.2)
 generalize invF ((p.z * q.z - d * p.t * q.t) * (p.z * q.z+d * p.t * q.t))=w0 at w
 generalize invF p.z=u0 at u
 generalize invF q.z=v0 at v
 have e1:p.x * u0 * (p.y * u0)=p.t * u0:=by
  have:p.x * u0 * (p.y * u0)=(p.x * p.y) * u0 * u0:=by grind -lia -linarith (splits:=0)
  rw [this,k1]; grind -lia -linarith (splits:=0)
 have e2:q.x * v0 * (q.y * v0)=q.t * v0:=by
  have:q.x * v0 * (q.y * v0)=(q.x * q.y) * v0 * v0:=by grind -lia -linarith (splits:=0)
  rw [this,k2]; grind -lia -linarith (splits:=0)
 simp only [e1,e2]
 have g1:(1+d * (p.t * u0) * (q.t * v0)) * (p.z * q.z)=p.z * q.z+d * p.t * q.t:=by
  have:(1+d * (p.t * u0) * (q.t * v0)) * (p.z * q.z)=p.z * q.z+d * p.t * q.t * ((p.z * u0) * (q.z * v0)):=by grind -lia -linarith (splits:=0)
  rw [this,u,v]; grind -lia -linarith (splits:=0)
 have g2:(1 - d * (p.t * u0) * (q.t * v0)) * (p.z * q.z)=p.z * q.z - d * p.t * q.t:=by
  have:(1 - d * (p.t * u0) * (q.t * v0)) * (p.z * q.z)=p.z * q.z - d * p.t * q.t * ((p.z * u0) * (q.z * v0)):=by grind -lia -linarith (splits:=0)
  rw [this,u,v]; grind -lia -linarith (splits:=0)
 generalize hf:p.z * q.z - d * p.t * q.t=f at n w g2
 generalize hg:p.z * q.z+d * p.t * q.t=g at n w g1
 have n1:(1+d * (p.t * u0) * (q.t * v0)) ≠ 0:=fun e=>n.2 (by rw [← g1,e]; grind -lia -linarith (splits:=0))
 have n2:(1 - d * (p.t * u0) * (q.t * v0)) ≠ 0:=fun e=>n.1 (by rw [← g2,e]; grind -lia -linarith (splits:=0))
 generalize 1+d * (p.t * u0) * (q.t * v0)=A at g1 n1
 generalize 1 - d * (p.t * u0) * (q.t * v0)=B at g2 n2
 refine Prod.ext ?_ ?_
 ·refine (F_eq_div n1 ?_).symm
  show (p.x * q.y+p.y * q.x) * f * w0 * A=p.x * u0 * (q.y * v0)+p.y * u0 * (q.x * v0)
  have:A=g * (u0 * v0):=by
   have:A=A * (p.z * q.z) * (u0 * v0):=by
    have:A * (p.z * q.z) * (u0 * v0)=A * ((p.z * u0) * (q.z * v0)):=by grind -lia -linarith (splits:=0)
    rw [this,u,v]; grind -lia -linarith (splits:=0)
   rw [this,g1]
  rw [this]
  have:(p.x * q.y+p.y * q.x) * f * w0 * (g * (u0 * v0))=(p.x * q.y+p.y * q.x) * (f * g * w0) * (u0 * v0):=by grind -lia -linarith (splits:=0)
  rw [this,w]; grind -lia -linarith (splits:=0)
 ·refine (F_eq_div n2 ?_).symm
  show g * (p.y * q.y+p.x * q.x) * w0 * B=p.y * u0 * (q.y * v0)+p.x * u0 * (q.x * v0)
  have:B=f * (u0 * v0):=by
   have:B=B * (p.z * q.z) * (u0 * v0):=by
    have:B * (p.z * q.z) * (u0 * v0)=B * ((p.z * u0) * (q.z * v0)):=by grind -lia -linarith (splits:=0)
    rw [this,u,v]; grind -lia -linarith (splits:=0)
   rw [this,g2]
  rw [this]
  have:g * (p.y * q.y+p.x * q.x) * w0 * (f * (u0 * v0))=(p.y * q.y+p.x * q.x) * (f * g * w0) * (u0 * v0):=by grind -lia -linarith (splits:=0)
  rw [this,w]; grind -lia -linarith (splits:=0)
theorem OnA.add {d i:Fp}(h:Crv d i){a b:Fp × Fp}(ha:OnA d a) (hb:OnA d b):OnA d (addA d a b):=by
 have:=on_aff (On.add h (on_up ha) (on_up hb))
 rwa [aff_add h (on_up ha) (on_up hb),aff_up,aff_up] at this
theorem assoc_x (d x1 y1 x2 y2 x3 y3:Fp)
 (h1:y1*y1 - x1*x1=1+d*x1*x1*y1*y1) (h2:y2*y2 - x2*x2=1+d*x2*x2*y2*y2) (h3:y3*y3 - x3*x3=1+d*x3*x3*y3*y3)
 (xa ya za ta xb yb zb tb:Fp)
 (a1:xa=(x1*y2+y1*x2)*(1 - d*(x1*y1)*(x2*y2))) (a2:ya=(1+d*(x1*y1)*(x2*y2))*(y1*y2+x1*x2)) (a3:za=(1 - d*(x1*y1)*(x2*y2))*(1+d*(x1*y1)*(x2*y2))) (a4:ta=(x1*y2+y1*x2)*(y1*y2+x1*x2))
 (b1:xb=(x2*y3+y2*x3)*(1 - d*(x2*y2)*(x3*y3))) (b2:yb=(1+d*(x2*y2)*(x3*y3))*(y2*y3+x2*x3)) (b3:zb=(1 - d*(x2*y2)*(x3*y3))*(1+d*(x2*y2)*(x3*y3))) (b4:tb=(x2*y3+y2*x3)*(y2*y3+x2*x3)) :
 (xa*y3+ya*x3)*(zb+d*(x1*y1)*tb)=(x1*yb+y1*xb)*(za+d*ta*(x3*y3)):=by
 subst_vars; grind -lia -linarith (splits:=0)
theorem assoc_y (d x1 y1 x2 y2 x3 y3:Fp)
 (h1:y1*y1 - x1*x1=1+d*x1*x1*y1*y1) (h2:y2*y2 - x2*x2=1+d*x2*x2*y2*y2) (h3:y3*y3 - x3*x3=1+d*x3*x3*y3*y3)
 (xa ya za ta xb yb zb tb:Fp)
 (a1:xa=(x1*y2+y1*x2)*(1 - d*(x1*y1)*(x2*y2))) (a2:ya=(1+d*(x1*y1)*(x2*y2))*(y1*y2+x1*x2)) (a3:za=(1 - d*(x1*y1)*(x2*y2))*(1+d*(x1*y1)*(x2*y2))) (a4:ta=(x1*y2+y1*x2)*(y1*y2+x1*x2))
 (b1:xb=(x2*y3+y2*x3)*(1 - d*(x2*y2)*(x3*y3))) (b2:yb=(1+d*(x2*y2)*(x3*y3))*(y2*y3+x2*x3)) (b3:zb=(1 - d*(x2*y2)*(x3*y3))*(1+d*(x2*y2)*(x3*y3))) (b4:tb=(x2*y3+y2*x3)*(y2*y3+x2*x3)) :
 (ya*y3+xa*x3)*(zb - d*(x1*y1)*tb)=(y1*yb+x1*xb)*(za - d*ta*(x3*y3)):=by
 subst_vars; grind -lia -linarith (splits:=0)
theorem onA_form {d:Fp}{a:Fp × Fp}(h:OnA d a):a.2 * a.2 - a.1 * a.1=1+d * a.1 * a.1 * a.2 * a.2:=by
 unfold OnA at h
 rw [h]; grind -lia -linarith (splits:=0)
theorem addA_assoc {d i:Fp}(h:Crv d i){a b c:Fp × Fp}(ha:OnA d a) (hb:OnA d b) (hc:OnA d c):addA d (addA d a b) c=addA d a (addA d b c):=by
 have pa:=on_up ha
 have pb:=on_up hb
 have pc:=on_up hc
 have e1:aff (addO opsF d (addO opsF d (up a) (up b)) (up c))=addA d (addA d a b) c:=by
  rw [aff_add h (On.add h pa pb) pc,aff_add h pa pb,aff_up,aff_up,aff_up]
 have e2:aff (addO opsF d (up a) (addO opsF d (up b) (up c)))=addA d a (addA d b c):=by
  rw [aff_add h pa (On.add h pb pc),aff_add h pb pc,aff_up,aff_up,aff_up]
 rw [← e1,← e2]
 refine (same_aff (On.add h (On.add h pa pb) pc) (On.add h pa (On.add h pb pc))).1 ?_
 have f1:=onA_form ha
 have f2:=onA_form hb
 have f3:=onA_form hc
 have one:(1:Fp) * 1=1:=by grind -lia -linarith (splits:=0)
 have k1:=assoc_x d a.1 a.2 b.1 b.2 c.1 c.2 f1 f2 f3 _ _ _ _ _ _ _ _ rfl rfl rfl rfl rfl rfl rfl rfl
 have k2:=assoc_y d a.1 a.2 b.1 b.2 c.1 c.2 f1 f2 f3 _ _ _ _ _ _ _ _ rfl rfl rfl rfl rfl rfl rfl rfl
 unfold SameP addO up opsF
 simp only [one]
 generalize (a.1 * b.2+a.2 * b.1) * (1 - d * (a.1 * a.2) * (b.1 * b.2))=xa at k1 k2 ⊢
 generalize (1+d * (a.1 * a.2) * (b.1 * b.2)) * (a.2 * b.2+a.1 * b.1)=ya at k1 k2 ⊢
 generalize (1 - d * (a.1 * a.2) * (b.1 * b.2)) * (1+d * (a.1 * a.2) * (b.1 * b.2))=za at k1 k2 ⊢
 generalize (a.1 * b.2+a.2 * b.1) * (a.2 * b.2+a.1 * b.1)=ta at k1 k2 ⊢
 generalize (b.1 * c.2+b.2 * c.1) * (1 - d * (b.1 * b.2) * (c.1 * c.2))=xb at k1 k2 ⊢
 generalize (1+d * (b.1 * b.2) * (c.1 * c.2)) * (b.2 * c.2+b.1 * c.1)=yb at k1 k2 ⊢
 generalize (1 - d * (b.1 * b.2) * (c.1 * c.2)) * (1+d * (b.1 * b.2) * (c.1 * c.2))=zb at k1 k2 ⊢
 generalize (b.1 * c.2+b.2 * c.1) * (b.2 * c.2+b.1 * c.1)=tb at k1 k2 ⊢
 have z1:za * 1=za:=by grind -lia -linarith (splits:=0)
 have z2:1 * zb=zb:=by grind -lia -linarith (splits:=0)
 simp only [z1,z2]
 have z3:d * ta * (c.1 * c.2)=d * ta * (c.1 * c.2):=rfl
 generalize hL:xa * c.2+ya * c.1=L at k1 ⊢
 generalize hM:ya * c.2+xa * c.1=M at k2 ⊢
 generalize hN:a.1 * yb+a.2 * xb=N at k1 ⊢
 generalize hO:a.2 * yb+a.1 * xb=O at k2 ⊢
 generalize hg1:za+d * ta * (c.1 * c.2)=g1 at k1 ⊢
 generalize hf1:za - d * ta * (c.1 * c.2)=f1' at k2 ⊢
 generalize hg2:zb+d * (a.1 * a.2) * tb=g2 at k1 ⊢
 generalize hf2:zb - d * (a.1 * a.2) * tb=f2' at k2 ⊢
 constructor
 ·have e:L * f1' * (f2' * g2)=(L * g2) * (f1' * f2'):=by grind -lia -linarith (splits:=0)
  rw [e,k1]; grind -lia -linarith (splits:=0)
 ·have e:g1 * M * (f2' * g2)=(M * f2') * (g1 * g2):=by grind -lia -linarith (splits:=0)
  rw [e,k2]; grind -lia -linarith (splits:=0)
theorem addA_comm (d:Fp) (a b:Fp × Fp):addA d a b=addA d b a:=by
 unfold addA
 have e1:a.1 * b.2+a.2 * b.1=b.1 * a.2+b.2 * a.1:=by grind -lia -linarith (splits:=0)
 have e2:a.2 * b.2+a.1 * b.1=b.2 * a.2+b.1 * a.1:=by grind -lia -linarith (splits:=0)
 have e3:d * (a.1 * a.2) * (b.1 * b.2)=d * (b.1 * b.2) * (a.1 * a.2):=by grind -lia -linarith (splits:=0)
 rw [e1,e2,e3]
def zeroA:Fp × Fp:=(0,1)
theorem OnA.zero (d:Fp):OnA d zeroA:=by
 show (1:Fp) * 1 - 0 * 0=1+d * (0 * 1) * (0 * 1)
 grind -lia -linarith (splits:=0)
theorem addA_zero (d:Fp) (a:Fp × Fp):addA d a zeroA=a:=by
 unfold addA zeroA
 have e:invF (1:Fp)=1:=by have:=invF_mul F_one; grind -lia -linarith (splits:=0)
 have e1:(1:Fp)+d * (a.1 * a.2) * (0 * 1)=1:=lit2 1 d _ 0 rfl
 have e2:(1:Fp) - d * (a.1 * a.2) * (0 * 1)=1:=lit3 1 d _ 0 rfl
 simp only [e1,e2,e]
 exact Prod.ext (lit4 a.1 a.2 1 0 rfl rfl) (lit4 a.2 a.1 1 0 rfl rfl)
def negA (a:Fp × Fp):Fp × Fp:=(-a.1,a.2)
theorem OnA.neg {d:Fp}{a:Fp × Fp}(h:OnA d a):OnA d (negA a):=by
 unfold OnA negA at *
 simp only
 grind -lia -linarith (splits:=0)
theorem addA_neg {d i:Fp}(h:Crv d i){a:Fp × Fp}(ha:OnA d a):addA d a (negA a)=zeroA:=by
 have n:=fg_ne h (on_up ha) (on_up ha.neg)
 have n1:(1:Fp) * 1 - d * (a.1 * a.2) * (-a.1 * a.2) ≠ 0:=n.1
 have n2:1 - d * (a.1 * a.2) * (-a.1 * a.2) ≠ 0:=fun e=>n1 (by rw [← e]; grind -lia -linarith (splits:=0))
 have hi:=invF_mul n2
 unfold OnA at ha
 unfold addA negA zeroA
 refine Prod.ext ?_ ?_
 ·show (a.1 * a.2+a.2 * -a.1) * _=0
  have:a.1 * a.2+a.2 * -a.1=0:=by grind -lia -linarith (splits:=0)
  rw [this]; grind -lia -linarith (splits:=0)
 ·show (a.2 * a.2+a.1 * -a.1) * invF (1 - d * (a.1 * a.2) * (-a.1 * a.2))=1
  refine F_eq_div n2 ?_
  have:a.2 * a.2+a.1 * -a.1=a.2 * a.2 - a.1 * a.1:=by grind -lia -linarith (splits:=0)
  rw [this,ha]; grind -lia -linarith (splits:=0)
theorem aff_zero:aff zero4=zeroA:=by
 have e:invF (1:Fp)=1:=by have:=invF_mul F_one; grind -lia -linarith (splits:=0)
 unfold aff zero4 zeroA
 simp only [e]
 exact Prod.ext (by show (0:Fp) * 1=0; grind -lia -linarith (splits:=0)) (by show (1:Fp) * 1=1; grind -lia -linarith (splits:=0))
noncomputable def mulA (d:Fp) (a:Fp × Fp):Nat→Fp × Fp
 | 0=>zeroA
 | n+1=>addA d (mulA d a n) a
theorem OnA.mul {d i:Fp}(h:Crv d i){a:Fp × Fp}(ha:OnA d a):∀ n,OnA d (mulA d a n)
 | 0=>OnA.zero d
 | n+1=>OnA.add h (OnA.mul h ha n) ha
theorem zero_addA (d:Fp) (a:Fp × Fp):addA d zeroA a=a:=by rw [addA_comm,addA_zero]
theorem mulA_add {d i:Fp}(h:Crv d i){a:Fp × Fp}(ha:OnA d a) (m:Nat):∀ n,mulA d a (m+n)=addA d (mulA d a m) (mulA d a n)
 | 0=>(addA_zero d _).symm
 | n+1=>by
  show addA d (mulA d a (m+n)) a=addA d (mulA d a m) (addA d (mulA d a n) a)
  rw [mulA_add h ha m n,addA_assoc h (OnA.mul h ha m) (OnA.mul h ha n) ha]
theorem mulA_mul {d i:Fp}(h:Crv d i){a:Fp × Fp}(ha:OnA d a) (m:Nat):∀ n,mulA d a (m * n)=mulA d (mulA d a m) n
 | 0=>rfl
 | n+1=>by
  rw [Nat.mul_succ,mulA_add h ha,mulA_mul h ha m n]; rfl
theorem mulA_zero (d:Fp):∀ n,mulA d zeroA n=zeroA
 | 0=>rfl
 | n+1=>by show addA d (mulA d zeroA n) zeroA=zeroA; rw [addA_zero,mulA_zero d n]
theorem mulA_mod {d i:Fp}(h:Crv d i){a:Fp × Fp}(ha:OnA d a){l:Nat}(hl:mulA d a l=zeroA) (n:Nat):mulA d a (n % l)=mulA d a n:=by
 conv=>rhs; rw [← Nat.div_add_mod n l]
 rw [mulA_add h ha,mulA_mul h ha,hl,mulA_zero,zero_addA]
theorem mulA_one (d:Fp) (a:Fp × Fp):mulA d a 1=a:=zero_addA d a
end Go.Num
namespace Go.Num
open Go Go.Eng
structure Rp (p:P2 Fp) (y:Fp):Prop where
 ne:p.x+p.z ≠ 0
 eq:p.x - p.z=y * (p.x+p.z)
theorem F_mul_zero {a b:Fp}(h:a * b=0):a=0 ∨ b=0:=by
 by_cases ha:a=0
 ·exact .inl ha
 ·by_cases hb:b=0
  ·exact .inr hb
  ·exact absurd h (F_mul_ne ha hb)
theorem den_ne {d i:Fp}(h:Crv d i){a b:Fp × Fp}(ha:OnA d a) (hb:OnA d b):1 - d * (a.1 * a.2) * (b.1 * b.2) ≠ 0∧1+d * (a.1 * a.2) * (b.1 * b.2) ≠ 0:=by
 have n:=fg_ne h (on_up ha) (on_up hb)
 have n1:(1:Fp) * 1 - d * (a.1 * a.2) * (b.1 * b.2) ≠ 0:=n.1
 have n2:(1:Fp) * 1+d * (a.1 * a.2) * (b.1 * b.2) ≠ 0:=n.2
 have e:(1:Fp) * 1=1:=by grind -lia -linarith (splits:=0)
 rw [e] at n1 n2
 exact ⟨n1,n2⟩
theorem k_alg (d x y:Fp) (hc:y * y - x * x=1+d * (x * y) * (x * y)):x * x * (1+d * (y * y))=y * y - 1:=by grind -lia -linarith (splits:=0)
theorem k_ne {d i:Fp}(h:Crv d i){a:Fp × Fp}(ha:OnA d a):1+d * (a.2 * a.2) ≠ 0:=by
 intro e
 have h1:=k_alg d a.1 a.2 ha
 rw [e] at h1
 generalize a.2 * a.2=b at e h1
 have h2:b=1:=by grind -lia -linarith (splits:=0)
 have h3:d = -1:=by rw [h2] at e; grind -lia -linarith (splits:=0)
 exact h.ns i (by rw [h.ii,h3])
theorem dbl_alg (d k s x y:Fp) (hc:y * y - x * x=1+d * (x * y) * (x * y)) (hd:d * (k+1) = -k) :
  (s * s) * ((y * s) * (y * s))+(s * s - (y * s) * (y * s)) * (s * s+k * (s * s - (y * s) * (y * s)))=s * s * (s * s) * ((k+1) * ((1+d * (y * y)) * (1 - d * (x * y) * (x * y)))) ∧
  (s * s) * ((y * s) * (y * s)) - (s * s - (y * s) * (y * s)) * (s * s+k * (s * s - (y * s) * (y * s)))=s * s * (s * s) * ((k+1) * ((1+d * (y * y)) * (y * y+x * x))):=by
 have e1:=k_alg d x y hc
 have f1:(1+d * (y * y)) * (1 - d * (x * y) * (x * y))=1+d * (y * y) - d * (y * y) * (x * x * (1+d * (y * y))):=by grind -lia -linarith (splits:=0)
 have f2:(1+d * (y * y)) * (y * y+x * x)=y * y * (1+d * (y * y))+x * x * (1+d * (y * y)):=by grind -lia -linarith (splits:=0)
 rw [f1,f2,e1]
 have g1:(k+1) * (1+d * (y * y) - d * (y * y) * (y * y - 1))=(k+1)+(d * (k+1)) * (y * y+y * y - y * y * (y * y)):=by grind -lia -linarith (splits:=0)
 have g2:(k+1) * (y * y * (1+d * (y * y))+(y * y - 1))=(k+1) * (y * y+y * y - 1)+(d * (k+1)) * (y * y * (y * y)):=by grind -lia -linarith (splits:=0)
 rw [g1,g2,hd]
 constructor <;> grind -lia -linarith (splits:=0)
theorem div_back {a b:Fp}(hb:b ≠ 0):a * invF b * b=a:=by
 have:=invF_mul hb
 grind -lia -linarith (splits:=0)
def kA:Fp:=opsF.small 121665
theorem rp_dbl {d i:Fp}(h:Crv d i) (hd:d * (kA+1) = -kA) (hk:kA+1 ≠ 0){p q:P2 Fp}{u:Fp}{a:Fp × Fp}(ha:OnA d a) (hp:Rp p a.2):Rp (stepO opsF p q u).1 (addA d a a).2:=by
 have hX:(stepO opsF p q u).1.x=((p.x+p.z) * (p.x+p.z)) * ((p.x - p.z) * (p.x - p.z)):=rfl
 have hZ:(stepO opsF p q u).1.z=((p.x+p.z) * (p.x+p.z) - (p.x - p.z) * (p.x - p.z)) * ((p.x+p.z) * (p.x+p.z)+kA * ((p.x+p.z) * (p.x+p.z) - (p.x - p.z) * (p.x - p.z))):=rfl
 have hY:(addA d a a).2=(a.2 * a.2+a.1 * a.1) * invF (1 - d * (a.1 * a.2) * (a.1 * a.2)):=rfl
 obtain ⟨hs,he⟩:=hp
 generalize p.x+p.z=s at *
 generalize p.x - p.z=t at *
 subst he
 obtain ⟨e1,e2⟩:=dbl_alg d kA s a.1 a.2 ha hd
 have n1:=k_ne h ha
 have n2:=(den_ne h ha ha).1
 have n3:=F_mul_ne (F_mul_ne hs hs) (F_mul_ne hs hs)
 refine ⟨?_,?_⟩
 ·rw [hX,hZ,e1]
  exact F_mul_ne n3 (F_mul_ne hk (F_mul_ne n1 n2))
 ·rw [hX,hZ,e1,e2,hY]
  have b:=div_back (a:=a.2 * a.2+a.1 * a.1) n2
  generalize (a.2 * a.2+a.1 * a.1) * invF (1 - d * (a.1 * a.2) * (a.1 * a.2))=y3 at b ⊢
  rw [← b]
  generalize 1 - d * (a.1 * a.2) * (a.1 * a.2)=w
  generalize 1+d * (a.2 * a.2)=w2
  generalize s * s * (s * s)=w3
  generalize kA+1=w4
  grind -lia -linarith (splits:=0)
theorem dadd_alg (d x1 y1 x2 y2:Fp) (h1:y1 * y1 - x1 * x1=1+d * (x1 * y1) * (x1 * y1)) (h2:y2 * y2 - x2 * x2=1+d * (x2 * y2) * (x2 * y2)) :
  (y1+y2) * (y1+y2) * ((1+d * (x1 * y1) * (x2 * y2) - (y1 * y2 - x1 * x2)) * (1 - d * (x1 * y1) * (x2 * y2) - (y1 * y2+x1 * x2))) * ((1+d * (y1 * y1)) * (1+d * (y2 * y2))) =
  (y2 - y1) * (y2 - y1) * ((1+d * (x1 * y1) * (x2 * y2)+(y1 * y2 - x1 * x2)) * (1 - d * (x1 * y1) * (x2 * y2)+(y1 * y2+x1 * x2))) * ((1+d * (y1 * y1)) * (1+d * (y2 * y2))):=by
 have e1:=k_alg d x1 y1 h1
 have e2:=k_alg d x2 y2 h2
 have e3:(x1 * x2) * (x1 * x2) * ((1+d * (y1 * y1)) * (1+d * (y2 * y2)))=(y1 * y1 - 1) * (y2 * y2 - 1):=by
  rw [← e1,← e2]; grind -lia -linarith (splits:=0)
 have f1:(1+d * (x1 * y1) * (x2 * y2) - (y1 * y2 - x1 * x2)) * (1 - d * (x1 * y1) * (x2 * y2) - (y1 * y2+x1 * x2))=(1 - y1 * y2) * (1 - y1 * y2) - (x1 * x2) * (x1 * x2) * ((1+d * (y1 * y2)) * (1+d * (y1 * y2))):=by grind -lia -linarith (splits:=0)
 have f2:(1+d * (x1 * y1) * (x2 * y2)+(y1 * y2 - x1 * x2)) * (1 - d * (x1 * y1) * (x2 * y2)+(y1 * y2+x1 * x2))=(1+y1 * y2) * (1+y1 * y2) - (x1 * x2) * (x1 * x2) * ((1 - d * (y1 * y2)) * (1 - d * (y1 * y2))):=by grind -lia -linarith (splits:=0)
 rw [f1,f2]
 generalize (x1 * x2) * (x1 * x2)=M at e3 ⊢
 have g1:∀ A B C K:Fp,A * (B - M * C) * K=A * (B * K - (M * K) * C):=fun A B C K=>by grind -lia -linarith (splits:=0)
 rw [g1,g1,e3]
 clear e1 e2 e3 f1 f2 g1 h1 h2
 grind -lia -linarith (splits:=0)
theorem neg_of {d k:Fp}(h:d * (k+1)+k=0):d * (k+1) = -k:=by grind -lia -linarith (splits:=0)
theorem sq_one_gen {a:Fp}(h:a=1 ∨ a = -1):a * a - 1=0:=by rcases h with h | h <;> grind -lia -linarith (splits:=0)
theorem neg_zero' {z:Fp}(hz:z=0):-z=z:=by grind -lia -linarith (splits:=0)
theorem F_two_mul {a b:Fp}(h1:a+b=0) (h2:a - b=0):a=0∧b=0:=by
 have e:(2:Fp) * a=0:=by grind -lia -linarith (splits:=0)
 have ha:a=0:=(F_mul_zero e).resolve_left F_two
 exact ⟨ha,by rw [ha] at h1; grind -lia -linarith (splits:=0)⟩
theorem F_sq_zero {a:Fp}(h:a * a=0):a=0:=(F_mul_zero h).elim id id
theorem one_sub {y:Fp}(e:1 - y=0):y=1:=by grind -lia -linarith (splits:=0)
theorem one_add {y:Fp}(e:1+y=0):y = -1:=by grind -lia -linarith (splits:=0)
theorem zero_mul' {y u:Fp}(e:u=0):u * y=0:=by rw [e]; grind -lia -linarith (splits:=0)
theorem mul_zero' (y:Fp):y * 0=0:=by grind -lia -linarith (splits:=0)
theorem add_zero' (a:Fp){z:Fp}(hz:z=0):a+z=a:=by rw [hz]; grind -lia -linarith (splits:=0)
theorem sub_flip {a b:Fp}(e:b - a=0):a - b=0:=by grind -lia -linarith (splits:=0)
theorem core1 {u yd w1 w2 s y1 y2:Fp}:(1 - yd) * ((s * (y1+y2)) * (s * (y1+y2)) - u * ((s * (y2 - y1)) * (s * (y2 - y1))))=s * s * ((y1+y2) * (y1+y2) * (1 - yd) - (u * (1 - yd)) * ((y2 - y1) * (y2 - y1))):=by grind -lia -linarith (splits:=0)
theorem core2 {u yd s y1 y2 y3:Fp}:(1 - yd) * (y3 * ((s * (y1+y2)) * (s * (y1+y2))+u * ((s * (y2 - y1)) * (s * (y2 - y1)))))=s * s * (y3 * ((y1+y2) * (y1+y2) * (1 - yd)+(u * (1 - yd)) * ((y2 - y1) * (y2 - y1)))):=by grind -lia -linarith (splits:=0)
theorem core3 {w3 w4 yd y3:Fp}(h:w3 * ((1 - yd) * (1 - y3))=w4 * ((1+yd) * (1+y3))):w3 * (1 - yd) - (1+yd) * w4=y3 * (w3 * (1 - yd)+(1+yd) * w4):=by grind -lia -linarith (splits:=0)
theorem core4 {w w2 w3 w4 yd y3:Fp}(key:w3 * ((1+w - yd * (1+w)) * (1 - w - y3 * (1 - w))) * w2=w4 * ((1+w+yd * (1+w)) * (1 - w+y3 * (1 - w))) * w2):(1 - w) * (1+w) * w2 * (w3 * ((1 - yd) * (1 - y3)))=(1 - w) * (1+w) * w2 * (w4 * ((1+yd) * (1+y3))):=by grind -lia -linarith (splits:=0)
theorem core5 {d x1 y1 z:Fp}(hz:z=0) (hy:y1=z) (h1:y1 * y1 - x1 * x1=1+d * (x1 * y1) * (x1 * y1)):x1 * x1 = -1:=by grind -lia -linarith (splits:=0)
theorem core6 {d x1 y1 x2 y2 yd z:Fp}(hz:z=0) (e1:y1=z) (e2:y2=z) (h:yd * (1+d * (x1 * y1) * (x2 * y2))=y1 * y2 - x1 * x2):yd = -(x1 * x2):=by grind -lia -linarith (splits:=0)
theorem core7 {x1 x2 yd:Fp}(h1:x1 * x1 = -1) (h2:x2 * x2 = -1) (e:yd = -(x1 * x2)):(1 - yd) * (1+yd)=0:=by
 have:(1 - yd) * (1+yd)=1 - (x1 * x1) * (x2 * x2):=by rw [e]; grind -lia -linarith (splits:=0)
 rw [this,h1,h2]; grind -lia -linarith (splits:=0)
theorem dadd_core {d u s1 s2 x1 y1 x2 y2 yd y3:Fp}(h1:y1 * y1 - x1 * x1=1+d * (x1 * y1) * (x1 * y1)) (h2:y2 * y2 - x2 * x2=1+d * (x2 * y2) * (x2 * y2))
  (hyd:yd * (1+d * (x1 * y1) * (x2 * y2))=y1 * y2 - x1 * x2) (hy3:y3 * (1 - d * (x1 * y1) * (x2 * y2))=y1 * y2+x1 * x2) (hu:u * (1 - yd)=1+yd)
  (n1:s1 ≠ 0) (n2:s2 ≠ 0) (n3:yd ≠ 1) (n4:yd ≠ -1) (n5:1 - d * (x1 * y1) * (x2 * y2) ≠ 0) (n6:1+d * (x1 * y1) * (x2 * y2) ≠ 0) (n7:1+d * (y1 * y1) ≠ 0) (n8:1+d * (y2 * y2) ≠ 0) :
  (s1 * s2 * (y1+y2)) * (s1 * s2 * (y1+y2))+u * ((s1 * s2 * (y2 - y1)) * (s1 * s2 * (y2 - y1))) ≠ 0 ∧
  (s1 * s2 * (y1+y2)) * (s1 * s2 * (y1+y2)) - u * ((s1 * s2 * (y2 - y1)) * (s1 * s2 * (y2 - y1)))=y3 * ((s1 * s2 * (y1+y2)) * (s1 * s2 * (y1+y2))+u * ((s1 * s2 * (y2 - y1)) * (s1 * s2 * (y2 - y1)))):=by
 have m3:1 - yd ≠ 0:=fun e=>n3 (one_sub e)
 have m4:1+yd ≠ 0:=fun e=>n4 (one_add e)
 have hu0:u ≠ 0:=fun e=>m4 (by rw [← hu]; exact zero_mul' e)
 have key:=dadd_alg d x1 y1 x2 y2 h1 h2
 rw [← hyd,← hy3] at key
 have main:(y1+y2) * (y1+y2) * ((1 - yd) * (1 - y3))=(y2 - y1) * (y2 - y1) * ((1+yd) * (1+y3)):=
  F_cancel (F_mul_ne (F_mul_ne n5 n6) (F_mul_ne n7 n8)) (core4 key)
 have eq:(s1 * s2 * (y1+y2)) * (s1 * s2 * (y1+y2)) - u * ((s1 * s2 * (y2 - y1)) * (s1 * s2 * (y2 - y1)))=y3 * ((s1 * s2 * (y1+y2)) * (s1 * s2 * (y1+y2))+u * ((s1 * s2 * (y2 - y1)) * (s1 * s2 * (y2 - y1)))):=by
  refine F_cancel m3 ?_
  rw [core1 (w1:=0) (w2:=0),core2,hu,core3 main]
 refine ⟨fun e => ?_,eq⟩
 rw [e,mul_zero'] at eq
 obtain ⟨z1,z2⟩:=F_two_mul e eq
 have z3:=(F_mul_zero (F_sq_zero z1)).resolve_left (F_mul_ne n1 n2)
 have z4:=(F_mul_zero (F_sq_zero ((F_mul_zero z2).resolve_left hu0))).resolve_left (F_mul_ne n1 n2)
 obtain ⟨e1,e2⟩:=F_two_mul z3 (sub_flip z4)
 rcases F_mul_zero (core7 (core5 rfl e1 h1) (core5 rfl e2 h2) (core6 rfl e1 e2 hyd)) with z | z
 ·exact m3 z
 ·exact m4 z
theorem rp_add {d i:Fp}(h:Crv d i){p q:P2 Fp}{u yd:Fp}{a b:Fp × Fp}(ha:OnA d a) (hb:OnA d b) (hp:Rp p a.2) (hq:Rp q b.2)
  (hyd:yd * (1+d * (a.1 * a.2) * (b.1 * b.2))=a.2 * b.2 - a.1 * b.1) (n3:yd ≠ 1) (n4:yd ≠ -1) (hu:u * (1 - yd)=1+yd):Rp (stepO opsF p q u).2 (addA d a b).2:=by
 have hX:(stepO opsF p q u).2.x=((q.x - q.z) * (p.x+p.z)+(q.x+q.z) * (p.x - p.z)) * ((q.x - q.z) * (p.x+p.z)+(q.x+q.z) * (p.x - p.z)):=rfl
 have hZ:(stepO opsF p q u).2.z=u * (((q.x - q.z) * (p.x+p.z) - (q.x+q.z) * (p.x - p.z)) * ((q.x - q.z) * (p.x+p.z) - (q.x+q.z) * (p.x - p.z))):=rfl
 have hY:(addA d a b).2=(a.2 * b.2+a.1 * b.1) * invF (1 - d * (a.1 * a.2) * (b.1 * b.2)):=rfl
 obtain ⟨hs1,he1⟩:=hp
 obtain ⟨hs2,he2⟩:=hq
 generalize p.x+p.z=s1 at *
 generalize p.x - p.z=t1 at *
 generalize q.x+q.z=s2 at *
 generalize q.x - q.z=t2 at *
 subst he1 he2
 have n:=den_ne h ha hb
 have b3:=div_back (a:=a.2 * b.2+a.1 * b.1) n.1
 rw [← hY] at b3
 obtain ⟨c1,c2⟩:=dadd_core (s1:=s1) (s2:=s2) ha hb hyd b3 hu hs1 hs2 n3 n4 n.1 n.2 (k_ne h ha) (k_ne h hb)
 have e1:b.2 * s2 * s1+s2 * (a.2 * s1)=s1 * s2 * (a.2+b.2):=by grind -lia -linarith (splits:=0)
 have e2:b.2 * s2 * s1 - s2 * (a.2 * s1)=s1 * s2 * (b.2 - a.2):=by grind -lia -linarith (splits:=0)
 rw [e1] at hX
 rw [e2] at hZ
 exact ⟨by rw [hX,hZ]; exact c1,by rw [hX,hZ]; exact c2⟩
theorem diff_y {d i:Fp}(h:Crv d i){a b D:Fp × Fp}(ha:OnA d a) (hD:OnA d D) (e:b=addA d a D):D.2 * (1+d * (a.1 * a.2) * (b.1 * b.2))=a.2 * b.2 - a.1 * b.1:=by
 have hb:OnA d b:=by rw [e]; exact OnA.add h ha hD
 have e1:addA d (negA a) b=D:=by
  rw [e,← addA_assoc h ha.neg ha hD,addA_comm d (negA a) a,addA_neg h ha,zero_addA]
 have n:=(den_ne h ha.neg hb).1
 have e2:(addA d (negA a) b).2=(a.2 * b.2 + -a.1 * b.1) * invF (1 - d * (-a.1 * a.2) * (b.1 * b.2)):=rfl
 have n2:1 - d * (-a.1 * a.2) * (b.1 * b.2) ≠ 0:=n
 have b3:=div_back (a:=a.2 * b.2 + -a.1 * b.1) n2
 rw [← e2,e1] at b3
 generalize D.2=y at *
 clear e1 e2 n n2 hb hD ha e
 grind -lia -linarith (splits:=0)
def nb (k:List UInt8):Nat→Nat
 | 0=>0
 | j+1=>2 * nb k j+cond (bitK k (254 - j)) 1 0
theorem lad_pt {d i:Fp}(h:Crv d i) (hd:d * (kA+1) = -kA) (hk:kA+1 ≠ 0){D:Fp × Fp}(hD:OnA d D) (n3:D.2 ≠ 1) (n4:D.2 ≠ -1){u:Fp}(hu:u * (1 - D.2)=1+D.2) (k:List UInt8) (h1:opsF.small 1=1) :
  ∀ j,Rp (ladO opsF k u j).1 (mulA d D (nb k j)).2∧Rp (ladO opsF k u j).2 (mulA d D (nb k j+1)).2
 | 0=>by
  have m3:1 - D.2 ≠ 0:=fun e=>n3 (one_sub e)
  have hz:opsF.zero=0:=rfl
  constructor
  ·show Rp ⟨opsF.small 1,opsF.zero⟩ (zeroA).2
   rw [h1,hz]
   refine ⟨?_,?_⟩
   ·show (1:Fp)+0 ≠ 0
    rw [add_zero' _ rfl]; exact F_one
   ·show (1:Fp) - 0=1 * (1+0)
    grind -lia -linarith (splits:=0)
  ·show Rp ⟨u,opsF.small 1⟩ (mulA d D 1).2
   rw [h1,mulA_one]
   generalize D.2=y at *
   refine ⟨?_,?_⟩
   ·show u+1 ≠ 0
    intro e
    refine F_two ?_
    have:(u+1) * (1 - y)=2:=by
     have e2:(u+1) * (1 - y)=u * (1 - y)+(1 - y):=by grind -lia -linarith (splits:=0)
     rw [e2,hu]; grind -lia -linarith (splits:=0)
    rw [← this,e]; grind -lia -linarith (splits:=0)
   ·show u - 1=y * (u+1)
    grind -lia -linarith (splits:=0)
 | j+1=>by
  obtain ⟨ih1,ih2⟩:=lad_pt h hd hk hD n3 n4 hu k h1 j
  have o1:=OnA.mul h hD (nb k j)
  have o2:=OnA.mul h hD (nb k j+1)
  have e:mulA d D (nb k j+1)=addA d (mulA d D (nb k j)) D:=rfl
  have y1:=diff_y h o1 hD e
  unfold ladO rndO nb
  cases bitK k (254 - j) with
  | false =>
   have s1:=rp_dbl (q:=(ladO opsF k u j).2) (u:=u) h hd hk o1 ih1
   have s2:=rp_add h o1 o2 ih1 ih2 y1 n3 n4 hu
   rw [← mulA_add h hD] at s1 s2
   simp only [cond_false]
   rw [show 2 * nb k j+0=nb k j+nb k j by omega,show nb k j+nb k j+1=nb k j+(nb k j+1) by omega]
   exact ⟨s1,s2⟩
  | true =>
   have y2:D.2 * (1+d * ((mulA d D (nb k j+1)).1 * (mulA d D (nb k j+1)).2) * ((mulA d D (nb k j)).1 * (mulA d D (nb k j)).2))=(mulA d D (nb k j+1)).2 * (mulA d D (nb k j)).2 - (mulA d D (nb k j+1)).1 * (mulA d D (nb k j)).1:=by
    generalize mulA d D (nb k j+1)=b at *
    generalize mulA d D (nb k j)=a at *
    clear ih1 ih2 o1 o2 e
    generalize D.2=y at *
    grind -lia -linarith (splits:=0)
   have s1:=rp_dbl (q:=(ladO opsF k u j).1) (u:=u) h hd hk o2 ih2
   have s2:=rp_add h o2 o1 ih2 ih1 y2 n3 n4 hu
   rw [← mulA_add h hD] at s1 s2
   simp only [cond_true]
   rw [show 2 * nb k j+1+1=nb k j+1+(nb k j+1) by omega,show 2 * nb k j+1=nb k j+1+nb k j by omega]
   exact ⟨s2,s1⟩
noncomputable def uF (y:Fp):Fp:=(1+y) * invF (1 - y)
theorem inv_zero:invF (0:Fp)=0:=by
 unfold invF
 rw [dif_neg (fun h=>h rfl)]
theorem rp_val {p:P2 Fp}{y:Fp}(h:Rp p y):p.x * invF p.z=uF y:=by
 obtain ⟨hs,he⟩:=h
 unfold uF
 by_cases hz:p.z=0
 ·have hy:1 - y=0:=by
   rw [hz] at hs he
   have h1:p.x ≠ 0:=fun e=>hs (by rw [e]; exact add_zero' _ rfl)
   refine (F_mul_zero (a:=p.x) ?_).resolve_left h1
   generalize p.x=x at *
   grind -lia -linarith (splits:=0)
  rw [hz,hy,inv_zero,mul_zero',mul_zero']
 ·have hy:1 - y ≠ 0:=fun e=>by
   have e2:y=1:=one_sub e
   rw [e2] at he
   have e3:(2:Fp) * p.z=0:=by
    generalize p.z=z at *
    generalize p.x=x at *
    grind -lia -linarith (splits:=0)
   exact hz ((F_mul_zero e3).resolve_left F_two)
  have a1:=invF_mul hz
  have a2:=invF_mul hy
  generalize invF p.z=w1 at *
  generalize invF (1 - y)=w2 at *
  refine F_cancel (F_mul_ne hz hy) ?_
  have b1:p.z * (1 - y) * (p.x * w1)=p.x * (1 - y) * (p.z * w1):=by grind -lia -linarith (splits:=0)
  have b2:p.z * (1 - y) * ((1+y) * w2)=p.z * (1+y) * ((1 - y) * w2):=by grind -lia -linarith (splits:=0)
  rw [b1,b2,a1,a2]
  generalize p.z=z at *
  generalize p.x=x at *
  grind -lia -linarith (splits:=0)
end Go.Num
namespace Go.Num
open Go Go.Eng
structure Fe where
 add:E5→E5→E5
 sub:E5→E5→E5
 mul:E5→E5→E5
 neg:E5→E5
 inv:E5→E5
 same:E5→E5→Bool
 odd:E5→Bool
 small:UInt32→E5
 root:E5→E5
 has:E5→Bool
 of:List UInt8→E5
 ofR:List UInt8→Int
 canon:List UInt8→Bool
 byE:E5→Nat→UInt8
 addN:N16→N16→N16
 subN:N16→N16→N16
 mulN:N16→N16→N16
 negN:N16→N16
 invN:N16→N16
 rootN:N16→N16
 hasN:N16→Bool
 smallN:UInt32→N16
 ofN:List UInt8→N16
 canonN:List UInt8→Bool
 byN:N16→Nat→UInt8
 ok:N16→Bool
 l32:List UInt8→Bool
 sby:W4→Nat→UInt8
def realFe:Fe:=⟨addE,subE,mulE,negE,invE,sameE,oddE,smallE,rootE,hasE,ofEl,ofEr,canonE,fun a i=>byteE (reducedE a) i,addP,subP,mulP,negP,invP,rootP,hasP,smallN,ofP,canonP,fun a i=>(shr_u64 (a.list.getD (i / 2) 0) (i % 2 * 8)).toUInt8,okB,fun s=>isLen s 32,fun a i=>(shr_u64 (wordAt a (i / 8)) (i % 8 * 8)).toUInt8⟩
def opsφ (φ:Fe):Ops E5:=⟨φ.add,φ.sub,φ.mul,φ.small,zeroE⟩
def opsφN (φ:Fe):Ops N16:=⟨φ.addN,φ.subN,φ.mulN,φ.smallN,zeroN⟩
def dBytes:List UInt8:=[0xa3,0x78,0x59,0x13,0xca,0x4d,0xeb,0x75,0xab,0xd8,0x41,0x41,0x4d,0x0a,0x70,0x00,0x98,0xe8,0x79,0x77,0x79,0x40,0xc7,0x8c,0x73,0xfe,0x6f,0x2b,0xee,0x6c,0x03,0x52]
section
variable (φ:Fe)
def emptyE:P4 E5:=⟨zeroE,zeroE,zeroE,zeroE⟩
def zeroφ:P4 E5:=⟨zeroE,φ.small 1,φ.small 1,zeroE⟩
def noneφ (p:P4 E5):Bool:=φ.same p.z zeroE
def curveφ:E5:=φ.of dBytes
def addφ (p q:P4 E5):P4 E5:=cond (noneφ φ p) emptyE (cond (noneφ φ q) emptyE (addO (opsφ φ) (curveφ φ) p q))
def negφ (p:P4 E5):P4 E5:=cond (noneφ φ p) emptyE (negO φ.neg p)
def sameφ (p q:P4 E5):Bool:=cond (noneφ φ p) false (cond (noneφ φ q) false (cond (φ.same (φ.mul p.x q.z) (φ.mul q.x p.z)) (φ.same (φ.mul p.y q.z) (φ.mul q.y p.z)) false))
def byLφ (a:E5):List UInt8:=(List.range 32).map (φ.byE a)
def top128 (l:List UInt8):List UInt8:=l.set 31 (l.getD 31 0 ||| 128)
def bytesφ (p:P4 E5):List UInt8:=cond (noneφ φ p) [] (cond (φ.odd (φ.mul p.x (φ.inv p.z))) (top128 (byLφ φ (φ.mul p.y (φ.inv p.z)))) (byLφ φ (φ.mul p.y (φ.inv p.z))))
def yφ (s:List UInt8):E5:=φ.of (topL s)
def vφ (s:List UInt8):E5:=φ.add (φ.mul (curveφ φ) (φ.mul (yφ φ s) (yφ φ s))) (φ.small 1)
def uφ (s:List UInt8):E5:=φ.mul (φ.sub (φ.mul (yφ φ s) (yφ φ s)) (φ.small 1)) (φ.inv (vφ φ s))
def decOdd (s:List UInt8):Bool:=shr_u8 (s.getD 31 0) 7 == 1
def xφ (s:List UInt8):E5:=cond (decOdd s) (φ.neg (φ.root (uφ φ s))) (φ.root (uφ φ s))
def okφ (s:List UInt8):Bool:=cond (φ.canon (topL s)) (cond (φ.has (uφ φ s)) (cond (decOdd s) (!φ.same (φ.root (uφ φ s)) zeroE) true) false) false
def decPφ (s:List UInt8):P4 E5:=⟨xφ φ s,yφ φ s,φ.small 1,φ.mul (xφ φ s) (yφ φ s)⟩
def decφ (s:List UInt8):P4 E5:=cond (isLen s 32) (cond (okφ φ s) (decPφ φ s) emptyE) emptyE
def decRφ (s:List UInt8):Int:=cond (isLen s 32) (cond (okφ φ s) 0 40) 2
def emptyN:P4 N16:=⟨zeroN,zeroN,zeroN,zeroN⟩
def zeroψ:P4 N16:=⟨zeroN,φ.smallN 1,φ.smallN 1,zeroN⟩
def givenφ:N16:=φ.ofN dBytes
def dφ:N16:=φ.mulN (φ.negN (φ.smallN 121665)) (φ.invN (φ.smallN 121666))
def addψ (p q:P4 N16):P4 N16:=addO (opsφN φ) (givenφ φ) p q
def negψ (p:P4 N16):P4 N16:=negO φ.negN p
def sameψ (p q:P4 N16):Bool:=cond (samP (φ.mulN p.x q.z) (φ.mulN q.x p.z)) (samP (φ.mulN p.y q.z) (φ.mulN q.y p.z)) false
def byLψ (a:N16):List UInt8:=(List.range 32).map (φ.byN a)
def bytesψ (p:P4 N16):List UInt8:=(byLψ φ (φ.mulN p.y (φ.invN p.z))).set 31 ((byLψ φ (φ.mulN p.y (φ.invN p.z))).getD 31 0 ||| shl_u8 ((φ.mulN p.x (φ.invN p.z)).x0 &&& 1).toUInt8 7)
def onψ (p:P4 N16):Bool:=samP (φ.mulN (φ.subN (φ.mulN p.y p.y) (φ.mulN p.x p.x)) (φ.mulN p.z p.z)) (φ.addN (φ.mulN (φ.mulN p.z p.z) (φ.mulN p.z p.z)) (φ.mulN (φ.mulN (givenφ φ) (φ.mulN p.x p.x)) (φ.mulN p.y p.y)))
def yψ (s:List UInt8):N16:=φ.ofN (topL s)
def vψ (s:List UInt8):N16:=φ.addN (φ.mulN (dφ φ) (φ.mulN (yψ φ s) (yψ φ s))) (φ.smallN 1)
def uψ (s:List UInt8):N16:=φ.mulN (φ.subN (φ.mulN (yψ φ s) (yψ φ s)) (φ.smallN 1)) (φ.invN (vψ φ s))
def xψ (s:List UInt8):N16:=cond (decOdd s) (φ.negN (φ.rootN (uψ φ s))) (φ.rootN (uψ φ s))
def okψ (s:List UInt8):Bool:=cond (φ.canonN (topL s)) (cond (φ.hasN (uψ φ s)) (cond (samP (φ.rootN (uψ φ s)) zeroN) (!decOdd s) true) false) false
def ofXYψ (x y:N16):P4 N16:=⟨x,y,φ.smallN 1,φ.mulN x y⟩
def decψ (s:List UInt8):P4 N16:=cond (isLen s 32) (cond (okψ φ s) (ofXYψ φ (xψ φ s) (yψ φ s)) emptyN) emptyN
def decRψ (s:List UInt8):Int:=cond (isLen s 32) (cond (okψ φ s) 0 40) 2
end
def okQ0 (φ:Fe) (p:P4 N16):Bool:=φ.ok p.x && (φ.ok p.y && (φ.ok p.z && φ.ok p.t))
def baseL:List UInt8:=0x58::List.replicate 31 0x66
def partN (n:N16) (k:Nat):UInt64:=n.list.getD k 0
def bitN16 (n:N16) (i:Nat):Bool:=(shr_u64 (partN n (i / 16)) (i % 16) &&& 1) == 1
def iterG {R:Type}(add:R→R→R) (zero p:R) (bit:Nat→Bool):Nat→R
 | 0=>zero
 | j+1=>cond (bit (255 - j)) (add (add (iterG add zero p bit j) (iterG add zero p bit j)) p) (add (iterG add zero p bit j) (iterG add zero p bit j))
end Go.Num
namespace Go.Num
open Go Go.Eng
structure Fi where
 add:P4 E5→P4 E5→P4 E5
 neg:P4 E5→P4 E5
 same:P4 E5→P4 E5→Bool
 zero:P4 E5
 none:P4 E5→Bool
 bytes:P4 E5→List UInt8
 dec:List UInt8→P4 E5
 decR:List UInt8→Int
 small:P4 E5→Bool
 mul:P4 E5→W4→P4 E5
 base:P4 E5
 addQ:P4 N16→P4 N16→P4 N16
 negQ:P4 N16→P4 N16
 sameQ:P4 N16→P4 N16→Bool
 zeroQ:P4 N16
 bytesQ:P4 N16→List UInt8
 decQ:List UInt8→P4 N16
 decRQ:List UInt8→Int
 smallQ:P4 N16→Bool
 mulQ:P4 N16→N16→P4 N16
 baseQ:P4 N16
 onQ:P4 N16→Bool
 given:Bool
 okQ:P4 N16→Bool
 sof:List UInt8→W4
 sofR:List UInt8→Int
 sby:W4→List UInt8
 sadd:W4→W4→W4
 smul:W4→W4→W4
 sneg:W4→W4
 nof:List UInt8→N16
def smallG {P:Type}(add:P→P→P) (same:P→P→Bool) (zero p:P):Bool:=same (add (add (add p p) (add p p)) (add (add p p) (add p p))) zero
def mulG {P:Type}(add:P→P→P) (zero empty:P) (none:P→Bool) (p:P) (bit:Nat→Bool):P:=cond (none p) empty (iterG add zero p bit 256)
def mulE4 (p:P4 E5) (n:W4):P4 E5:=mulG (addφ realFe) (zeroφ realFe) emptyE (noneφ realFe) p (bitK (bytesW n))
def mulN4 (p:P4 N16) (n:N16):P4 N16:=iterG (addψ realFe) (zeroψ realFe) p (bitN16 n) 256
def realFi:Fi:={
 add:=addφ realFe
 neg:=negφ realFe
 same:=sameφ realFe
 zero:=zeroφ realFe
 none:=noneφ realFe
 bytes:=bytesφ realFe
 dec:=decφ realFe
 decR:=decRφ realFe
 small:=smallG (addφ realFe) (sameφ realFe) (zeroφ realFe)
 mul:=mulE4
 base:=decφ realFe baseL
 addQ:=addψ realFe
 negQ:=negψ realFe
 sameQ:=sameψ realFe
 zeroQ:=zeroψ realFe
 bytesQ:=bytesψ realFe
 decQ:=decψ realFe
 decRQ:=decRψ realFe
 smallQ:=smallG (addψ realFe) (sameψ realFe) (zeroψ realFe)
 mulQ:=mulN4
 baseQ:=decψ realFe baseL
 onQ:=onψ realFe
 given:=samP (givenφ realFe) (dφ realFe)
 okQ:=okQ0 realFe
 sof:=oV
 sofR:=oE
 sby:=bytesW
 sadd:=addW
 smul:=mulW
 sneg:=negW
 nof:=ofN }
end Go.Num
namespace Go.Num
open Go Go.Eng
theorem small_eq (p:P4 E5):realFi.small p=smallG realFi.add realFi.same realFi.zero p:=by simp only [realFi]
theorem smallQ_eq (p:P4 N16):realFi.smallQ p=smallG realFi.addQ realFi.sameQ realFi.zeroQ p:=by simp only [realFi]
end Go.Num
namespace Go.Num
open Go Go.Eng
def dNat:Nat:=37095705934669439343138083508754565189542113879843219016388785533085940283555
theorem d_bytes:leNat dBytes=dNat:=by kernel_rfl
def dF:Fp:=toF dNat
def iF:Fp:=toF iNat
theorem i_sq:iNat * iNat % Pq=(Pq - 1 % Pq) % Pq:=by kernel_rfl
theorem d_half:pwE Pq dNat (2 * mP)=Pq - 1:=by kernel_rfl
theorem d_ne:dNat % Pq ≠ 0:=by decide
theorem four_mP:2 * (2 * mP)=Pq - 1:=by decide
theorem one_ne_P:¬ (1:Nat)=Pq - 1:=by decide
theorem toF_one:toF 1=1:=Fin.ext (Nat.mod_eq_of_lt (by decide))
theorem toF_nil:toF 0=0:=Fin.ext rfl
theorem pw_half (x:Nat):pwE Pq x (2 * mP)=x ^ (2 * mP) % Pq:=(pwE_val (by decide) (by kernel_rfl)).symm
theorem not_sq (a w n m:Nat) (hm:2 * n=m) (hf:∀ a,a % Pq ≠ 0→a ^ m % Pq=1) (hw:w * w % Pq=a % Pq) (ha:a % Pq ≠ 0):a ^ n % Pq=1:=by
 have h0:w % Pq ≠ 0:=fun e=>ha (by rw [← hw,Nat.mul_mod,e]; rfl)
 rw [← pow_congr hw,← Nat.pow_two,← Nat.pow_mul,hm]
 exact hf w h0
theorem crv:Crv dF iF:=⟨by
  show toF iNat * toF iNat = -1
  rw [← toF_mul,← toF_one,← toF_neg]
  exact toF_eq.2 i_sq,fun w hw=>by
  have h1:w.val * w.val % Pq=dNat % Pq:=by
   have:=congrArg Fin.val hw
   rw [Fin.val_mul] at this
   exact this
  have h2:=not_sq dNat w.val (2 * mP) (Pq - 1) four_mP (fun a ha=>genP.fermat ha) h1 d_ne
  rw [← pw_half,d_half] at h2
  exact one_ne_P h2.symm⟩
def R4 {R S:Type}(r:R→S→Prop) (p:P4 R) (q:P4 S):Prop:=r p.x q.x∧r p.y q.y∧r p.z q.z∧r p.t q.t
theorem add_keeps {R S:Type}{o:Ops R}{o':Ops S}{r:R→S→Prop}(k:Keeps o o' r){p q:P4 R}{p' q':P4 S}{d:R}{d':S}(hd:r d d') (hp:R4 r p p') (hq:R4 r q q'):R4 r (addO o d p q) (addO o' d' p' q'):=by
 have a:=k.add (k.mul hp.1 hq.2.1) (k.mul hp.2.1 hq.1)
 have b:=k.add (k.mul hp.2.1 hq.2.1) (k.mul hp.1 hq.1)
 have c:=k.mul (k.mul hd hp.2.2.2) hq.2.2.2
 have e:=k.mul hp.2.2.1 hq.2.2.1
 have f:=k.sub e c
 have g:=k.add e c
 exact ⟨k.mul a f,k.mul g b,k.mul f g,k.mul a b⟩
structure Re (a:E5) (f:Fp):Prop where
 ok:a.ok
 val:toF a.val=f
theorem re_of {a:E5}{n:Nat}(h:Vm a n):Re a (toF n):=⟨h.ok,toF_eq.2 h.val⟩
theorem Re.vm {a:E5}{f:Fp}(h:Re a f):Vm a a.val:=⟨h.ok,rfl⟩
theorem keeps_EF:Keeps opsE opsF Re where
 add:=fun {a b x y} h k=>by
  have:=re_of (h.vm.add k.vm)
  rw [toF_add,h.val,k.val] at this
  exact this
 sub:=fun {a b x y} h k=>by
  have:=re_of (h.vm.sub k.vm)
  rw [toF_sub,h.val,k.val] at this
  exact this
 mul:=fun {a b x y} h k=>by
  have:=re_of (h.vm.mul k.vm)
  rw [toF_mul,h.val,k.val] at this
  exact this
 small:=fun n=>re_of (vm_small n)
 zero:=re_of vm_zero
theorem re_neg {a:E5}{f:Fp}(h:Re a f):Re (negE a) (-f):=by
 have:=re_of h.vm.neg
 rw [toF_neg,h.val] at this
 exact this
theorem re_same {a b:E5}{f g:Fp}(h:Re a f) (k:Re b g):sameE a b=decide (f=g):=by
 rw [h.vm.same k.vm,← h.val,← k.val]
 exact decide_eq_decide.2 toF_eq.symm
theorem re_zero:Re zeroE 0:=by have:=re_of vm_zero; rw [toF_nil] at this; exact this
theorem re_one:Re (smallE 1) 1:=by
 have:=re_of (vm_small 1)
 rw [show (1:UInt32).toNat=1 from rfl,toF_one] at this
 exact this
theorem re_inv {a:E5}{f:Fp}(h:Re a f) (hf:f ≠ 0):Re (invE a) (invF f):=by
 have h1:=inv_one h.ok
 have h2:a.val % Pq ≠ 0:=fun e=>hf (by rw [← h.val]; exact toF_zero.2 e)
 rw [decide_eq_true h2] at h1
 have h3:=re_of (vm_inv h.vm)
 have h4:=keeps_EF.mul h h3
 rw [show opsE.mul a (invE a)=mulE a (invE a) from rfl] at h4
 rw [re_same h4 re_one] at h1
 have h5:f * toF (a.val ^ (Pq - 2))=1:=of_decide_eq_true h1
 have h6:toF (a.val ^ (Pq - 2))=invF f:=F_cancel hf (by rw [h5,invF_mul hf])
 rw [h6] at h3
 exact h3
structure PR (p:P4 E5) (q:P4 N16) (f:P4 Fp):Prop where
 rel:R4 Rel p q
 val:R4 Re p f
 on:On dF f
theorem rel_d:Rel (curveφ realFe) (givenφ realFe):=rel_of (s:=dBytes) (by kernel_rfl)
theorem re_d:Re (curveφ realFe) dF:=by
 have h:Re (curveφ realFe) (toF (curveφ realFe).val):=⟨ofEl_ok _,rfl⟩
 have e:toF (curveφ realFe).val=dF:=toF_eq.2 (by
  have:=ofEl_val (s:=dBytes) (by kernel_rfl)
  rw [d_bytes] at this
  exact this)
 rw [e] at h
 exact h
theorem none_of {p:P4 E5}{f:P4 Fp}(h:R4 Re p f) (hz:f.z ≠ 0):noneφ realFe p=false:=by
 show sameE p.z zeroE=false
 rw [re_same h.2.2.1 re_zero]
 exact decide_eq_false hz
theorem PR.some {p:P4 E5}{q:P4 N16}{f:P4 Fp}(h:PR p q f):noneφ realFe p=false:=none_of h.val h.on.z
theorem add_eq (p q:P4 E5) (hp:noneφ realFe p=false) (hq:noneφ realFe q=false):addφ realFe p q=addO opsE (curveφ realFe) p q:=by
 unfold addφ
 rw [hp,hq,cond_false,cond_false]; rfl
theorem PR.add {p p':P4 E5}{q q':P4 N16}{f f':P4 Fp}(h:PR p q f) (k:PR p' q' f'):PR (addφ realFe p p') (addψ realFe q q') (addO opsF dF f f'):=by
 rw [add_eq p p' h.some k.some]
 exact ⟨add_keeps keeps_EN rel_d h.rel k.rel,add_keeps keeps_EF re_d h.val k.val,On.add crv h.on k.on⟩
theorem re_mul {a b:E5}{f g:Fp}(h:Re a f) (k:Re b g):Re (mulE a b) (f * g):=keeps_EF.mul h k
theorem re_add {a b:E5}{f g:Fp}(h:Re a f) (k:Re b g):Re (addE a b) (f+g):=keeps_EF.add h k
theorem re_sub {a b:E5}{f g:Fp}(h:Re a f) (k:Re b g):Re (subE a b) (f - g):=keeps_EF.sub h k
theorem zero_phi:zeroφ realFe=⟨zeroE,smallE 1,smallE 1,zeroE⟩:=by simp only [zeroφ,realFe]
theorem zero_psi:zeroψ realFe=⟨zeroN,smallN 1,smallN 1,zeroN⟩:=by simp only [zeroψ,realFe]
theorem r4_mk {R S:Type}{r:R→S→Prop}{a b c d:R}{a' b' c' d':S}(h1:r a a') (h2:r b b') (h3:r c c') (h4:r d d'):R4 r ⟨a,b,c,d⟩ ⟨a',b',c',d'⟩:=⟨h1,h2,h3,h4⟩
theorem re_zero4:R4 Re ⟨zeroE,smallE 1,smallE 1,zeroE⟩ zero4:=by
 have h0:=re_zero
 have h1:=re_one
 generalize zeroE=a at h0 ⊢
 generalize smallE 1=b at h1 ⊢
 exact r4_mk h0 h1 h1 h0
theorem rel_zero4:R4 Rel ⟨zeroE,smallE 1,smallE 1,zeroE⟩ ⟨zeroN,smallN 1,smallN 1,zeroN⟩:=r4_mk rel_zero (rel_small 1) (rel_small 1) rel_zero
theorem neg_phi (p:P4 E5) (h:noneφ realFe p=false):negφ realFe p=⟨negE p.x,p.y,p.z,negE p.t⟩:=by
 unfold negφ
 rw [h,cond_false]
 simp only [negO,realFe]
theorem neg_psi (q:P4 N16):negψ realFe q=⟨negP q.x,q.y,q.z,negP q.t⟩:=by simp only [negψ,negO,realFe]
theorem PR.neg {p:P4 E5}{q:P4 N16}{f:P4 Fp}(h:PR p q f):PR (negφ realFe p) (negψ realFe q) (negO (fun a => -a) f):=by
 rw [neg_phi p h.some,neg_psi]
 have e:negO (fun a => -a) f=⟨-f.x,f.y,f.z,-f.t⟩:=by simp only [negO]
 have o:=h.on.neg
 rw [e] at o ⊢
 exact ⟨r4_mk (rel_neg h.rel.1) h.rel.2.1 h.rel.2.2.1 (rel_neg h.rel.2.2.2),r4_mk (re_neg h.val.1) h.val.2.1 h.val.2.2.1 (re_neg h.val.2.2.2),o⟩
theorem pr_zero:PR (zeroφ realFe) (zeroψ realFe) zero4:=by
 rw [zero_phi,zero_psi]
 exact ⟨rel_zero4,re_zero4,On.zero dF⟩
theorem PR.ok {p:P4 E5}{q:P4 N16}{f:P4 Fp}(h:PR p q f):okQ0 realFe q=true:=by
 unfold okQ0
 simp only [Bool.and_eq_true]
 exact ⟨okB_iff.2 h.rel.1.okP,okB_iff.2 h.rel.2.1.okP,okB_iff.2 h.rel.2.2.1.okP,okB_iff.2 h.rel.2.2.2.okP⟩
theorem PR.same {p p':P4 E5}{q q':P4 N16}{f f':P4 Fp}(h:PR p q f) (k:PR p' q' f'):sameφ realFe p p'=sameψ realFe q q':=by
 unfold sameφ sameψ
 rw [h.some,k.some,cond_false,cond_false]
 show cond (sameE (mulE p.x p'.z) (mulE p'.x p.z)) (sameE (mulE p.y p'.z) (mulE p'.y p.z)) false=_
 rw [rel_same (rel_mul h.rel.1 k.rel.2.2.1) (rel_mul k.rel.1 h.rel.2.2.1),rel_same (rel_mul h.rel.2.1 k.rel.2.2.1) (rel_mul k.rel.2.1 h.rel.2.2.1)]
 rfl
theorem PR.same_iff {p p':P4 E5}{q q':P4 N16}{f f':P4 Fp}(h:PR p q f) (k:PR p' q' f'):sameφ realFe p p'=true ↔ aff f=aff f':=by
 rw [← same_aff h.on k.on]
 unfold sameφ SameP
 rw [h.some,k.some,cond_false,cond_false]
 show cond (sameE (mulE p.x p'.z) (mulE p'.x p.z)) (sameE (mulE p.y p'.z) (mulE p'.y p.z)) false=true ↔ _
 rw [re_same (re_mul h.val.1 k.val.2.2.1) (re_mul k.val.1 h.val.2.2.1),re_same (re_mul h.val.2.1 k.val.2.2.1) (re_mul k.val.2.1 h.val.2.2.1)]
 generalize f.x * f'.z=a
 generalize f'.x * f.z=b
 generalize f.y * f'.z=c
 generalize f'.y * f.z=d
 by_cases h1:a=b
 ·rw [decide_eq_true h1,cond_true]
  exact Iff.intro (fun h2=>And.intro h1 (of_decide_eq_true h2)) (fun h2=>decide_eq_true h2.2)
 ·rw [decide_eq_false h1,cond_false]
  exact Iff.intro (fun h2=>by cases h2) (fun h2=>absurd h2.1 h1)
theorem PR.small {p:P4 E5}{q:P4 N16}{f:P4 Fp}(h:PR p q f):realFi.small p=realFi.smallQ q:=by
 rw [small_eq,smallQ_eq]
 exact PR.same (((h.add h).add (h.add h)).add ((h.add h).add (h.add h))) pr_zero
end Go.Num
namespace Go.Num
open Go Go.Eng
theorem rel_cond {b:Bool}{x y:E5}{x' y':N16}(h:Rel x x') (k:Rel y y'):Rel (cond b x y) (cond b x' y'):=by
 cases b
 ·exact k
 ·exact h
theorem ok_bool (c h z d:Bool):cond c (cond h (cond d (!z) true) false) false=cond c (cond h (cond z (!d) true) false) false:=by cases c <;> cases h <;> cases z <;> cases d <;> rfl
theorem three_bool0:∀ c h d z:Bool,cond c (cond h (cond d (!z) true) false) false=true→c=true∧h=true∧(d=true→z=false):=by decide
theorem three_bool {c h d z:Bool}(k:cond c (cond h (cond d (!z) true) false) false=true):c=true∧h=true∧(d=true→z=false):=three_bool0 c h d z k
theorem r_bool {c d:Bool}(h:(cond c (cond d (0:Int) 40) 2)=0):c=true∧d=true:=by cases c <;> cases d <;> first | exact ⟨rfl,rfl⟩ | exact absurd h (by decide)
theorem dval {a b c:Nat}{x:N16}{e:E5}(h:Rel e x) (v:Vm e ((Pq - a % Pq) * b ^ (Pq - 2))) (k:(Pq - a % Pq) * pwE Pq b (Pq - 2) % Pq=c):x.val=c:=by
 rw [h.val,v.val,← k,pw_inv,Nat.mul_mod_mod]
theorem d_comp:(Pq - 121665 % Pq) * pwE Pq 121666 (Pq - 2) % Pq=dNat % Pq:=by kernel_rfl
theorem d_phi:dφ realFe=mulP (negP (smallN 121665)) (invP (smallN 121666)):=by simp only [dφ,realFe]
theorem given_phi:givenφ realFe=ofP dBytes:=by simp only [givenφ,realFe]
theorem d_given:dφ realFe=givenφ realFe:=by
 rw [d_phi,given_phi]
 have r:=rel_mul (rel_neg (rel_small 121665)) (rel_inv (rel_small 121666))
 have v:=Vm.mul (Vm.neg (vm_small 121665)) (vm_inv (vm_small 121666))
 rw [show (121665:UInt32).toNat=121665 from rfl,show (121666:UInt32).toNat=121666 from rfl] at v
 have e:=dval r v d_comp
 have k:=rel_of (s:=dBytes) (by kernel_rfl)
 refine N16.ext_val r.okP k.okP ?_
 rw [e,k.val,ofEl_val (by kernel_rfl),d_bytes]
theorem rel_y {s:List UInt8}(h:isLen s 32=true):Rel (yφ realFe s) (yψ realFe s):=rel_of (topL_len h)
theorem v_phi (s:List UInt8):vφ realFe s=addE (mulE (curveφ realFe) (mulE (yφ realFe s) (yφ realFe s))) (smallE 1):=by simp only [vφ,realFe]
theorem v_psi (s:List UInt8):vψ realFe s=addP (mulP (givenφ realFe) (mulP (yψ realFe s) (yψ realFe s))) (smallN 1):=by
 rw [← d_given]; simp only [vψ,realFe]
theorem u_phi (s:List UInt8):uφ realFe s=mulE (subE (mulE (yφ realFe s) (yφ realFe s)) (smallE 1)) (invE (vφ realFe s)):=by simp only [uφ,realFe]
theorem u_psi (s:List UInt8):uψ realFe s=mulP (subP (mulP (yψ realFe s) (yψ realFe s)) (smallN 1)) (invP (vψ realFe s)):=by simp only [uψ,realFe]
theorem rel_v {s:List UInt8}(h:isLen s 32=true):Rel (vφ realFe s) (vψ realFe s):=by
 rw [v_phi,v_psi]
 exact rel_add (rel_mul rel_d (rel_mul (rel_y h) (rel_y h))) (rel_small 1)
theorem rel_u {s:List UInt8}(h:isLen s 32=true):Rel (uφ realFe s) (uψ realFe s):=by
 rw [u_phi,u_psi]
 exact rel_mul (rel_sub (rel_mul (rel_y h) (rel_y h)) (rel_small 1)) (rel_inv (rel_v h))
theorem x_phi (s:List UInt8):xφ realFe s=cond (decOdd s) (negE (rootE (uφ realFe s))) (rootE (uφ realFe s)):=by simp only [xφ,realFe]
theorem x_psi (s:List UInt8):xψ realFe s=cond (decOdd s) (negP (rootP (uψ realFe s))) (rootP (uψ realFe s)):=by simp only [xψ,realFe]
theorem rel_x {s:List UInt8}(h:isLen s 32=true):Rel (xφ realFe s) (xψ realFe s):=by
 rw [x_phi,x_psi]
 exact rel_cond (rel_neg (rel_root (rel_u h))) (rel_root (rel_u h))
theorem ok_phi (s:List UInt8):okφ realFe s=cond (canonE (topL s)) (cond (hasE (uφ realFe s)) (cond (decOdd s) (!sameE (rootE (uφ realFe s)) zeroE) true) false) false:=by simp only [okφ,realFe]
theorem ok_psi (s:List UInt8):okψ realFe s=cond (canonP (topL s)) (cond (hasP (uψ realFe s)) (cond (samP (rootP (uψ realFe s)) zeroN) (!decOdd s) true) false) false:=by simp only [okψ,realFe]
theorem ok_gen {a b c c' h h' z z' d:Bool}(ha:a=cond c (cond h (cond d (!z) true) false) false) (hb:b=cond c' (cond h' (cond z' (!d) true) false) false) (e1:c=c') (e2:h=h') (e3:z=z'):a=b:=by
 subst e1 e2 e3
 rw [ha,hb]
 exact ok_bool c h z d
theorem zero_same {s:List UInt8}(h:isLen s 32=true):sameE (rootE (uφ realFe s)) zeroE=samP (rootP (uψ realFe s)) zeroN:=rel_same (rel_root (rel_u h)) rel_zero
theorem has_same {s:List UInt8}(h:isLen s 32=true):hasE (uφ realFe s)=hasP (uψ realFe s):=rel_has (rel_u h)
theorem ok_same {s:List UInt8}(h:isLen s 32=true):okφ realFe s=okψ realFe s:=
 ok_gen (ok_phi s) (ok_psi s) (canonE_eq (topL s)) (has_same h) (zero_same h)
theorem decR_ok {s:List UInt8}(h:decRφ realFe s=0):isLen s 32=true∧okφ realFe s=true:=by
 unfold decRφ at h
 exact r_bool h
theorem dec_phi {s:List UInt8}(h:decRφ realFe s=0):decφ realFe s=⟨xφ realFe s,yφ realFe s,smallE 1,mulE (xφ realFe s) (yφ realFe s)⟩:=by
 obtain ⟨h1,h2⟩:=decR_ok h
 unfold decφ
 rw [h1,h2,cond_true,cond_true]
 simp only [decPφ,realFe]
theorem dec_psi {s:List UInt8}(h:decRφ realFe s=0):decψ realFe s=⟨xψ realFe s,yψ realFe s,smallN 1,mulP (xψ realFe s) (yψ realFe s)⟩:=by
 obtain ⟨h1,h2⟩:=decR_ok h
 unfold decψ
 rw [h1,← ok_same h1,h2,cond_true,cond_true]
 simp only [ofXYψ,realFe]
theorem re_val {a:E5}(h:a.ok):Re a (toF a.val):=⟨h,rfl⟩
theorem ok_parts {s:List UInt8}(h:decRφ realFe s=0):canonE (topL s)=true∧hasE (uφ realFe s)=true∧(decOdd s=true→sameE (rootE (uφ realFe s)) zeroE=false):=by
 have h2:=(decR_ok h).2
 rw [ok_phi] at h2
 exact three_bool h2
theorem lit5 (y d:Fp) (h:d * (y * y)+1=0) (i:Fp) (hi:i * i = -1):d * (y * y)=i * i:=by grind -lia -linarith (splits:=0)
theorem lit6 (d y o z:Fp) (hz:z=0) (hy:y=z) (h:d * (y * y)+o=z):o=z:=by grind -lia -linarith (splits:=0)
theorem lit7 (d x y v w:Fp) (hv:v=d * (y * y)+1) (hw:v * w=1) (hx:x * x=(y * y - 1) * w):y * y - x * x=1+d * (x * y) * (x * y):=by grind -lia -linarith (splits:=0)
theorem lit8 (r:Fp):-r * -r=r * r:=by grind -lia -linarith (splits:=0)
theorem pr_up {x y z t:E5}{x' y' z' t':N16}{X Y Z:Fp}(rx:Rel x x') (ry:Rel y y') (rz:Rel z z') (rt:Rel t t') (ex:Re x X) (ey:Re y Y) (ez:Re z Z) (et:Re t (X * Y)) (hz:Z=1) (ho:OnA dF (X,Y)):PR ⟨x,y,z,t⟩ ⟨x',y',z',t'⟩ (up (X,Y)):=by
 subst hz
 exact ⟨⟨rx,ry,rz,rt⟩,⟨ex,ey,ez,et⟩,on_up ho⟩
theorem re_flip {b:Bool}{r:E5}{R:Fp}(er:Re r R):∃ X,Re (cond b (negE r) r) X∧X * X=R * R:=by
 cases b
 ·exact ⟨R,er,rfl⟩
 ·exact ⟨-R,re_neg er,lit8 R⟩
theorem on_parts {d X Y V W R U:Fp}(hV:V=d * (Y * Y)+1) (hW:V * W=1) (hU:U=(Y * Y - 1) * W) (hR:R * R=U) (hX:X * X=R * R):OnA d (X,Y):=by
 show Y * Y - X * X=1+d * (X * Y) * (X * Y)
 exact lit7 d X Y V W hV hW (by rw [hX,hR,hU])
theorem v_ne {d Y:Fp}(c:Crv d iF):d * (Y * Y)+1 ≠ 0:=fun e=>F_one (lit6 _ _ _ _ rfl (ns_zero c (lit5 _ _ e iF c.ii)) e)
theorem pr_dec {s:List UInt8}(h:decRφ realFe s=0):∃ a:Fp × Fp,PR (decφ realFe s) (decψ realFe s) (up a):=by
 have h1:=(decR_ok h).1
 have hp:=ok_parts h
 have rx:=rel_x h1
 have ry:=rel_y h1
 have ey:=re_val ry.ok
 have hsq:=root_sq (rel_u h1).ok hp.2.1
 have er:=re_val (root_nat (rel_u h1).ok).1
 rw [dec_phi h,dec_psi h]
 obtain ⟨X,ex,hX⟩:=re_flip (b:=decOdd s) er
 rw [← x_phi] at ex
 generalize toF (yφ realFe s).val=Y at ey
 generalize toF (rootE (uφ realFe s)).val=R at er hX
 have ev:=re_add (re_mul re_d (re_mul ey ey)) re_one
 rw [← v_phi] at ev
 have hv:=v_ne crv (Y:=Y)
 have eu:=re_mul (re_sub (re_mul ey ey) re_one) (re_inv ev hv)
 rw [← u_phi] at eu
 rw [re_same (re_mul er er) eu] at hsq
 exact ⟨(X,Y),pr_up rx ry (rel_small 1) (rel_mul rx ry) ex ey re_one (re_mul ex ey) rfl (on_parts rfl (invF_mul hv) rfl (of_decide_eq_true hsq) hX)⟩
end Go.Num
namespace Go.Num
open Go Go.Eng
theorem y_phi (s:List UInt8):yφ realFe s=ofEl (topL s):=by simp only [yφ,realFe]
def bv (bit:Nat→Bool):Nat→Nat
 | 0=>0
 | j+1=>2 * bv bit j+cond (bit (255 - j)) 1 0
theorem bv_eq (bit:Nat→Bool) (V:Nat) (h:∀ i,i < 256→bit i=decide (V / 2 ^ i % 2=1)) (hV:V < 2 ^ 256):∀ j,j≤256→bv bit j=V / 2 ^ (256 - j)
 | 0,_=>by
  unfold bv
  rw [Nat.sub_zero,Nat.div_eq_of_lt hV]
 | j+1,hj=>by
  have ih:=bv_eq bit V h hV j (by omega)
  unfold bv
  rw [ih,h (255 - j) (by omega)]
  have e1:256 - j=(255 - j)+1:=by omega
  have e2:256 - (j+1)=255 - j:=by omega
  rw [e1,e2,Nat.pow_succ,← Nat.div_div_eq_div_mul]
  generalize V / 2 ^ (255 - j)=W
  rcases Nat.mod_two_eq_zero_or_one W with h0 | h0
  ·rw [h0,decide_eq_false (by decide:¬ (0:Nat)=1),cond_false]; omega
  ·rw [h0,decide_eq_true (rfl:(1:Nat)=1),cond_true]; omega
theorem mod_div (W r:Nat) (hr:r < 8):W % 256 / 2 ^ r % 2=W / 2 ^ r % 2:=by
 have:r=0 ∨ r=1 ∨ r=2 ∨ r=3 ∨ r=4 ∨ r=5 ∨ r=6 ∨ r=7:=by omega
 rcases this with h | h | h | h | h | h | h | h <;> subst h <;> omega
theorem bitK_val (l:List UInt8) (i:Nat):bitK l i=decide (leNat l / 2 ^ i % 2=1):=by
 unfold bitK bitB
 have h:=and8_nat (shr_u8 (l.getD (i / 8) 0) (i % 8)) 1 1 rfl
 rw [shr_u8_nat _ _ (Nat.mod_lt _ (by omega)),byte_at] at h
 have e1:leNat l / 256 ^ (i / 8) % 256 / 2 ^ (i % 8) % 2=leNat l / 2 ^ i % 2:=by
  rw [mod_div _ _ (Nat.mod_lt _ (by omega)),show (256:Nat)=2 ^ 8 from rfl,← Nat.pow_mul,Nat.div_div_eq_div_mul,← Nat.pow_add,Nat.div_add_mod]
 rw [Nat.pow_one,e1] at h
 rw [← h]
 generalize shr_u8 (l.getD (i / 8) 0) (i % 8) &&& 1=x
 rw [Bool.eq_iff_iff,beq_iff_eq,decide_eq_true_iff]
 exact ⟨fun e=>by rw [e]; rfl,fun e=>UInt8.toNat_inj.1 e⟩
end Go.Num
namespace Go.Num
open Go Go.Eng
def xB:Nat:=15112221349535400772501151409588531511454012693041857206046113283949847762202
def yB:Nat:=46316835694926478169428394003475163141307993866256225615783033603165251855960
def uB:Nat:=26187595835145689230469591415084376402084551887632582719101735842039498021991
theorem y_base:leNat (topL baseL)=yB:=by kernel_rfl
theorem y_lt:decide (yB < Pq)=true:=by decide
theorem len_base:isLen baseL 32=true:=by kernel_rfl
theorem odd_base:decOdd baseL=false:=by kernel_rfl
theorem canon_base:canonE (topL baseL)=true:=by
 rw [canonE_eq,canonP_eq,topL_len len_base,y_base,y_lt]; rfl
theorem uval {a b c n:Nat}{x:E5}(v:Vm x (a * b ^ (Pq - 2))) (hn:a * pwE Pq b (Pq - 2) % Pq=c):x.val % Pq=c:=by
 rw [v.val,← hn,pw_inv,Nat.mul_mod_mod]
theorem u_comp:(yB * yB+(Pq - 1 % Pq)) * pwE Pq (dNat * (yB * yB)+1) (Pq - 2) % Pq=uB:=by kernel_rfl
theorem vm_d:Vm (curveφ realFe) dNat:=⟨ofEl_ok _,by
 have:=ofEl_val (s:=dBytes) (by kernel_rfl)
 rw [d_bytes] at this
 exact this⟩
theorem vm_yB:Vm (yφ realFe baseL) yB:=⟨(rel_y len_base).ok,by
 rw [y_phi,ofEl_val (topL_len len_base),y_base]⟩
theorem u_base:(uφ realFe baseL).val % Pq=uB:=by
 have v1:=vm_small 1
 rw [show (1:UInt32).toNat=1 from rfl] at v1
 have vv:=(vm_d.mul (vm_yB.mul vm_yB)).add v1
 rw [← v_phi] at vv
 have vu:=((vm_yB.mul vm_yB).sub v1).mul (vm_inv vv)
 rw [← u_phi] at vu
 exact uval (n:=0) vu u_comp
theorem nhas_base:nHas uB=true:=by kernel_rfl
theorem nroot_base:nRoot uB=xB:=by kernel_rfl
theorem has_base:hasE (uφ realFe baseL)=true:=by rw [has_nat (rel_u len_base).ok,u_base,nhas_base]
theorem dec_base:decRφ realFe baseL=0:=by
 have h:okφ realFe baseL=true:=by rw [ok_phi,canon_base,has_base,odd_base]; rfl
 unfold decRφ
 rw [len_base,h]; rfl
theorem x_base:(xφ realFe baseL).val % Pq=xB:=by
 rw [x_phi,odd_base,cond_false,(root_nat (rel_u len_base).ok).2,u_base,nroot_base]
theorem xB_mod:xB % Pq=xB:=by kernel_rfl
def aB:Fp × Fp:=(toF xB,toF yB)
theorem pr_base:PR (decφ realFe baseL) (decψ realFe baseL) (up aB):=by
 obtain ⟨⟨X,Y⟩,h⟩:=pr_dec dec_base
 have h1:=h.val.1.val
 have h2:=h.val.2.1.val
 rw [dec_phi dec_base] at h1 h2
 have e1:toF (xφ realFe baseL).val=X:=h1
 have e2:toF (yφ realFe baseL).val=Y:=h2
 have e3:toF (xφ realFe baseL).val=toF xB:=toF_eq.2 (x_base.trans xB_mod.symm)
 have e4:toF (yφ realFe baseL).val=toF yB:=toF_eq.2 vm_yB.val
 have e5:(X,Y)=aB:=by unfold aB; rw [← e1,← e2,e3,e4]
 rw [← e5]
 exact h
structure Rm (n:Nat) (f:Fp):Prop where
 lt:n < Pq
 val:toF n=f
theorem rm_mod {n:Nat}{f:Fp}(h:toF n=f):Rm (n % Pq) f:=⟨Nat.mod_lt _ Pq_pos,by rw [← h]; exact toF_eq.2 (Nat.mod_mod _ _)⟩
theorem small_lt (n:UInt32):n.toNat < Pq:=Nat.lt_trans n.toNat_lt (by decide)
theorem keeps_MF:Keeps opsM opsF Rm where
 add:=fun {a b x y} h k=>rm_mod (by rw [toF_add,h.val,k.val]; rfl)
 sub:=fun {a b x y} h k=>rm_mod (by
  have e:Pq - b=Pq - b % Pq:=by rw [Nat.mod_eq_of_lt k.lt]
  rw [e,toF_sub,h.val,k.val]; rfl)
 mul:=fun {a b x y} h k=>rm_mod (by rw [toF_mul,h.val,k.val]; rfl)
 small:=fun n=>⟨small_lt n,rfl⟩
 zero:=⟨Pq_pos,toF_nil⟩
theorem iter_keeps {R S:Type}{o:Ops R}{o':Ops S}{r:R→S→Prop}(k:Keeps o o' r){p z:P4 R}{p' z':P4 S}{d:R}{d':S}(hd:r d d') (hp:R4 r p p') (hz:R4 r z z') (b:Nat→Bool):∀ j,R4 r (iterG (addO o d) z p b j) (iterG (addO o' d') z' p' b j)
 | 0=>hz
 | j+1=>by
  have ih:=iter_keeps k hd hp hz b j
  have h2:=add_keeps k hd ih ih
  unfold iterG
  cases b (255 - j)
  ·exact h2
  ·exact add_keeps k hd h2 hp
theorem iter_on {f:P4 Fp}(h:On dF f) (b:Nat→Bool):∀ j,On dF (iterG (addO opsF dF) zero4 f b j)∧aff (iterG (addO opsF dF) zero4 f b j)=mulA dF (aff f) (bv b j)
 | 0=>⟨On.zero dF,aff_zero⟩
 | j+1=>by
  obtain ⟨hg,ag⟩:=iter_on h b j
  have hm:=on_aff h
  have h2:=hg.add crv hg
  have a2:aff (addO opsF dF (iterG (addO opsF dF) zero4 f b j) (iterG (addO opsF dF) zero4 f b j))=mulA dF (aff f) (bv b j+bv b j):=by rw [aff_add crv hg hg,ag,← mulA_add crv hm]
  unfold iterG bv
  cases b (255 - j)
  ·rw [cond_false,cond_false,Nat.add_zero,Nat.two_mul]
   exact ⟨h2,a2⟩
  ·rw [cond_true,cond_true,Nat.two_mul]
   refine ⟨h2.add crv h,?_⟩
   rw [aff_add crv h2 h,a2]; rfl
def zeroM:P4 Nat:=⟨0,1,1,0⟩
def baseM:P4 Nat:=⟨xB,yB,1,xB * yB % Pq⟩
theorem rm_zero:R4 Rm zeroM zero4:=r4_mk ⟨Pq_pos,toF_nil⟩ ⟨by decide,toF_one⟩ ⟨by decide,toF_one⟩ ⟨Pq_pos,toF_nil⟩
theorem rm_base:R4 Rm baseM (up aB):=r4_mk ⟨by decide,rfl⟩ ⟨by decide,rfl⟩ ⟨by decide,toF_one⟩ (rm_mod (toF_mul _ _))
theorem rm_d:Rm dNat dF:=⟨by decide,rfl⟩
def mulM (n:Nat):P4 Nat:=iterG (addO opsM dNat) zeroM baseM (fun i=>Nat.testBit n i) 256
theorem order_M:((mulM Lq).x == 0 && (mulM Lq).y == (mulM Lq).z)=true:=by kernel_rfl
end Go.Num
namespace Go.Num
open Go Go.Eng
theorem bv_test (n:Nat) (h:n < 2 ^ 256):bv (fun i=>Nat.testBit n i) 256=n:=by
 rw [bv_eq (fun i=>Nat.testBit n i) n (fun i _=>Nat.testBit_eq_decide_div_mod_eq) h 256 (by omega),Nat.sub_self,Nat.pow_zero,Nat.div_one]
theorem zero_iff {f:P4 Fp}(h:On dF f):aff f=zeroA ↔ f.x=0∧f.y=f.z:=by
 rw [← aff_zero,← same_aff h (On.zero dF)]
 have h1:f.x * (zero4).z=f.x:=by show f.x * 1=f.x; grind -lia -linarith (splits:=0)
 have h2:(zero4).x * f.z=0:=by show 0 * f.z=0; grind -lia -linarith (splits:=0)
 have h3:f.y * (zero4).z=f.y:=by show f.y * 1=f.y; grind -lia -linarith (splits:=0)
 have h4:(zero4).y * f.z=f.z:=by show 1 * f.z=f.z; grind -lia -linarith (splits:=0)
 unfold SameP
 rw [h1,h2,h3,h4]
theorem mulM_aff (n:Nat) (h:n < 2 ^ 256):∃ f,R4 Rm (mulM n) f∧On dF f∧aff f=mulA dF aB n:=by
 have hk:=iter_keeps keeps_MF rm_d rm_base rm_zero (fun i=>Nat.testBit n i) 256
 have ho:=iter_on pr_base.on (fun i=>Nat.testBit n i) 256
 rw [bv_test n h,aff_up] at ho
 exact ⟨_,hk,ho.1,ho.2⟩
theorem order_lt:Lq < 2 ^ 256:=by decide
theorem order_base:mulA dF aB Lq=zeroA:=by
 obtain ⟨f,hr,ho,ha⟩:=mulM_aff Lq order_lt
 rw [← ha,zero_iff ho]
 have h:=order_M
 generalize mulM Lq=m at h hr
 simp only [Bool.and_eq_true,beq_iff_eq] at h
 have h1:=hr.1.val
 have h2:=hr.2.1.val
 have h3:=hr.2.2.1.val
 rw [h.1,toF_nil] at h1
 rw [h.2] at h2
 exact ⟨h1.symm,h2.symm.trans h3⟩
theorem order_mod (n:Nat):mulA dF aB (n % Lq)=mulA dF aB n:=mulA_mod crv (by have:=on_aff pr_base.on; rw [aff_up] at this; exact this) order_base n
end Go.Num
namespace Go.Num
theorem gen1257559732178653:Gen 1257559732178653 2:=gen_cert 1257559732178653 2 [2,2,3,7,23,531581,1224481] (fun q hq=>by
 simp only [List.mem_cons,List.mem_nil_iff,or_false] at hq
 rcases hq with rfl | rfl | rfl | rfl | rfl | rfl | rfl
 ·exact (irr_small 2 2000 rfl (by kernel_rfl))
 ·exact (irr_small 2 2000 rfl (by kernel_rfl))
 ·exact (irr_small 3 2000 rfl (by kernel_rfl))
 ·exact (irr_small 7 2000 rfl (by kernel_rfl))
 ·exact (irr_small 23 2000 rfl (by kernel_rfl))
 ·exact (irr_small 531581 2000 rfl (by kernel_rfl))
 ·exact (irr_small 1224481 2000 rfl (by kernel_rfl))
 ) (by kernel_rfl)
theorem irr1257559732178653:Irr 1257559732178653:=gen1257559732178653.irr
theorem gen4434155615661930479:Gen 4434155615661930479 17:=gen_cert 4434155615661930479 17 [2,41,43,1257559732178653] (fun q hq=>by
 simp only [List.mem_cons,List.mem_nil_iff,or_false] at hq
 rcases hq with rfl | rfl | rfl | rfl
 ·exact (irr_small 2 2000 rfl (by kernel_rfl))
 ·exact (irr_small 41 2000 rfl (by kernel_rfl))
 ·exact (irr_small 43 2000 rfl (by kernel_rfl))
 ·exact (irr1257559732178653)
 ) (by kernel_rfl)
theorem irr4434155615661930479:Irr 4434155615661930479:=gen4434155615661930479.irr
theorem gen172054593956031949258510691:Gen 172054593956031949258510691 2:=gen_cert 172054593956031949258510691 2 [2,5,1361,2851,4434155615661930479] (fun q hq=>by
 simp only [List.mem_cons,List.mem_nil_iff,or_false] at hq
 rcases hq with rfl | rfl | rfl | rfl | rfl
 ·exact (irr_small 2 2000 rfl (by kernel_rfl))
 ·exact (irr_small 5 2000 rfl (by kernel_rfl))
 ·exact (irr_small 1361 2000 rfl (by kernel_rfl))
 ·exact (irr_small 2851 2000 rfl (by kernel_rfl))
 ·exact (irr4434155615661930479)
 ) (by kernel_rfl)
theorem irr172054593956031949258510691:Irr 172054593956031949258510691:=gen172054593956031949258510691.irr
theorem gen292386187:Gen 292386187 2:=gen_cert 292386187 2 [2,3,3,3,3,307,5879] (fun q hq=>by
 simp only [List.mem_cons,List.mem_nil_iff,or_false] at hq
 rcases hq with rfl | rfl | rfl | rfl | rfl | rfl | rfl
 ·exact (irr_small 2 2000 rfl (by kernel_rfl))
 ·exact (irr_small 3 2000 rfl (by kernel_rfl))
 ·exact (irr_small 3 2000 rfl (by kernel_rfl))
 ·exact (irr_small 3 2000 rfl (by kernel_rfl))
 ·exact (irr_small 3 2000 rfl (by kernel_rfl))
 ·exact (irr_small 307 2000 rfl (by kernel_rfl))
 ·exact (irr_small 5879 2000 rfl (by kernel_rfl))
 ) (by kernel_rfl)
theorem irr292386187:Irr 292386187:=gen292386187.irr
theorem gen213441916511:Gen 213441916511 13:=gen_cert 213441916511 13 [2,5,73,292386187] (fun q hq=>by
 simp only [List.mem_cons,List.mem_nil_iff,or_false] at hq
 rcases hq with rfl | rfl | rfl | rfl
 ·exact (irr_small 2 2000 rfl (by kernel_rfl))
 ·exact (irr_small 5 2000 rfl (by kernel_rfl))
 ·exact (irr_small 73 2000 rfl (by kernel_rfl))
 ·exact (irr292386187)
 ) (by kernel_rfl)
theorem irr213441916511:Irr 213441916511:=gen213441916511.irr
theorem gen19757330305831588566944191468367130476339:Gen 19757330305831588566944191468367130476339 2:=gen_cert 19757330305831588566944191468367130476339 2 [2,269,213441916511,172054593956031949258510691] (fun q hq=>by
 simp only [List.mem_cons,List.mem_nil_iff,or_false] at hq
 rcases hq with rfl | rfl | rfl | rfl
 ·exact (irr_small 2 2000 rfl (by kernel_rfl))
 ·exact (irr_small 269 2000 rfl (by kernel_rfl))
 ·exact (irr213441916511)
 ·exact (irr172054593956031949258510691)
 ) (by kernel_rfl)
theorem irr19757330305831588566944191468367130476339:Irr 19757330305831588566944191468367130476339:=gen19757330305831588566944191468367130476339.irr
theorem gen276602624281642239937218680557139826668747:Gen 276602624281642239937218680557139826668747 2:=gen_cert 276602624281642239937218680557139826668747 2 [2,7,19757330305831588566944191468367130476339] (fun q hq=>by
 simp only [List.mem_cons,List.mem_nil_iff,or_false] at hq
 rcases hq with rfl | rfl | rfl
 ·exact (irr_small 2 2000 rfl (by kernel_rfl))
 ·exact (irr_small 7 2000 rfl (by kernel_rfl))
 ·exact (irr19757330305831588566944191468367130476339)
 ) (by kernel_rfl)
theorem irr276602624281642239937218680557139826668747:Irr 276602624281642239937218680557139826668747:=gen276602624281642239937218680557139826668747.irr
theorem gen3044861653679985063343:Gen 3044861653679985063343 5:=gen_cert 3044861653679985063343 5 [2,3,11,30703,82163,132667,137849] (fun q hq=>by
 simp only [List.mem_cons,List.mem_nil_iff,or_false] at hq
 rcases hq with rfl | rfl | rfl | rfl | rfl | rfl | rfl
 ·exact (irr_small 2 2000 rfl (by kernel_rfl))
 ·exact (irr_small 3 2000 rfl (by kernel_rfl))
 ·exact (irr_small 11 2000 rfl (by kernel_rfl))
 ·exact (irr_small 30703 2000 rfl (by kernel_rfl))
 ·exact (irr_small 82163 2000 rfl (by kernel_rfl))
 ·exact (irr_small 132667 2000 rfl (by kernel_rfl))
 ·exact (irr_small 137849 2000 rfl (by kernel_rfl))
 ) (by kernel_rfl)
theorem irr3044861653679985063343:Irr 3044861653679985063343:=gen3044861653679985063343.irr
theorem gen14741173:Gen 14741173 2:=gen_cert 14741173 2 [2,2,3,3,409477] (fun q hq=>by
 simp only [List.mem_cons,List.mem_nil_iff,or_false] at hq
 rcases hq with rfl | rfl | rfl | rfl | rfl
 ·exact (irr_small 2 2000 rfl (by kernel_rfl))
 ·exact (irr_small 2 2000 rfl (by kernel_rfl))
 ·exact (irr_small 3 2000 rfl (by kernel_rfl))
 ·exact (irr_small 3 2000 rfl (by kernel_rfl))
 ·exact (irr_small 409477 2000 rfl (by kernel_rfl))
 ) (by kernel_rfl)
theorem irr14741173:Irr 14741173:=gen14741173.irr
theorem gen58964693:Gen 58964693 2:=gen_cert 58964693 2 [2,2,14741173] (fun q hq=>by
 simp only [List.mem_cons,List.mem_nil_iff,or_false] at hq
 rcases hq with rfl | rfl | rfl
 ·exact (irr_small 2 2000 rfl (by kernel_rfl))
 ·exact (irr_small 2 2000 rfl (by kernel_rfl))
 ·exact (irr14741173)
 ) (by kernel_rfl)
theorem irr58964693:Irr 58964693:=gen58964693.irr
theorem gen198211423230930754013084525763697:Gen 198211423230930754013084525763697 5:=gen_cert 198211423230930754013084525763697 5 [2,2,2,2,3,23,58964693,3044861653679985063343] (fun q hq=>by
 simp only [List.mem_cons,List.mem_nil_iff,or_false] at hq
 rcases hq with rfl | rfl | rfl | rfl | rfl | rfl | rfl | rfl
 ·exact (irr_small 2 2000 rfl (by kernel_rfl))
 ·exact (irr_small 2 2000 rfl (by kernel_rfl))
 ·exact (irr_small 2 2000 rfl (by kernel_rfl))
 ·exact (irr_small 2 2000 rfl (by kernel_rfl))
 ·exact (irr_small 3 2000 rfl (by kernel_rfl))
 ·exact (irr_small 23 2000 rfl (by kernel_rfl))
 ·exact (irr58964693)
 ·exact (irr3044861653679985063343)
 ) (by kernel_rfl)
theorem irr198211423230930754013084525763697:Irr 198211423230930754013084525763697:=gen198211423230930754013084525763697.irr
theorem gen7237005577332262213973186563042994240857116359379907606001950938285454250989:Gen 7237005577332262213973186563042994240857116359379907606001950938285454250989 2:=gen_cert 7237005577332262213973186563042994240857116359379907606001950938285454250989 2 [2,2,3,11,198211423230930754013084525763697,276602624281642239937218680557139826668747] (fun q hq=>by
 simp only [List.mem_cons,List.mem_nil_iff,or_false] at hq
 rcases hq with rfl | rfl | rfl | rfl | rfl | rfl
 ·exact (irr_small 2 2000 rfl (by kernel_rfl))
 ·exact (irr_small 2 2000 rfl (by kernel_rfl))
 ·exact (irr_small 3 2000 rfl (by kernel_rfl))
 ·exact (irr_small 11 2000 rfl (by kernel_rfl))
 ·exact (irr198211423230930754013084525763697)
 ·exact (irr276602624281642239937218680557139826668747)
 ) (by kernel_rfl)
end Go.Num
namespace Go.Num
open Go Go.Eng
theorem kA_eq:kA=toF 121665:=rfl
theorem kd_nat:(dNat * (121665+1)+121665) % Pq=0:=by decide
theorem kd_F:dF * (kA+1) = -kA:=by
 have h:toF (dNat * (121665+1)+121665)=0:=toF_zero.2 kd_nat
 rw [toF_add,toF_mul,toF_add,toF_one,← kA_eq] at h
 have e:toF dNat=dF:=rfl
 rw [e] at h
 generalize kA=k at *
 generalize dF=d at *
 exact neg_of h
theorem k1_ne:kA+1 ≠ 0:=by
 intro h
 rw [kA_eq,← toF_one,← toF_add] at h
 have:=toF_zero.1 h
 revert this
 decide
theorem small1:opsF.small 1=1:=toF_one
theorem onB:OnA dF aB:=by have:=on_aff pr_base.on; rw [aff_up] at this; exact this
theorem toF_invF (z n:Nat) (hn:n+2=Pq) (h0:0 < n):toF (z ^ n % Pq)=invF (toF z):=by
 rw [show toF (z ^ n % Pq)=toF (z ^ n) from toF_eq.2 (Nat.mod_mod _ _)]
 by_cases hz:z % Pq=0
 ·rw [toF_zero.2 hz,inv_zero]
  refine toF_zero.2 ?_
  rw [Nat.pow_mod,hz,Nat.zero_pow h0,Nat.zero_mod]
 ·have hz':toF z ≠ 0:=fun e=>hz (toF_zero.1 e)
  refine F_cancel hz' ?_
  rw [invF_mul hz',← toF_mul,← toF_one]
  refine toF_eq.2 ?_
  have:=genP.inv P3 hz
  rw [show Pq - 2=n by omega] at this
  rw [this]
  exact (Nat.mod_eq_of_lt (by rw [← hn]; omega)).symm
theorem quot_F {p:P2 Nat}{q:P2 Fp}(hx:Rm p.x q.x) (hz:Rm p.z q.z):toF (quotM p)=q.x * invF q.z:=by
 unfold quotM
 rw [pw_inv,show toF (p.x * (p.z ^ (Pq - 2) % Pq) % Pq)=toF (p.x * (p.z ^ (Pq - 2) % Pq)) from toF_eq.2 (Nat.mod_mod _ _),toF_mul,toF_invF p.z (Pq - 2) (by decide) (by decide),hx.val,hz.val]
theorem nb_div (k:List UInt8) (hk:leNat k < 2 ^ 255):∀ j,j≤255→nb k j=leNat k / 2 ^ (255 - j)
 | 0,_=>by rw [Nat.sub_zero,Nat.div_eq_of_lt hk]; rfl
 | j+1,h=>by
  have ih:=nb_div k hk j (by omega)
  unfold nb
  rw [ih,bitK_val]
  have e1:255 - j=(254 - j)+1:=by omega
  have e2:255 - (j+1)=254 - j:=by omega
  rw [e1,e2,Nat.pow_succ,← Nat.div_div_eq_div_mul]
  generalize leNat k / 2 ^ (254 - j)=v
  by_cases hv:v % 2=1
  ·rw [decide_eq_true hv,cond_true]; omega
  ·rw [decide_eq_false hv,cond_false]; omega
theorem nb_all (k:List UInt8) (hk:leNat k < 2 ^ 255):nb k 255=leNat k:=by
 rw [nb_div k hk 255 (Nat.le_refl _),Nat.sub_self,Nat.pow_zero,Nat.div_one]
theorem lad_F {D:Fp × Fp}(hD:OnA dF D) (n3:D.2 ≠ 1) (n4:D.2 ≠ -1){u:Nat}(hu:toF u=uF D.2) (hlt:u < Pq) (k:List UInt8) (hk:leNat (clampL k) < 2 ^ 255) :
  toF (quotM (ladM k u))=uF (mulA dF D (leNat (clampL k))).2:=by
 have m3:1 - D.2 ≠ 0:=fun e=>n3 (one_sub e)
 have hu2:toF u * (1 - D.2)=1+D.2:=by rw [hu]; exact div_back m3
 have r:=(lad_keeps keeps_MF (clampL k) (⟨hlt,rfl⟩:Rm u (toF u)) 255).1
 have q:=(lad_pt crv kd_F k1_ne hD n3 n4 hu2 (clampL k) small1 255).1
 rw [nb_all _ hk] at q
 rw [← rp_val q]
 exact quot_F r.1 r.2
theorem clamp_val {k:List UInt8}(h:isLen k 32=true):leNat (clampL k) % 8=0∧2 ^ 254≤leNat (clampL k)∧leNat (clampL k) < 2 ^ 255:=by
 rw [isLen_eq] at h
 obtain ⟨a,m,b,rfl,hm⟩:∃ a m b,k=a::(m++[b])∧m.length=30:=by
  match k,h with
  | a::l,h =>
   have h1:l.length=31:=by simpa using h
   refine ⟨a,l.take 30,l.getD 30 0,?_,by rw [List.length_take]; omega⟩
   have h2:l.drop 30=[l.getD 30 0]:=by
    rw [List.drop_eq_getElem_cons (by omega),List.drop_of_length_le (by omega)]
    rw [List.getD_eq_getElem?_getD,List.getElem?_eq_getElem (by omega)]; rfl
   rw [← h2,List.take_append_drop]
 have e:clampL (a::(m++[b]))=(a &&& 248)::(m++[(b &&& 127) ||| 64]):=by
  unfold clampL
  have g1:(a::(m++[b])).getD 31 0=b:=by
   rw [List.getD_eq_getElem?_getD,List.getElem?_cons_succ,List.getElem?_append_right (by omega),hm]; rfl
  rw [g1]
  show ((a &&& 248)::(m++[b])).set 31 _=_
  rw [List.set_cons_succ,List.set_append_right _ _ (by omega),hm]; rfl
 rw [e]
 have hb:=leNat_bound m
 rw [hm] at hb
 have s1:leNat ((a &&& 248)::(m++[(b &&& 127) ||| 64]))=(a &&& 248).toNat+256 * (leNat m+256 ^ 30 * ((b &&& 127) ||| 64).toNat):=by
  show (a &&& 248).toNat+256 * leNat (m++[(b &&& 127) ||| 64])=_
  rw [leNat_app2,hm]
  rfl
 have k1:=all8 (f:=fun x=>(x &&& 248).toNat % 8 == 0) (by kernel_rfl) a
 have k2:=all8 (f:=fun x=>Nat.ble 64 ((x &&& 127) ||| 64).toNat && Nat.ble ((x &&& 127) ||| 64).toNat 127) (by kernel_rfl) b
 simp only [beq_iff_eq] at k1
 simp only [Bool.and_eq_true,Nat.ble_eq] at k2
 have k3:=(a &&& 248).toNat_lt
 rw [s1]
 generalize (a &&& 248).toNat=x at *
 generalize ((b &&& 127) ||| 64).toNat=y at *
 generalize leNat m=z at *
 simp only [Nat.reducePow] at *
 omega
theorem genL:Gen Lq 2:=gen7237005577332262213973186563042994240857116359379907606001950938285454250989
theorem L3:3≤Lq:=by decide
theorem L_mul {a b:Nat}(h:a * b % Lq=0):a % Lq=0 ∨ b % Lq=0:=by
 by_cases ha:a % Lq=0
 ·exact .inl ha
 ·exact .inr (by
   have:=genL.cancel L3 ha (s:=b) (t:=0) (by rw [h,Nat.mul_zero,Nat.zero_mod])
   rw [this,Nat.zero_mod])
theorem L_8:¬ 8 % Lq=0:=by decide
theorem L_2:¬ 2 % Lq=0:=by decide
theorem L_big:2 ^ 252 < Lq:=by decide
theorem clamp_L {k:List UInt8}(h:isLen k 32=true):¬ leNat (clampL k) % Lq=0:=by
 obtain ⟨h1,h2,h3⟩:=clamp_val h
 generalize leNat (clampL k)=n at *
 intro e
 have e2:n=8 * (n / 8):=by omega
 rw [e2] at e
 have e3:=(L_mul e).resolve_left L_8
 have lb:=L_big
 have lt:n / 8 < Lq:=by
  simp only [Nat.reducePow] at h3 lb
  omega
 rw [Nat.mod_eq_of_lt lt] at e3
 simp only [Nat.reducePow] at h2
 omega
theorem B_ne:aB ≠ zeroA:=by
 intro e
 have h:=congrArg (fun p:Fp × Fp=>p.1.val) e
 revert h
 decide
theorem mul_ne {n:Nat}(h:¬ n % Lq=0):mulA dF aB n ≠ zeroA:=by
 intro e
 have h1:=genL.inv L3 h
 have h2:mulA dF aB (n * n ^ (Lq - 2))=zeroA:=by rw [mulA_mul crv onB,e,mulA_zero]
 rw [← order_mod,h1,mulA_one] at h2
 exact B_ne h2
theorem x_zero {d i:Fp}(h:Crv d i){a:Fp × Fp}(ha:OnA d a) (hy:a.2=1 ∨ a.2 = -1):a.1=0:=by
 have e:=k_alg d a.1 a.2 ha
 have hk:=k_ne h ha
 have hz:a.1 * a.1 * (1+d * (a.2 * a.2))=0:=by
  rw [e]
  exact sq_one_gen hy
 exact F_sq_zero ((F_mul_zero hz).resolve_right hk)
theorem twice_zero {d i:Fp}(h:Crv d i){a:Fp × Fp}(ha:OnA d a) (hy:a.2=1 ∨ a.2 = -1):addA d a a=zeroA:=by
 have hx:=x_zero h ha hy
 have e:negA a=a:=by
  unfold negA
  exact Prod.ext (by show -a.1=a.1; exact neg_zero' hx) rfl
 have:=addA_neg h ha
 rw [e] at this
 exact this
theorem mul_y {n:Nat}(h:¬ n % Lq=0):(mulA dF aB n).2 ≠ 1∧(mulA dF aB n).2 ≠ -1:=by
 have key:¬ ((mulA dF aB n).2=1 ∨ (mulA dF aB n).2 = -1):=fun hy=>by
  have h1:=twice_zero crv (OnA.mul crv onB n) hy
  rw [← mulA_add crv onB] at h1
  refine mul_ne (n:=n+n) (fun e => ?_) h1
  rw [show n+n=2 * n by omega] at e
  exact (L_mul e).elim L_2 h
 exact ⟨fun e=>key (.inl e),fun e=>key (.inr e)⟩
theorem uF_ne {y:Fp}(h1:y ≠ 1) (h2:y ≠ -1):uF y ≠ 0:=by
 unfold uF
 have m3:1 - y ≠ 0:=fun e=>h1 (one_sub e)
 refine F_mul_ne (fun e=>h2 (one_add e)) (fun e => ?_)
 have:=invF_mul m3
 rw [e,mul_zero'] at this
 exact F_one this.symm
structure KeyOf (u:List UInt8) (n:Nat):Prop where
 len:isLen u 32=true
 lt:leNat u < Pq
 val:toF (leNat u)=uF (mulA dF aB n).2
 ne:¬ n % Lq=0
theorem u_nine:toF 9=uF aB.2:=by
 have h:toF (9 * (1+(Pq - yB % Pq)))=toF (1+yB):=toF_eq.2 (by decide)
 rw [toF_mul,toF_sub,toF_add,toF_one] at h
 have e:toF yB=aB.2:=rfl
 rw [e] at h
 have n:=(mul_y (n:=1) (by decide)).1
 rw [mulA_one] at n
 have m3:1 - aB.2 ≠ 0:=fun e=>n (one_sub e)
 unfold uF
 exact (F_eq_div m3 h).symm
theorem key_nine:KeyOf nine32 1:=⟨rfl,by rw [nine_val]; decide,by rw [nine_val,mulA_one]; exact u_nine,by decide⟩
theorem quot_lt (p:P2 Nat):quotM p < Pq:=Nat.mod_lt _ Pq_pos
theorem KeyOf.lad {u:List UInt8}{n:Nat}(h:KeyOf u n){k:List UInt8}(hk:isLen k 32=true):KeyOf (ladE k u) (n * leNat (clampL k)):=by
 have hp:Pq < p255:=by decide
 have e:=ladE_nat k h.len
 rw [Nat.mod_eq_of_lt (show leNat u < p255 from Nat.lt_trans h.lt hp),Nat.mod_eq_of_lt h.lt] at e
 obtain ⟨y1,y2⟩:=mul_y h.ne
 have q:=lad_F (OnA.mul crv onB n) y1 y2 h.val h.lt k (clamp_val hk).2.2
 rw [← mulA_mul crv onB] at q
 exact ⟨isLen_lad _ _,by rw [e]; exact quot_lt _,by rw [e]; exact q,fun e=>(L_mul e).elim h.ne (clamp_L hk)⟩
theorem KeyOf.nz {u:List UInt8}{n:Nat}(h:KeyOf u n):(u == zero32)=false:=by
 obtain ⟨y1,y2⟩:=mul_y h.ne
 rw [beq_eq_false_iff_ne]
 intro e
 have v:=h.val
 rw [e,zero_val32,toF_nil] at v
 exact uF_ne y1 y2 v.symm
theorem KeyOf.same {u v:List UInt8}{n m:Nat}(h:KeyOf u n) (k:KeyOf v m) (e:n=m):u=v:=by
 subst e
 refine leNat_inj ((isLen_eq.1 h.len).trans (isLen_eq.1 k.len).symm) ?_
 have:=toF_eq.1 (h.val.trans k.val.symm)
 rwa [Nat.mod_eq_of_lt h.lt,Nat.mod_eq_of_lt k.lt] at this
end Go.Num
namespace Go.Proofs.YtlchjbidkdokmaaGreatDoor
open Go Go.Eng Go.Num Go.Bla Bk
structure Fp where
 sv:L8→L8→L8
 sr:L8→L8→Int
 pv:L8→L8
 pr:L8→Int
 hm:L8→L8→L8
def rlL:L8:=[114,101,108,97,121,32]
noncomputable def realFp:Fp:=⟨shV ladE,shR ladE,puV ladP,puR,fun k t=>outC (hm wF (fun i=>k.getD i 0) (rlL++t))⟩
def s30 (φ:Fp):List AVal→Option EffA
 | [.str a,.str b]=>some (.pure (.tup [.str (φ.sv a b),.int .i64 (φ.sr a b)]))
 | _=>none
def s10 (φ:Fp):List AVal→Option EffA
 | [.str a]=>some (.pure (.tup [.str (φ.pv a),.int .i64 (φ.pr a)]))
 | _=>none
def g31 (k t:L8):Bool:=Nat.beq k.length 32 && Nat.ble t.length 4096
noncomputable def s31 (φ:Fp):List AVal→Option (EffA × Bool)
 | [.str k,.str t]=>some (tL (some (.str (φ.hm k t))),g31 k t)
 | _=>none
def s33 (φ:Fp):List AVal→Option (EffA × Bool)
 | [.str k,.str t]=>some (.pure (.str (φ.hm k t)),g31 k t)
 | _=>none
theorem s30_ok:CSOk Tryz.prog (csOne 30 (s30 realFp)):=csOne_ok fun args e he=>by
 unfold s30 at he
 split at he
 ·rename_i a b
  cases he
  have r:=k30_ok 30 [.str a,.str b] (.pure (.tup [.str (shV ladE a b),.int .i64 (shR ladE a b)])) rfl
  exact r
 ·cases he
theorem shV_same (a b:L8):shV ladP a b=shV ladE a b∧shR ladP a b=shR ladE a b:=by
 unfold shV shR
 cases h:(isLen a 32 && isLen b 32) with
 | false=>simp only [cond_false,and_self]
 | true =>
  rw [Bool.and_eq_true] at h
  rw [lad_same a h.2]
  exact ⟨rfl,rfl⟩
theorem s32_ok:CSOk Tryz.prog (csOne 32 (s30 realFp)):=csOne_ok fun args e he=>by
 unfold s30 at he
 split at he
 ·rename_i a b
  cases he
  have r:=k32_ok 32 [.str a,.str b] (.pure (.tup [.str (shV ladP a b),.int .i64 (shR ladP a b)])) rfl
  rw [(shV_same a b).1,(shV_same a b).2] at r
  exact r
 ·cases he
theorem s10_ok:CSOk Tryz.prog (csOne 10 (s10 realFp)):=csOne_ok fun args e he=>by
 unfold s10 at he
 split at he
 ·rename_i a
  cases he
  have r:=k10_ok 10 [.str a] (.pure (.tup [.str (puV ladP a),.int .i64 (puR a)])) rfl
  exact r
 ·cases he
theorem run31 (w:WF) (k t:L8):ansO (run1O Tryz.prog (psOne 55 (q94 w)) (csAlt (csP (psOne 55 (q94 w))) noCS) [7,8] [] [] (mask 31) 200 31 [.str k,.str t] H0 5)=some (.str (outC (hm w (fun i=>k.getD i 0) (rlL++t))),[Nat.beq k.length 32 && gdS (rlL++t),cB rlL t]):=by kernel_rfl
theorem run33 (w:WF) (k t:L8):ansO (run1O Tryz.prog (psOne 56 (e53 w)) (csAlt (csP (psOne 56 (e53 w))) noCS) [7,8] [] [] (mask 33) 200 33 [.str k,.str t] [] 5)=some (.str (outC (hm w (fun i=>k.getD i 0) (rlL++t))),[Nat.beq k.length 32 && gdS (rlL++t),cB rlL t]):=by kernel_rfl
theorem g31_ob {k t:L8}(h:g31 k t=true):(Nat.beq k.length 32 && gdS (rlL++t))=true∧cB rlL t=true:=by
 unfold g31 at h
 rw [Bool.and_eq_true] at h
 have ht:=Nat.le_of_ble_eq_true h.2
 have hl:rlL.length=6:=rfl
 refine ⟨?_,cB_of (by omega)⟩
 rw [h.1,Bool.true_and]
 exact Nat.ble_eq_true_of_le (by rw [List.length_append]; omega)
theorem s31_ok:CSOk Tryz.prog (csP (psOne 31 (s31 realFp))):=psOne_ok fun args e he=>by
 unfold s31 at he
 split at he
 ·rename_i k t
  simp only [Option.some.injEq,Prod.mk.injEq] at he
  obtain ⟨rfl,hg⟩:=he
  obtain ⟨h1,h2⟩:=g31_ob hg
  refine callOk_tL (csAlt_ok (q94_ok wF_ok) (noCS_ok _)) ⟨fun _=>rfl,rfl⟩ fun x hx => ?_
  cases hx
  exact ⟨rfl,200,mask 31,run_of (ansO_run csP_ok (run31 wF k t) (allM h1 (allM h2 rfl)))⟩
 ·cases he
theorem hw46 (s:L8) (hg:gd s=true):CallOk Tryz.prog 93 [.str s] (.pure (.str (outC (wF s)))):=by
 have h:=g46_ok 93 [.str s] (.pure (.str (oD s))) (by
  unfold csP psOne g46
  simp only [Nat.beq_refl,hg]
  rfl)
 have e:outC (wF s)=oD s:=of_eq s hg
 rw [e]
 exact h
theorem s33_ok:CSOk Tryz.prog (csP (psOne 33 (s33 realFp))):=psOne_ok fun args e he=>by
 unfold s33 at he
 split at he
 ·rename_i k t
  simp only [Option.some.injEq,Prod.mk.injEq] at he
  obtain ⟨rfl,hg⟩:=he
  obtain ⟨h1,h2⟩:=g31_ob hg
  have hv:(run1 Tryz.prog (csAlt (csP (psOne 56 (e53 wF))) noCS) (mask 33) 200 33 [.str k,.str t] [] 5).map (·.1)=some (.str (outC (hm wF (fun i=>k.getD i 0) (rlL++t)))):=ansO_run csP_ok (run33 wF k t) (allM h1 (allM h2 rfl))
  exact callOk_val (csAlt_ok (e53_ok (e46_ok hw46)) (noCS_ok _)) hmix (by rw [gl1]; exact hv) rfl rfl
 ·cases he
end Go.Proofs.YtlchjbidkdokmaaGreatDoor
