/- Texts GSd1, GSd2, Eng41, GSd3, GSd4, GSd5, Ed3, Ed4, Ed5, Ed6, Ed7, Ed8, Sg1, Mq1, PrimeL, Mq3, Sg2, Eng48, Eng49, Eng50, Eng51, Eng52: what they show that this claim uses. -/
import Derived.Test.YtcjkbimdmcfppaaGreatDoorS9
import Derived.Test.YtcjkbimdmcfppaaGreatDoorS8
import Derived.Test.YtcjkbimdmcfppaaGreatDoorS7
import Derived.Test.YtcjkbimdmcfppaaGreatDoorS4
set_option maxRecDepth 100000
set_option maxHeartbeats 1000000
set_option linter.unusedVariables false
set_option linter.unusedSimpArgs false
namespace Go.Proofs.YtcjkbimdmcfppaaGreatDoor.Sha
open Go Go.Eng
set_option maxRecDepth 1000000
def schedD (φ:Fr) (w0 w1 w9 w14:UInt64):UInt64:=((w0+((φ.rotd w1 1 ^^^ φ.rotd w1 8) ^^^ shr_u64 w1 7))+w9)+((φ.rotd w14 19 ^^^ φ.rotd w14 61) ^^^ shr_u64 w14 6)
def rndTD (φ:Fr) (g w:UInt64) (x:Nat→UInt64):UInt64:=(((x 7+((φ.rotd (x 4) 14 ^^^ φ.rotd (x 4) 18) ^^^ φ.rotd (x 4) 41))+((x 4 &&& x 5) ^^^ (~~~(x 4) &&& x 6)))+g)+w
def rndLD (φ:Fr) (g w:UInt64) (x:Nat→UInt64):List UInt64:=[rndTD φ g w x+(((φ.rotd (x 0) 28 ^^^ φ.rotd (x 0) 34) ^^^ φ.rotd (x 0) 39)+(((x 0 &&& x 1) ^^^ (x 0 &&& x 2)) ^^^ (x 1 &&& x 2))),x 0,x 1,x 2,x 3+rndTD φ g w x,x 4,x 5,x 6]
def rndD (φ:Fr) (g w:UInt64) (x:Nat→UInt64):Nat→UInt64:=fun j=>(rndLD φ g w x).getD j 0
def W2D (φ:Fr) (w:Nat→UInt64):Nat→Nat→UInt64
 | 0=>w
 | i+1=>updF (W2D φ w i) (i+16) (schedD φ (W2D φ w i i) (W2D φ w i (i+1)) (W2D φ w i (i+9)) (W2D φ w i (i+14)))
def X3D (φ:Fr) (g w h:Nat→UInt64):Nat→Nat→UInt64
 | 0=>h
 | i+1=>rndD φ (g i) (w i) (X3D φ g w h i)
def pieceD (φ:Fr) (g h:Nat→UInt64) (b:Nat→UInt8):Nat→UInt64:=A4 h (X3D φ g (W2D φ (W1 b 128) 64) h 80) 8
def UA (h:Nat→UInt64) (o i:Nat):TL:=[(0,.agg (cellsU 8 h)),(1,.slice 2 o 128 1),(2,.ptr 3 0),(4,.ptr 11 0),(5,.ptr 19 0),(6,.int .i64 (i:Int))]
def UB (h:Nat→UInt64) (o i:Nat):TL:=UA h o 128++[(19,.bool false),(7,.int .i64 (i:Int))]
def UC (h:Nat→UInt64) (o i:Nat):TL:=UB h o 80++[(37,.bool false),(10,.ptr 83 0),(11,.ptr 107 0),(12,.int .i64 (i:Int))]
def UD (h:Nat→UInt64) (o i:Nat):TL:=UC h o 80++[(80,.bool false),(17,.int .i64 (i:Int))]
def VA (b:Nat→UInt8) (L:Nat) (h w:Nat→UInt64):HL:=[(2,.cells false (cellsB L b)),(3,.cells false (cellsU 8 h)),(11,.cells false (cellsU 8 fun _=>0)),(19,.cells false (cellsU 80 w))]
def VC (b:Nat→UInt8) (L:Nat) (h w κ x:Nat→UInt64):HL:=VA b L h w++[(83,.cells false (cellsU 80 κ)),(107,.cells false (cellsU 8 x))]
def SA16 (b:Nat→UInt8) (L:Nat) (h:Nat→UInt64) (o:Nat) (w:Nat→UInt64) (i:Nat):SA:=⟨UA h o i,VA b L h w,35⟩
def SB16 (b:Nat→UInt8) (L:Nat) (h:Nat→UInt64) (o:Nat) (w:Nat→UInt64) (i:Nat):SA:=⟨UB h o i,VA b L h w,59⟩
def SC16 (b:Nat→UInt8) (L:Nat) (h:Nat→UInt64) (o:Nat) (w κ x:Nat→UInt64) (i:Nat):SA:=⟨UC h o i,VC b L h w κ x,131⟩
def SD16 (b:Nat→UInt8) (L:Nat) (h:Nat→UInt64) (o:Nat) (w κ x h1:Nat→UInt64) (i:Nat):SA:=⟨UD h o i,VC b L h1 w κ x,155⟩
theorem p16_3:p16[3]? = some (.block 0 (.loop (b16 3))):=by kernel_rfl
theorem p16_5:p16[5]? = some (.block 2 (.loop (b16 5))):=by kernel_rfl
theorem p16_9:p16[9]? = some (.block 4 (.loop (b16 9))):=by kernel_rfl
theorem p16_11:p16[11]? = some (.block 6 (.loop (b16 11))):=by kernel_rfl
theorem okB {T:TL}{L n fr:Nat}{b:Nat→UInt8}{H:HL}(h:okS Tryz.prog ⟨T,(n,.cells false [])::H,fr⟩=true):okS Tryz.prog ⟨T,(n,.cells false (cellsB L b))::H,fr⟩=true:=by
 unfold okS at h ⊢
 simp only [ltH,ltL_B,ltL] at h ⊢
 exact h
section
variable (φ:Fr) (κ h h1 h2 w w0 x x0:Nat→UInt64) (b:Nat→UInt8) (L o i j p q r s F:Nat)
theorem s16a:segO (evSO Tryz.prog noPS (n16 φ κ) [] Tryz.f66.ntmps (mask 66) F 3 ((p16.drop 0).take 3) (⟨startT [.agg (cellsU 8 h),.slice 2 o 128 1] 0,[(2,.cells false (cellsB L b))],3⟩) ⟨[],[],[]⟩)=some (SA16 b L h o (fun _=>0) 0,[]):=by kernel_rfl
theorem r16A:roundO2 Tryz.prog noPS (n16 φ κ) [19,200023,200025,26,27,31,32,35,100035,200021] [true] [.int .i64 (p:Int),.int .i64 (p:Int),.u64 (w p),.u8 (b (o+i)),.int .i64 (j:Int)] Tryz.f66.ntmps (mask 66) F 3 (b16 3) (SA16 b L h o w0 0) (SA16 b L h o w i)=some (⟨UA h o j,[(2,.cells false (cellsB L b)),(3,.cells false (cellsU 8 h)),(11,.cells false (cellsU 8 fun _=>0)),(19,.cells false (putA (cellsU 80 w) (0+(p:Int).toNat * 1) (cellsA (.u64 (shlW (w p) (b (o+i)))))))],35⟩,[eqS (.int .i64 (IntKind.wrap .i64 ((i:Int)+1))) (.int .i64 (j:Int)),Nat.ble (0+(p:Int).toNat * 1+(cellsA (.u64 (shlW (w p) (b (o+i))))).length) (cellsU 80 w).length,decide (0≤(p:Int)) && decide ((p:Int) < 80),isAt (cellsB L b) (o+(i:Int).toNat * 1) (.u8 (b (o+i))),decide (0≤(i:Int)) && decide ((i:Int) < 128),isAt (cellsU 80 w) (0+(p:Int).toNat * 1) (.u64 (w p)),decide (0≤(p:Int)) && decide ((p:Int) < 80),eqS (.int .i64 (IntKind.wrap .i64 (Int.tdiv (i:Int) 8))) (.int .i64 (p:Int)),eqS (.int .i64 (IntKind.wrap .i64 (Int.tdiv (i:Int) 8))) (.int .i64 (p:Int)),decide ((i:Int) < 128)]):=by kernel_rfl
theorem x16A:evSO Tryz.prog noPS (n16 φ κ) [19] Tryz.f66.ntmps (mask 66) F 3 [b16 3] (SA16 b L h o w i) ⟨[false],[],[]⟩=some (.exit 0,⟨UA h o i++[(19,.bool false)],VA b L h w,51⟩,⟨[],[],[!(decide ((i:Int) < 128))]⟩):=by kernel_rfl
theorem s16b:segO (evSO Tryz.prog noPS (n16 φ κ) [] Tryz.f66.ntmps (mask 66) F 3 ((p16.drop 4).take 1) (⟨UA h o 128++[(19,.bool false)],VA b L h w,51⟩) ⟨[],[],[]⟩)=some (SB16 b L h o w 16,[]):=by kernel_rfl
theorem r16B:roundO2 Tryz.prog noPS (n16 φ κ) [37,200041,42,43,200045,46,47,200050,51,52,200063,64,65,76,100076,200039] [true] [.int .i64 (p:Int),.u64 (w p),.int .i64 (q:Int),.u64 (w q),.int .i64 (r:Int),.u64 (w r),.int .i64 (s:Int),.u64 (w s),.int .i64 (j:Int)] Tryz.f66.ntmps (mask 66) F 3 (b16 5) (SB16 b L h o w0 16) (SB16 b L h o w i)=some (⟨UB h o j,[(2,.cells false (cellsB L b)),(3,.cells false (cellsU 8 h)),(11,.cells false (cellsU 8 fun _=>0)),(19,.cells false (putA (cellsU 80 w) (0+(i:Int).toNat * 1) (cellsA (.u64 (schedD φ (w r) (w p) (w s) (w q))))))],59⟩,[eqS (.int .i64 (IntKind.wrap .i64 ((i:Int)+1))) (.int .i64 (j:Int)),Nat.ble (0+(i:Int).toNat * 1+(cellsA (.u64 (schedD φ (w r) (w p) (w s) (w q)))).length) (cellsU 80 w).length,decide (0≤(i:Int)) && decide ((i:Int) < 80),isAt (cellsU 80 w) (0+(s:Int).toNat * 1) (.u64 (w s)),decide (0≤(s:Int)) && decide ((s:Int) < 80),eqS (.int .i64 (IntKind.wrap .i64 ((i:Int) - 7))) (.int .i64 (s:Int)),isAt (cellsU 80 w) (0+(r:Int).toNat * 1) (.u64 (w r)),decide (0≤(r:Int)) && decide ((r:Int) < 80),eqS (.int .i64 (IntKind.wrap .i64 ((i:Int) - 16))) (.int .i64 (r:Int)),isAt (cellsU 80 w) (0+(q:Int).toNat * 1) (.u64 (w q)),decide (0≤(q:Int)) && decide ((q:Int) < 80),eqS (.int .i64 (IntKind.wrap .i64 ((i:Int) - 2))) (.int .i64 (q:Int)),isAt (cellsU 80 w) (0+(p:Int).toNat * 1) (.u64 (w p)),decide (0≤(p:Int)) && decide ((p:Int) < 80),eqS (.int .i64 (IntKind.wrap .i64 ((i:Int) - 15))) (.int .i64 (p:Int)),decide ((i:Int) < 80)]):=by kernel_rfl
theorem x16B:evSO Tryz.prog noPS (n16 φ κ) [37] Tryz.f66.ntmps (mask 66) F 3 [b16 5] (SB16 b L h o w i) ⟨[false],[],[]⟩=some (.exit 2,⟨UB h o i++[(37,.bool false)],VA b L h w,75⟩,⟨[],[],[!(decide ((i:Int) < 80))]⟩):=by kernel_rfl
theorem s16c:segO (evSO Tryz.prog noPS (n16 φ κ) [] Tryz.f66.ntmps (mask 66) F 3 ((p16.drop 6).take 3) (⟨UB h o 80++[(37,.bool false)],VA b L h w,75⟩) ⟨[],[],[]⟩)=some (SC16 b L h o w κ h 0,[]):=by kernel_rfl
theorem r16C:roundO2 Tryz.prog noPS (n16 φ κ) [80,108,109,112,113,200082] [true] [.u64 (κ i),.u64 (w i),.int .i64 (j:Int)] Tryz.f66.ntmps (mask 66) F 3 (b16 9) (SC16 b L h o w κ x0 0) (SC16 b L h o w κ x i)=some (SC16 b L h o w κ (rndD φ (κ i) (w i) x) j,[eqS (.int .i64 (IntKind.wrap .i64 ((i:Int)+1))) (.int .i64 (j:Int)),isAt (cellsU 80 w) (0+(i:Int).toNat * 1) (.u64 (w i)),decide (0≤(i:Int)) && decide ((i:Int) < 80),isAt (cellsU 80 κ) (0+(i:Int).toNat * 1) (.u64 (κ i)),decide (0≤(i:Int)) && decide ((i:Int) < 80),decide ((i:Int) < 80)]):=by kernel_rfl
theorem x16C:evSO Tryz.prog noPS (n16 φ κ) [80] Tryz.f66.ntmps (mask 66) F 3 [b16 9] (SC16 b L h o w κ x i) ⟨[false],[],[]⟩=some (.exit 4,⟨UC h o i++[(80,.bool false)],VC b L h w κ x,147⟩,⟨[],[],[!(decide ((i:Int) < 80))]⟩):=by kernel_rfl
theorem s16d:segO (evSO Tryz.prog noPS (n16 φ κ) [] Tryz.f66.ntmps (mask 66) F 3 ((p16.drop 10).take 1) (⟨UC h o 80++[(80,.bool false)],VC b L h w κ x,147⟩) ⟨[],[],[]⟩)=some (SD16 b L h o w κ x h 0,[]):=by kernel_rfl
theorem r16D:roundO2 Tryz.prog noPS (n16 φ κ) [162,167,168,170,171,173,100173,200164] [true] [.u64 (h1 i),.u64 (x i),.int .i64 (j:Int)] Tryz.f66.ntmps (mask 66) F 3 (b16 11) (SD16 b L h o w κ x h2 0) (SD16 b L h o w κ x h1 i)=some (⟨UD h o j,[(2,.cells false (cellsB L b)),(3,.cells false (putA (cellsU 8 h1) (0+(i:Int).toNat * 1) (cellsA (.u64 (h1 i+x i))))),(11,.cells false (cellsU 8 fun _=>0)),(19,.cells false (cellsU 80 w)),(83,.cells false (cellsU 80 κ)),(107,.cells false (cellsU 8 x))],155⟩,[eqS (.int .i64 (IntKind.wrap .i64 ((i:Int)+1))) (.int .i64 (j:Int)),Nat.ble (0+(i:Int).toNat * 1+(cellsA (.u64 (h1 i+x i))).length) (cellsU 8 h1).length,decide (0≤(i:Int)) && decide ((i:Int) < 8),isAt (cellsU 8 x) (0+(i:Int).toNat * 1) (.u64 (x i)),decide (0≤(i:Int)) && decide ((i:Int) < 8),isAt (cellsU 8 h1) (0+(i:Int).toNat * 1) (.u64 (h1 i)),decide (0≤(i:Int)) && decide ((i:Int) < 8),decide ((i:Int) < 8)]):=by kernel_rfl
theorem x16D:evSO Tryz.prog noPS (n16 φ κ) [162] Tryz.f66.ntmps (mask 66) F 3 [b16 11] (SD16 b L h o w κ x h1 i) ⟨[false],[],[]⟩=some (.exit 6,⟨UD h o i++[(162,.bool false)],VC b L h1 w κ x,171⟩,⟨[],[],[!(decide ((i:Int) < 8))]⟩):=by kernel_rfl
theorem z16:evS Tryz.prog (n16 φ κ) Tryz.f66.ntmps (mask 66) F 3 (p16.drop 12) ⟨UD h o 8++[(162,.bool false)],VC b L h1 w κ x,171⟩=some (.ret,⟨UD h o 8++[(162,.bool false)],[(2,.cells false (cellsB L b)),(3,.cells false (cellsU 8 h1)),(11,.cells false (cellsU 8 h1)),(19,.cells false (cellsU 80 w)),(83,.cells false (cellsU 80 κ)),(107,.cells false (cellsU 8 x))],187⟩):=by kernel_rfl
theorem ok16A:okS Tryz.prog (SA16 b L h o w i)=true:=okB (by kernel_rfl)
theorem ok16B:okS Tryz.prog (SB16 b L h o w i)=true:=okB (by kernel_rfl)
theorem ok16C:okS Tryz.prog (SC16 b L h o w κ x i)=true:=okB (by kernel_rfl)
theorem ok16D:okS Tryz.prog (SD16 b L h o w κ x h1 i)=true:=okB (by kernel_rfl)
end
theorem end16 {φ:Fr}{κ:Nat→UInt64}{sy:List Nat}{F:Nat}{b:Code}{s s':SA}{id:Nat}{c:Bool}(h:evSO Tryz.prog noPS (n16 φ κ) sy Tryz.f66.ntmps (mask 66) F 3 [b] s ⟨[false],[],[]⟩=some (.exit id,s',⟨[],[],[!c]⟩)) (hc:c=false):evC Tryz.prog (n16 φ κ) Tryz.f66.ntmps (mask 66) F 3 b s=some (.exit id,s'):=by
 have:=(evSO_ok (noPS_ok _) _ _ _ _ _ _ h (by rw [hc]; rfl)).1
 rwa [evS_one] at this
theorem isAt_cellsB {L k i o:Nat}(b:Nat→UInt8) (hk:o+i < L):isAt (cellsB L b) (o+(i:Int).toNat * 1) (.u8 (b (o+i)))=true:=by
 have e:o+(i:Int).toNat * 1=o+i:=by simp
 rw [e]
 unfold isAt
 rw [cellsB_at b hk]
 exact eqS_u8 _
theorem ev16 (φ:Fr) (κ h:Nat→UInt64) (b:Nat→UInt8) (L o:Nat) (hL:o+128≤L):evS Tryz.prog (n16 φ κ) Tryz.f66.ntmps (mask 66) 200 3 p16 ⟨startT [.agg (cellsU 8 h),.slice 2 o 128 1] 0,[(2,.cells false (cellsB L b))],3⟩ =
  some (.ret,⟨UD h o 8++[(162,.bool false)],[(2,.cells false (cellsB L b)),(3,.cells false (cellsU 8 (pieceD φ κ h fun i=>b (o+i)))),(11,.cells false (cellsU 8 (pieceD φ κ h fun i=>b (o+i)))),(19,.cells false (cellsU 80 (W2D φ (W1 (fun i=>b (o+i)) 128) 64))),(83,.cells false (cellsU 80 κ)),(107,.cells false (cellsU 8 (X3D φ κ (W2D φ (W1 (fun i=>b (o+i)) 128) 64) h 80)))],187⟩):=by
 obtain ⟨w,hw⟩:∃ w,w=W2D φ (W1 (fun i=>b (o+i)) 128) 64:=⟨_,rfl⟩
 obtain ⟨x,hx⟩:∃ x,x=X3D φ κ w h 80:=⟨_,rfl⟩
 have hp:pieceD φ κ h (fun i=>b (o+i))=A4 h x 8:=by rw [hx,hw]; rfl
 rw [hp,← hw,← hx]
 have a1:=segO_ok (noPS_ok _) (s16a φ κ h b L o 200) rfl
 rw [List.drop_zero] at a1
 refine a1.trans ?_
 refine (evS_loop p16_3 (fun i=>SA16 b L h o (W1 (fun i=>b (o+i)) i) i) 128 (fun i hi => ?_) (end16 (x16A φ κ h (W1 (fun i=>b (o+i)) 128) b L o 128 200) (by decide)) (by omega)).trans ?_
 ·have hk:i / 8 < 80:=by omega
  have e:=putA_cellsU (W1 (fun i=>b (o+i)) i) (shlW (W1 (fun i=>b (o+i)) i (i / 8)) (b (o+i))) hk
  have r:=r16A φ κ h (W1 (fun i=>b (o+i)) i) (W1 (fun i=>b (o+i)) 0) b L o i (i+1) (i / 8) 200
  rw [e] at r
  refine roundO2_ok (noPS_ok _) r ?_ (ok16A h (W1 (fun i=>b (o+i)) (i+1)) b L o (i+1))
  have b1:Nat.ble (0+((i / 8:Nat):Int).toNat * 1+(cellsA (.u64 (shlW (W1 (fun i=>b (o+i)) i (i / 8)) (b (o+i))))).length) 80=true:=ble_i hk
  simp only [nat0,Bool.true_and,Bool.and_self,allT,plus1 (show i < 1000 by omega),cellsU_len,cellsB_len,b1,lt_i (k:=80) hk,lt_i (k:=128) hi,isAt_cellsU (W1 (fun i=>b (o+i)) i) hk,quo8 (show i < 1000 by omega),isAt_cellsB b (k:=0) (show o+i < L by omega),lt_i (k:=128) hi,cond_true]
 have a2:=segO_ok (noPS_ok _) (s16b φ κ h (W1 (fun i=>b (o+i)) 128) b L o 200) rfl
 refine a2.trans ?_
 refine (evS_loop p16_5 (fun i=>SB16 b L h o (W2D φ (W1 (fun i=>b (o+i)) 128) i) (i+16)) 64 (fun i hi => ?_) (end16 (x16B φ κ h (W2D φ (W1 (fun i=>b (o+i)) 128) 64) b L o (64+16) 200) (by decide)) (by omega)).trans ?_
 ·obtain ⟨w1,hw1⟩:∃ w1,w1=W1 (fun i=>b (o+i)) 128:=⟨_,rfl⟩
  rw [← hw1]
  have h1:i+1 < 80:=by omega
  have h14:i+14 < 80:=by omega
  have h0:i < 80:=by omega
  have h9:i+9 < 80:=by omega
  have h16:i+16 < 80:=by omega
  have e:=putA_cellsU (W2D φ w1 i) (schedD φ (W2D φ w1 i i) (W2D φ w1 i (i+1)) (W2D φ w1 i (i+9)) (W2D φ w1 i (i+14))) h16
  have r:=r16B φ κ h (W2D φ w1 i) (W2D φ w1 0) b L o (i+16) (i+1+16) (i+1) (i+14) i (i+9) 200
  rw [e] at r
  refine roundO2_ok (noPS_ok _) r ?_ (ok16B h (W2D φ w1 (i+1)) b L o (i+1+16))
  have q:eqS (.int .i64 (IntKind.wrap .i64 (((i+16:Nat):Int)+1))) (.int .i64 ((i+1+16:Nat):Int))=true:=by
   have:=plus1 (show i+16 < 1000 by omega)
   rwa [show i+1+16=i+16+1 by omega]
  have m7:eqS (.int .i64 (IntKind.wrap .i64 (((i+16:Nat):Int) - 7))) (.int .i64 ((i+9:Nat):Int))=true:=minus (d:=7) (by omega) (by omega)
  have m16:eqS (.int .i64 (IntKind.wrap .i64 (((i+16:Nat):Int) - 16))) (.int .i64 ((i:Nat):Int))=true:=minus (d:=16) (by omega) (by omega)
  have m2:eqS (.int .i64 (IntKind.wrap .i64 (((i+16:Nat):Int) - 2))) (.int .i64 ((i+14:Nat):Int))=true:=minus (d:=2) (by omega) (by omega)
  have m15:eqS (.int .i64 (IntKind.wrap .i64 (((i+16:Nat):Int) - 15))) (.int .i64 ((i+1:Nat):Int))=true:=minus (d:=15) (by omega) (by omega)
  have b1:Nat.ble (0+((i+16:Nat):Int).toNat * 1+(cellsA (.u64 (schedD φ (W2D φ w1 i i) (W2D φ w1 i (i+1)) (W2D φ w1 i (i+9)) (W2D φ w1 i (i+14))))).length) 80=true:=ble_i h16
  simp only [nat0,Bool.true_and,Bool.and_self,allT,q,m7,m16,m2,m15,cellsU_len,b1,lt_i (k:=80) h16,lt_i (k:=80) h1,lt_i (k:=80) h14,lt_i (k:=80) h0,lt_i (k:=80) h9,isAt_cellsU (W2D φ w1 i) h1,isAt_cellsU (W2D φ w1 i) h14,isAt_cellsU (W2D φ w1 i) h0,isAt_cellsU (W2D φ w1 i) h9,lt_i (k:=80) h16,cond_true]
 rw [← hw]
 have a3:=segO_ok (noPS_ok _) (s16c φ κ h w b L o 200) rfl
 refine a3.trans ?_
 refine (evS_loop p16_9 (fun i=>SC16 b L h o w κ (X3D φ κ w h i) i) 80 (fun i hi => ?_) (end16 (x16C φ κ h w (X3D φ κ w h 80) b L o 80 200) (by decide)) (by omega)).trans ?_
 ·have r:=r16C φ κ h w (X3D φ κ w h i) (X3D φ κ w h 0) b L o i (i+1) 200
  refine roundO2_ok (noPS_ok _) r ?_ (ok16C κ h w (X3D φ κ w h (i+1)) b L o (i+1))
  simp only [nat0,Bool.true_and,Bool.and_self,allT,plus1 (show i < 1000 by omega),lt_i (k:=80) hi,isAt_cellsU w hi,isAt_cellsU κ hi,lt_i (k:=80) hi,cond_true]
 rw [← hx]
 have a4:=segO_ok (noPS_ok _) (s16d φ κ h w x b L o 200) rfl
 refine a4.trans ?_
 refine (evS_loop p16_11 (fun i=>SD16 b L h o w κ x (A4 h x i) i) 8 (fun i hi => ?_) (end16 (x16D φ κ h (A4 h x 8) w x b L o 8 200) (by decide)) (by omega)).trans (z16 φ κ h (A4 h x 8) w x b L o 200)
 have e:=putA_cellsU (A4 h x i) (A4 h x i i+x i) hi
 have r:=r16D φ κ h (A4 h x i) (A4 h x 0) w x b L o i (i+1) 200
 rw [e] at r
 refine roundO2_ok (noPS_ok _) r ?_ (ok16D κ h (A4 h x (i+1)) w x b L o (i+1))
 have b1:Nat.ble (0+(i:Int).toNat * 1+(cellsA (.u64 (A4 h x i i+x i))).length) 8=true:=ble_i hi
 simp only [nat0,Bool.true_and,Bool.and_self,allT,plus1 (show i < 1000 by omega),cellsU_len,b1,lt_i (k:=8) hi,isAt_cellsU x hi,isAt_cellsU (A4 h x i) hi,lt_i (k:=8) hi,cond_true]
end Go.Proofs.YtcjkbimdmcfppaaGreatDoor.Sha
namespace Go.Proofs.YtcjkbimdmcfppaaGreatDoor.Sha
open Go Go.Eng
set_option maxRecDepth 1000000
def shAllB (c:List AVal):Bool:=match shB c.length c with
 | some []=>true
 | _=>false
theorem shAllB_ok {c:List AVal}(h:shAllB c=true):c=cellsB c.length (gB c):=by
 unfold shAllB at h
 split at h
 ·rename_i hs
  have:=shB_ok hs
  rwa [List.append_nil] at this
 ·cases h
def k16 (f:(Nat→UInt64)→(Nat→UInt8)→Nat→UInt64):List AVal→Option EffA
 | [.agg a,.slice m o n 1]=>match shU 8 a with
  | some []=>cond (Nat.beq n 128) (some (oneE m fun _ c=>cond (shAllB c && Nat.ble (o+128) c.length) (some (.agg (cellsU 8 (f (gU a) fun i=>gB c (o+i))),c)) none)) none
  | _=>none
 | _=>none
theorem f16_at:Tryz.prog.funcs[66]? = some Tryz.f66:=by kernel_rfl
theorem f16_body:Tryz.f66.body=some (bodyOf Tryz.f66):=by kernel_rfl
theorem ltS_U (n k:Nat) (f:Nat→UInt64):ltV k (.agg (cellsU n f))=true:=ltL_U ..
theorem callOk16 {φ:Fr}{κ:Nat→UInt64}(hcs:CSOk Tryz.prog (n16 φ κ)):CSOk Tryz.prog (csOne 66 (k16 (pieceD φ κ))):=by
 refine csOne_ok fun args e h => ?_
 have e1:Tryz.prog.globals.size=2:=gl
 unfold k16 at h
 split at h
 ·rename_i a m o n
  split at h
  ·rename_i ha
   cases hn:Nat.beq n 128 <;> rw [hn] at h <;> simp only [cond_true,cond_false] at h
   ·cases h
   ·cases h
    have hn:=Nat.eq_of_beq_eq_true hn
    subst hn
    have ea:=shU_ok ha
    rw [List.append_nil] at ea
    obtain ⟨h0,hh0⟩:∃ h0,h0=gU a:=⟨_,rfl⟩
    rw [← hh0] at ea ⊢
    clear hh0
    subst ea
    refine callOk_one0 (cargs:=[.agg (cellsU 8 h0),.slice 2 o 128 1]) hcs hmix (by rw [e1]; rfl) fun c v c' hk => ?_
    cases hc:(shAllB c && Nat.ble (o+128) c.length) <;> rw [hc] at hk <;> simp only [cond_true,cond_false] at hk
    ·cases hk
    ·simp only [Option.some.injEq,Prod.mk.injEq] at hk
     obtain ⟨rfl,rfl⟩:=hk
     rw [Bool.and_eq_true] at hc
     have ec:=shAllB_ok hc.1
     have hl:ltL 0 c=true:=by rw [ec]; exact ltL_B ..
     have r:=ev16 φ κ h0 (gB c) c.length o (Nat.le_of_ble_eq_true hc.2)
     rw [← ec] at r
     have r2:=run1_fin1 f16_at f16_body (by kernel_rfl) r (.inr rfl) (v:=.agg (cellsU 8 (pieceD φ κ h0 fun i=>gB c (o+i)))) rfl
     rw [e1]
     exact ⟨hl,hl,ltS_U ..,200,mask 66,_,_,r2,rfl⟩
  ·cases h
 ·cases h
end Go.Proofs.YtcjkbimdmcfppaaGreatDoor.Sha
namespace Go.Eng
open Go
theorem renS_plain {m n:Nat}{v:AVal}(h:ltS 0 v=true):renS m n v=some v:=by
 have h0:∀ n:Nat,Nat.ble (n+1) 0=false:=fun n=>rfl
 cases v <;> first | rfl | (simp only [ltS,h0] at h; done) | skip
 all_goals simp only [ltS,h0] at h
 all_goals first | cases h | skip
 all_goals (rename_i cs; cases cs <;> first | rfl | cases h)
theorem renL_plain {m n:Nat}:∀ {c:List AVal},ltL 0 c=true→renL m n c=some c
 | [],_=>rfl
 | v::c,h=>by
  simp only [ltL] at h
  cases hv:ltS 0 v <;> rw [hv] at h <;> simp only [cond_true,cond_false] at h
  ·cases h
  ·simp only [renL,renS_plain hv,renL_plain h]
def memD (k:Nat):List Nat→Bool
 | []=>false
 | m::l=>cond (Nat.beq k m) true (memD k l)
def renHx (dl:List Nat) (m n:Nat):HL→Option (HL × List Bool)
 | []=>some ([],[])
 | (k,.cells ro c)::l=>match renN m n k,renHx dl m n l with
  | some k',some (l',ob)=>cond (memD k dl) (some ((k',.cells ro c)::l',ltL 0 c::ob)) (match renL m n c with
   | some c'=>some ((k',.cells ro c')::l',ob)
   | none=>none)
  | _,_=>none
theorem renHx_ok {dl:List Nat}{m n:Nat}:∀ {H H':HL}{ob:List Bool},renHx dl m n H=some (H',ob)→allT ob=true→renH m n H=some H'
 | [],H',ob,h,_=>by cases h; rfl
 | (k,.cells ro c)::l,H',ob,h,ha=>by
  simp only [renHx] at h
  split at h
  ·rename_i k' l' ob' h1 h2
   cases hm:memD k dl <;> rw [hm] at h <;> simp only [cond_true,cond_false] at h
   ·split at h
    ·rename_i c' hc
     cases h
     simp only [renH,h1,hc,renHx_ok h2 ha]
    ·cases h
   ·cases h
    have:=allT_cons ha
    simp only [renH,h1,renL_plain this.1,renHx_ok h2 this.2]
  ·cases h
def ren1x (dl:List Nat) (P:Program) (bs m n:Nat) (s:SA):Option (SA × List Bool):=
 cond (Nat.ble bs m && Nat.ble bs n && Nat.ble P.globals.size bs && Nat.ble (n+1) s.fr && !(Nat.beq m n)) (match renT m n s.T,renHx dl m n (adel s.H n) with
  | some T,some (H,ob)=>some (⟨T,H,s.fr⟩,ob)
  | _,_=>none) none
theorem ren1x_ok {dl:List Nat}{P:Program}{bs m n:Nat}{s s':SA}{ob:List Bool}(h:ren1x dl P bs m n s=some (s',ob)) (ha:allT ob=true):ren1 P bs m n s=some s':=by
 unfold ren1x at h
 unfold ren1 ren0
 simp only at h ⊢
 cases hc:(Nat.ble bs m && Nat.ble bs n && Nat.ble P.globals.size bs && Nat.ble (n+1) s.fr && !(Nat.beq m n)) <;> rw [hc] at h <;> simp only [cond_true,cond_false] at h ⊢
 ·cases h
 ·split at h
  ·rename_i T H ob' h1 h2
   cases h
   simp only [h1,renHx_ok h2 ha]
  ·cases h
def renAllx (dl:List Nat) (P:Program) (bs:Nat):List (Nat × Nat)→SA→List Bool→Option (SA × List Bool)
 | [],s,ob=>some (s,ob)
 | (m,n)::l,s,ob=>match ren1x dl P bs m n s with
  | some (s',ob')=>renAllx dl P bs l s' (ob' ++ ob)
  | none=>none
theorem allT_append:∀ {a b:List Bool},allT (a++b)=true→allT a=true∧allT b=true
 | [],b,h=>⟨rfl,h⟩
 | x::a,b,h=>by
  have h1:=allT_cons (b:=x) (l:=a++b) h
  have h2:=allT_append h1.2
  refine ⟨?_,h2.2⟩
  simp only [allT,h1.1,h2.1,cond_true]
theorem renAllx_ok {dl:List Nat}{P:Program}{bs:Nat}:∀ {l:List (Nat × Nat)}{s s':SA}{ob ob':List Bool},renAllx dl P bs l s ob=some (s',ob')→allT ob'=true→renAll P bs l s=s'∧allT ob=true
 | [],s,s',ob,ob',h,ha=>by cases h; exact ⟨rfl,ha⟩
 | (m,n)::l,s,s',ob,ob',h,ha=>by
  simp only [renAllx] at h
  split at h
  ·rename_i s1 ob1 h1
   obtain ⟨e1,e2⟩:=renAllx_ok h ha
   have e3:=allT_append e2
   refine ⟨?_,e3.2⟩
   simp only [renAll,ren1x_ok h1 e3.1]
   exact e1
  ·cases h
noncomputable def roundO3 (dl:List Nat) (P:Program) (ps:PS) (cs:CS) (sy:List Nat) (os:List Bool) (vs:List AVal) (nt nn F bs:Nat) (b:Code) (s0 s:SA):Option (SA × List Bool):=
 match evT P ps cs sy nt nn F bs b s ⟨os,vs,[]⟩ with
 | some (.normal,s',q)=>match renAllx dl P bs (pairsT s0.fr 0 s0.T s'.T) s' q.ob with
  | some (r,ob)=>some (⟨reshape s0.T r.T,reshapeH s0.H r.H++extraH s0.H s0.fr r.H,s0.fr⟩,ob)
  | none=>none
 | _=>none
theorem roundO3_ok {dl:List Nat}{P:Program}{ps:PS}{cs:CS}(hps:PSOk ps cs){sy:List Nat}{os:List Bool}{vs:List AVal}{nt nn F bs:Nat}{b:Code}{s0 s s1:SA}{ob:List Bool}(h:roundO3 dl P ps cs sy os vs nt nn F bs b s0 s=some (s1,ob)) (ha:allT ob=true) (ho:okS P s1=true) :
  roundA (evC P cs nt nn F bs b) (headA P bs s0) s=some s1:=by
 unfold roundO3 at h
 split at h
 ·rename_i s' q hev
  split at h
  ·rename_i r ob' hr
   simp only [Option.some.injEq,Prod.mk.injEq] at h
   obtain ⟨h1,rfl⟩:=h
   obtain ⟨e1,e2⟩:=renAllx_ok hr ha
   have hh:headS P bs s0 s'=s1:=by
    unfold headS
    simp only
    rw [e1]
    exact h1
   simp only [roundA,(evT_ok hps b _ _ _ _ _ hev e2).1,headS_eq hh ho]
  ·cases h
 ·cases h
end Go.Eng
namespace Go.Proofs.YtcjkbimdmcfppaaGreatDoor.Sha
open Go Go.Eng
set_option maxRecDepth 1000000
abbrev PieceF:=(Nat→UInt64)→(Nat→UInt8)→Nat→UInt64
def n9 (P:PieceF) (η:Nat→UInt64):CS:=csAlt (csOne 65 (d11 η)) (csOne 66 (k16 P))
noncomputable def p9:List Code:=pieces (bodyOf Tryz.f26)
noncomputable def b9 (k:Nat):Code:=loopOf (p9.getD k .skip)
def apC (c:List UInt8) (x:UInt8):List AVal:=List.take (c.length * 1) (List.drop 0 (c.map .u8))++[.u8 x]
def apOb (c:List UInt8):Bool:=true && (((Nat.ble ((c.length+1) * 1) 140737488355328 && Nat.ble (c.length+1) 140737488355328) && true) && Nat.ble (0+c.length * 1) (c.map AVal.u8).length)
theorem apC_eq (c:List UInt8) (x:UInt8):apC c x=(c++[x]).map .u8:=by
 unfold apC
 rw [List.drop_zero,Nat.mul_one,List.map_append,List.take_of_length_le (by simp)]; rfl
theorem apOb_ok {c:List UInt8}(h:c.length < 1000000000):apOb c=true:=by
 unfold apOb
 have h1:Nat.ble ((c.length+1) * 1) 140737488355328=true:=Nat.ble_eq_true_of_le (by omega)
 have h2:Nat.ble (c.length+1) 140737488355328=true:=Nat.ble_eq_true_of_le (by omega)
 have h3:Nat.ble (0+c.length * 1) (c.map AVal.u8).length=true:=Nat.ble_eq_true_of_le (by rw [List.length_map]; omega)
 rw [h1,h2,h3]; rfl
theorem ltLm (k:Nat) (c:List UInt8):ltL k (c.map AVal.u8)=true:=ltL_u8 ..
def TA9 (l:List UInt8) (n:Nat):TL:=[(0,.str l),(2,.str []),(3,.slice 34 0 n 1)]
def HA9 (C:List AVal):HL:=[(26,.cells false [.u8 128]),(34,.cells false C)]
def TB9 (l:List UInt8) (n:Nat) (z:Int):TL:=TA9 l n++[(17,.bool false),(4,.int .i64 z)]
def TC9 (l:List UInt8) (n:Nat) (z:Int) (i:Nat):TL:=TB9 l n z++[(22,.bool false),(6,.ptr 114 0),(7,.int .i64 (i:Int))]
def HC9 (C:List AVal) (h:Nat→UInt64):HL:=HA9 C++[(114,.cells false (cellsU 8 h))]
def TD9 (l:List UInt8) (n:Nat) (z:Int) (m:Nat) (s:AVal) (i:Nat):TL:=TC9 l n z m++[(44,.bool false),(8,s),(9,.int .i64 (i:Int))]
def SA9 (l:List UInt8) (n:Nat) (C:List AVal):SA:=⟨TA9 l n,HA9 C,50⟩
def SB9 (l:List UInt8) (n:Nat) (C:List AVal) (z:Int):SA:=⟨TB9 l n z,HA9 C,90⟩
def SC9 (l:List UInt8) (n:Nat) (C:List AVal) (z:Int) (h:Nat→UInt64) (i:Nat):SA:=⟨TC9 l n z i,HC9 C h,138⟩
def SD9 (l:List UInt8) (n:Nat) (C:List AVal) (z:Int) (h:Nat→UInt64) (m k:Nat) (D:List AVal) (i:Nat):SA:=⟨TD9 l n z m (.slice 185 0 k 1) i,HC9 C h++[(185,.cells false D)],186⟩
def SD90 (l:List UInt8) (n:Nat) (C:List AVal) (z:Int) (h:Nat→UInt64) (m:Nat):SA:=⟨TD9 l n z m .nilSlice 0,HC9 C h,186⟩
theorem p9_2:p9[2]? = some (.block 0 (.loop (b9 2))):=by kernel_rfl
theorem p9_4:p9[4]? = some (.block 2 (.loop (b9 4))):=by kernel_rfl
theorem p9_7:p9[7]? = some (.block 4 (.loop (b9 7))):=by kernel_rfl
theorem p9_10:p9[10]? = some (.block 6 (.loop (b9 10))):=by kernel_rfl
def eff9 (P:PieceF) (h:Nat→UInt64) (i:Nat):EffA:=oneE 34 fun _ c=>cond (shAllB c && Nat.ble (i+128) c.length) (some (.agg (cellsU 8 (P (gU (cellsU 8 h)) fun k=>gB c (i+k))),c)) none
section
variable (P:PieceF) (η h h1:Nat→UInt64) (l c c0 d:List UInt8) (n n0 m i j p F:Nat) (y:UInt64) (z z0 z1:Int)
theorem s9a:segO (evSO Tryz.prog noPS (n9 P η) [13] Tryz.f26.ntmps (mask 26) F 2 ((p9.drop 0).take 2) (⟨startT [.str l] 0,[],2⟩) ⟨[],[],[]⟩)=some (SA9 l (l.length+1) (apC l 128),[apOb l]):=by kernel_rfl
theorem r9A:roundO3 [34,98,106] Tryz.prog noPS (n9 P η) [17,20] [true] [] Tryz.f26.ntmps (mask 26) F 2 (b9 2) (SA9 l n0 (c0.map .u8)) (SA9 l c.length (c.map .u8))=some (SA9 l (c.length+1) (apC c 0),[ltL 0 (apC c 0),apOb c,(Int.tmod (c.length:Int) 128) != 112]):=by kernel_rfl
theorem x9A:evSO Tryz.prog noPS (n9 P η) [17] Tryz.f26.ntmps (mask 26) F 2 [b9 2] (SA9 l c.length (c.map .u8)) ⟨[false],[],[]⟩=some (.exit 0,⟨TA9 l c.length++[(17,.bool false)],HA9 (c.map .u8),82⟩,⟨[],[],[!((Int.tmod (c.length:Int) 128) != 112)]⟩):=by kernel_rfl
theorem s9b:segO (evSO Tryz.prog noPS (n9 P η) [] Tryz.f26.ntmps (mask 26) F 2 ((p9.drop 3).take 1) (⟨TA9 l n++[(17,.bool false)],HA9 (c.map .u8),82⟩) ⟨[],[],[]⟩)=some (SB9 l n (c.map .u8) 15,[]):=by kernel_rfl
theorem r9B1:roundO3 [34,154,162,226,234] Tryz.prog noPS (n9 P η) [22,26,200034,39,200024] [true,true] [.u64 y,.int .i64 z1] Tryz.f26.ntmps (mask 26) F 2 (b9 4) (SB9 l n0 (c0.map .u8) z0) (SB9 l c.length (c.map .u8) z)=some (SB9 l (c.length+1) (apC c y.toUInt8) z1,[true,ltL 0 (apC c y.toUInt8),eqS (.int .i64 (IntKind.wrap .i64 (z - 1))) (.int .i64 z1),apOb c,eqS (.u64 (shr_u64 (8 * UInt64.ofInt (l.length:Int)) (UInt64.ofInt (IntKind.wrap .i64 (8 * z))).toNat)) (.u64 y),decide (z < 8),decide (0≤z)]):=by kernel_rfl
theorem r9B2:roundO3 [34,154,162,226,234] Tryz.prog noPS (n9 P η) [22,26,39,200024] [true,false] [.int .i64 z1] Tryz.f26.ntmps (mask 26) F 2 (b9 4) (SB9 l n0 (c0.map .u8) z0) (SB9 l c.length (c.map .u8) z)=some (SB9 l (c.length+1) (apC c 0) z1,[true,ltL 0 (apC c 0),eqS (.int .i64 (IntKind.wrap .i64 (z - 1))) (.int .i64 z1),apOb c,!(decide (z < 8)),decide (0≤z)]):=by kernel_rfl
theorem x9B:evSO Tryz.prog noPS (n9 P η) [22] Tryz.f26.ntmps (mask 26) F 2 [b9 4] (SB9 l c.length (c.map .u8) z) ⟨[false],[],[]⟩=some (.exit 2,⟨TB9 l c.length z++[(22,.bool false)],HA9 (c.map .u8),106⟩,⟨[],[],[!(decide (0≤z))]⟩):=by kernel_rfl
theorem s9c:segO (evSO Tryz.prog noPS (n9 P η) [] Tryz.f26.ntmps (mask 26) F 2 ((p9.drop 5).take 2) (⟨TB9 l n z++[(22,.bool false)],HA9 (c.map .u8),106⟩) ⟨[],[],[]⟩)=some (SC9 l n (c.map .u8) z η 0,[]):=by kernel_rfl
theorem r9C:roundO3 [34] Tryz.prog noPS (n9 P η) [44,52,200052,300053,200046] [true] [.slice 34 i 128 1,.agg (cellsU 8 h1),.tup [.ptr 34 0,.agg (c.map .u8)],.int .i64 ((j:Nat):Int)] Tryz.f26.ntmps (mask 26) F 2 (b9 7) (SC9 l c.length (c.map .u8) z η 0) (SC9 l c.length (c.map .u8) z h i)=some (SC9 l c.length (c.map .u8) z h1 j,[eqS (.int .i64 (IntKind.wrap .i64 ((i:Int)+128))) (.int .i64 (j:Int)),decP ((eff9 P h i).app 218 (HC9 (c.map .u8) h)=some (.agg (cellsU 8 h1),HC9 (c.map .u8) h)),eqS (.slice 34 (0+(i:Int).toNat * 1) ((IntKind.wrap .i64 ((i:Int)+128)).toNat - (i:Int).toNat) 1) (.slice 34 i 128 1),decide (0≤(i:Int)) && (decide ((i:Int)≤IntKind.wrap .i64 ((i:Int)+128)) && decide (IntKind.wrap .i64 ((i:Int)+128)≤(c.length:Int))),decide ((i:Int) < (c.length:Int))]):=by kernel_rfl
theorem x9C:evSO Tryz.prog noPS (n9 P η) [44] Tryz.f26.ntmps (mask 26) F 2 [b9 7] (SC9 l c.length (c.map .u8) z h i) ⟨[false],[],[]⟩=some (.exit 4,⟨TC9 l c.length z i++[(44,.bool false)],HC9 (c.map .u8) h,170⟩,⟨[],[],[!(decide ((i:Int) < (c.length:Int)))]⟩):=by kernel_rfl
theorem s9d:segO (evSO Tryz.prog noPS (n9 P η) [] Tryz.f26.ntmps (mask 26) F 2 ((p9.drop 8).take 2) (⟨TC9 l n z i++[(44,.bool false)],HC9 (c.map .u8) h,170⟩) ⟨[],[],[]⟩)=some (SD90 l n (c.map .u8) z h i,[]):=by kernel_rfl
theorem r9D0:roundO3 [34,185,186,194,202,210,218,226,234,242,250,258,266,274,282,290,298,306,314,322,330,338,346,354,362,370,378,386,394,402,410,418] Tryz.prog noPS (n9 P η) [55,200060,61,62,200067,71,200057] [true,false] [.int .i64 (p:Int),.u64 (h p),.u64 y,.int .i64 (j:Int)] Tryz.f26.ntmps (mask 26) F 2 (b9 10) (SD90 l n (c.map .u8) z h m) (SD90 l n (c.map .u8) z h m)=some (SD9 l n (c.map .u8) z h m 1 [.u8 (shr_u64 (h p) y.toNat).toUInt8] j,[ltL 0 (c.map .u8),true,true,eqS (.int .i64 (IntKind.wrap .i64 ((((0:Nat):Int):Int)+1))) (.int .i64 (j:Int)),true,eqS (.u64 (UInt64.ofInt (IntKind.wrap .i64 (56 - IntKind.wrap .i64 (8 * Int.tmod ((0:Nat):Int) 8))))) (.u64 y),isAt (cellsU 8 h) (0+(p:Int).toNat * 1) (.u64 (h p)),decide (0≤(p:Int)) && decide ((p:Int) < 8),eqS (.int .i64 (IntKind.wrap .i64 (Int.tdiv ((0:Nat):Int) 8))) (.int .i64 (p:Int)),true]):=by kernel_rfl
theorem r9D:roundO3 [34,185,186,194,202,210,218,226,234,242,250,258,266,274,282,290,298,306,314,322,330,338,346,354,362,370,378,386,394,402,410,418] Tryz.prog noPS (n9 P η) [55,200060,61,62,200067,71,200057] [true] [.int .i64 (p:Int),.u64 (h p),.u64 y,.int .i64 (j:Int)] Tryz.f26.ntmps (mask 26) F 2 (b9 10) (SD90 l n (c.map .u8) z h m) (SD9 l n (c.map .u8) z h m d.length (d.map .u8) i)=some (SD9 l n (c.map .u8) z h m (d.length+1) (apC d (shr_u64 (h p) y.toNat).toUInt8) j,[ltL 0 (c.map .u8),true,ltL 0 (apC d (shr_u64 (h p) y.toNat).toUInt8),eqS (.int .i64 (IntKind.wrap .i64 ((i:Int)+1))) (.int .i64 (j:Int)),apOb d,eqS (.u64 (UInt64.ofInt (IntKind.wrap .i64 (56 - IntKind.wrap .i64 (8 * Int.tmod (i:Int) 8))))) (.u64 y),isAt (cellsU 8 h) (0+(p:Int).toNat * 1) (.u64 (h p)),decide (0≤(p:Int)) && decide ((p:Int) < 8),eqS (.int .i64 (IntKind.wrap .i64 (Int.tdiv (i:Int) 8))) (.int .i64 (p:Int)),decide ((i:Int) < 64)]):=by kernel_rfl
theorem x9D:evSO Tryz.prog noPS (n9 P η) [55] Tryz.f26.ntmps (mask 26) F 2 [b9 10] (SD9 l n (c.map .u8) z h m d.length (d.map .u8) i) ⟨[false],[],[]⟩=some (.exit 6,⟨TD9 l n z m (.slice 185 0 d.length 1) i++[(55,.bool false)],HC9 (c.map .u8) h++[(185,.cells false (d.map .u8))],202⟩,⟨[],[],[!(decide ((i:Int) < 64))]⟩):=by kernel_rfl
theorem z9:evSO Tryz.prog noPS (n9 P η) [73] Tryz.f26.ntmps (mask 26) F 2 (p9.drop 11) ⟨TD9 l n z m (.slice 185 0 d.length 1) i++[(55,.bool false)],HC9 (c.map .u8) h++[(185,.cells false (d.map .u8))],202⟩ ⟨[],[.str d],[]⟩=some (.ret,⟨(0,.str l)::(2,.str d)::List.drop 2 (TD9 l n z m (.slice 185 0 d.length 1) i++[(55,AVal.bool false)]),HC9 (c.map .u8) h++[(185,.cells false (d.map .u8))],226⟩,⟨[],[],[strAt (d.map .u8) 0 d.length d]⟩):=by kernel_rfl
end
end Go.Proofs.YtcjkbimdmcfppaaGreatDoor.Sha
namespace Go.Proofs.YtcjkbimdmcfppaaGreatDoor.Sha
open Go Go.Eng
set_option maxRecDepth 1000000
def exL (c:List UInt8) (f:Nat→UInt8) (i:Nat):List UInt8:=c++(List.range i).map f
theorem exL_succ (c:List UInt8) (f:Nat→UInt8) (i:Nat):exL c f (i+1)=exL c f i++[f i]:=by
 unfold exL
 rw [List.range_succ,List.map_append,List.append_assoc]; rfl
theorem exL_len (c:List UInt8) (f:Nat→UInt8) (i:Nat):(exL c f i).length=c.length+i:=by simp [exL]
theorem exL_zero (c:List UInt8) (f:Nat→UInt8):exL c f 0=c:=by simp [exL]
def padN (n:Nat):Nat:=(239 - n % 128) % 128
def tailB (x:UInt64) (i:Nat):UInt8:=if i < 8 then 0 else lenB x (i - 8)
def padL (l:List UInt8):List UInt8:=exL (exL (l++[128]) (fun _=>0) (padN l.length)) (tailB (UInt64.ofNat l.length)) 16
def foldD (P:PieceF) (η:Nat→UInt64) (c:List UInt8):Nat→Nat→UInt64
 | 0=>η
 | k+1=>P (nU 8 (foldD P η c k)) fun j=>gB (c.map .u8) (128 * k+j)
def docF (P:PieceF) (η:Nat→UInt64) (l:List UInt8):List UInt8:=(List.range 64).map (outB (foldD P η (padL l) ((padL l).length / 128)))
theorem end9 {P:PieceF}{η:Nat→UInt64}{sy:List Nat}{F:Nat}{b:Code}{s s':SA}{id:Nat}{c:Bool}(h:evSO Tryz.prog noPS (n9 P η) sy Tryz.f26.ntmps (mask 26) F 2 [b] s ⟨[false],[],[]⟩=some (.exit id,s',⟨[],[],[!c]⟩)) (hc:c=false):evC Tryz.prog (n9 P η) Tryz.f26.ntmps (mask 26) F 2 b s=some (.exit id,s'):=by
 have:=(evSO_ok (noPS_ok _) _ _ _ _ _ _ h (by rw [hc]; rfl)).1
 rwa [evS_one] at this
theorem okA9 (l c:List UInt8) (n:Nat):okS Tryz.prog (SA9 l n (c.map .u8))=true:=by
 have h:okS Tryz.prog (SA9 l n [])=true:=by kernel_rfl
 unfold okS SA9 HA9 at h ⊢
 simp only [ltH,ltLm,ltL] at h ⊢
 exact h
theorem okB9 (l c:List UInt8) (n:Nat) (z:Int):okS Tryz.prog (SB9 l n (c.map .u8) z)=true:=by
 have h:okS Tryz.prog (SB9 l n [] z)=true:=by kernel_rfl
 unfold okS SB9 HA9 at h ⊢
 simp only [ltH,ltLm,ltL] at h ⊢
 exact h
theorem okC9 (l c:List UInt8) (n:Nat) (z:Int) (h:Nat→UInt64) (i:Nat):okS Tryz.prog (SC9 l n (c.map .u8) z h i)=true:=by
 have h:okS Tryz.prog (SC9 l n [] z h i)=true:=by kernel_rfl
 unfold okS SC9 HC9 HA9 at h ⊢
 simp only [List.cons_append,List.nil_append,ltH,ltLm,ltL] at h ⊢
 exact h
theorem okD9 (l c d:List UInt8) (n:Nat) (z:Int) (h:Nat→UInt64) (m k i:Nat):okS Tryz.prog (SD9 l n (c.map .u8) z h m k (d.map .u8) i)=true:=by
 have h:okS Tryz.prog (SD9 l n [] z h m k [] i)=true:=by kernel_rfl
 unfold okS SD9 HC9 HA9 at h ⊢
 simp only [List.cons_append,List.nil_append,ltH,ltLm,ltL] at h ⊢
 exact h
theorem padN_lt (n:Nat):padN n < 128:=Nat.mod_lt _ (by decide)
theorem padL_len (l:List UInt8):(padL l).length=l.length+17+padN l.length:=by
 unfold padL
 rw [exL_len,exL_len,List.length_append,List.length_singleton]; omega
theorem padL_mod (l:List UInt8):(padL l).length % 128=0:=by
 rw [padL_len]; unfold padN; omega
theorem condA9 {n m i:Nat}(hm:m=n+1+i) (hi:i≤padN n):((Int.tmod (m:Int) 128) != 112)=decide (i < padN n):=by
 have e:Int.tmod (m:Int) 128=((m % 128:Nat):Int):=rfl
 rw [e]
 subst hm
 unfold padN at hi ⊢
 by_cases h:i < (239 - n % 128) % 128
 ·rw [decide_eq_true h]
  simp only [bne_iff_ne,ne_eq]
  omega
 ·rw [decide_eq_false h]
  simp only [bne_eq_false_iff_eq]
  omega
theorem min1 {i:Nat}(h:i < 1000):eqS (.int .i64 (IntKind.wrap .i64 (15 - (i:Int) - 1))) (.int .i64 (15 - ((i+1:Nat):Int)))=true:=eqS_i64 (by rw [wrapI _ (by omega) (by omega)]; omega)
theorem ofInt_nat (n:Nat):UInt64.ofInt (n:Int)=UInt64.ofNat n:=by
 unfold UInt64.ofInt
 apply UInt64.toNat_inj.1
 rw [UInt64.toNat_ofNat',UInt64.toNat_ofNat']
 omega
theorem shB9:∀ i:Nat,i < 16→8≤i→UInt64.ofInt (IntKind.wrap .i64 (8 * (15 - (i:Int))))=UInt64.ofNat (56 - 8 * (i - 8)):=by decide
theorem gB_map (c:List UInt8) (i:Nat):gB (c.map .u8) i=c.getD i 0:=by
 unfold gB
 rw [List.getElem?_map,List.getD_eq_getElem?_getD]
 cases c[i]? <;> rfl
theorem shAllB_map (c:List UInt8):shAllB (c.map AVal.u8)=true:=by
 have:∀ (l:List UInt8),shB (l.map AVal.u8).length (l.map AVal.u8)=some []:=by
  intro l
  induction l with
  | nil=>rfl
  | cons x l ih=>simp only [List.map_cons,List.length_cons,shB]; exact ih
 unfold shAllB
 rw [this]
theorem ev9 (P:PieceF) (η:Nat→UInt64) (l:List UInt8) (hl:l.length≤100000000):∃ T' H' fr',evS Tryz.prog (n9 P η) Tryz.f26.ntmps (mask 26) (l.length+300) 2 p9 ⟨startT [.str l] 0,[],2⟩ =
  some (.ret,⟨(0,.str l)::(2,.str (docF P η l))::T',H',fr'⟩):=by
 obtain ⟨F,hF⟩:∃ F,F=l.length+300:=⟨_,rfl⟩
 rw [← hF]
 obtain ⟨c0,hc0⟩:∃ c0,c0=l++[128]:=⟨_,rfl⟩
 have lc0:c0.length=l.length+1:=by rw [hc0]; simp
 obtain ⟨N,hN⟩:∃ N,N=padN l.length:=⟨_,rfl⟩
 have hN128:N < 128:=by rw [hN]; exact padN_lt _
 have lA:∀ i,(exL c0 (fun _=>0) i).length=l.length+1+i:=fun i=>by rw [exL_len,lc0]
 -- the bytes,and the mark
 have a1:=segO_ok (noPS_ok _) (s9a P η l F) (by simp only [allT,apOb_ok (show l.length < 1000000000 by omega),cond_true])
 rw [List.drop_zero,apC_eq,← hc0,← lc0] at a1
 -- the zeros
 have lpA:=evS_loop (P:=Tryz.prog) (cs:=n9 P η) (nt:=Tryz.f26.ntmps) (nn:=mask 26) (F:=F) (bs:=2) p9_2 (fun i=>SA9 l (exL c0 (fun _=>0) i).length ((exL c0 (fun _=>0) i).map .u8)) N (fun i hi=>by
  have r:=r9A P η l (exL c0 (fun _=>0) i) (exL c0 (fun _=>0) 0) (exL c0 (fun _=>0) 0).length F
  have e1:(exL c0 (fun _=>0) i).length+1=(exL c0 (fun _=>0) (i+1)).length:=by rw [lA,lA]; omega
  rw [apC_eq,← exL_succ c0 (fun _=>(0:UInt8)) i,e1] at r
  refine roundO3_ok (noPS_ok _) r ?_ (okA9 ..)
  have hc:=condA9 (lA i) (by omega:i≤padN l.length)
  rw [decide_eq_true (by omega:i < padN l.length)] at hc
  simp only [allT,ltLm,apOb_ok (show (exL c0 (fun _=>0) i).length < 1000000000 by rw [lA]; omega),hc,cond_true])
  (end9 (x9A P η l (exL c0 (fun _=>0) N) F) (by rw [condA9 (lA N) (by omega)]; exact decide_eq_false (by omega))) (by omega)
 simp only [exL_zero] at lpA
 obtain ⟨c1,hc1⟩:∃ c1,c1=exL c0 (fun _=>0) N:=⟨_,rfl⟩
 rw [← hc1] at lpA
 have lc1:c1.length=l.length+1+N:=by rw [hc1,lA]
 have a2:=segO_ok (noPS_ok _) (s9b P η l c1 c1.length F) rfl
 -- the length
 obtain ⟨t,ht⟩:∃ t,t=tailB (UInt64.ofNat l.length):=⟨_,rfl⟩
 have lB:∀ i,(exL c1 t i).length=l.length+1+N+i:=fun i=>by rw [exL_len,lc1]
 have lpB:=evS_loop (P:=Tryz.prog) (cs:=n9 P η) (nt:=Tryz.f26.ntmps) (nn:=mask 26) (F:=F) (bs:=2) p9_4 (fun i=>SB9 l (exL c1 t i).length ((exL c1 t i).map .u8) (15 - (i:Int))) 16 (fun i hi=>by
  have e1:(exL c1 t i).length+1=(exL c1 t (i+1)).length:=by rw [lB,lB]; omega
  have hob:=apOb_ok (show (exL c1 t i).length < 1000000000 by rw [lB]; omega)
  have g0:decide (0≤(15 - (i:Int)))=true:=decide_eq_true (by omega)
  by_cases h8:i < 8
  ·have r:=r9B2 P η l (exL c1 t i) (exL c1 t 0) (exL c1 t 0).length F (15 - (i:Int)) (15 - ((0:Nat):Int)) (15 - ((i+1:Nat):Int))
   have ex:t i=0:=by rw [ht]; unfold tailB; rw [if_pos h8]
   rw [apC_eq,← ex,← exL_succ c1 t i,e1] at r
   refine roundO3_ok (noPS_ok _) r ?_ (okB9 ..)
   have g8:decide (15 - (i:Int) < 8)=false:=decide_eq_false (by omega)
   simp only [allT,ltLm,min1 (show i < 1000 by omega),hob,g8,g0,Bool.not_false,cond_true]
  ·have r:=r9B1 P η l (exL c1 t i) (exL c1 t 0) (exL c1 t 0).length F (shr_u64 (8 * UInt64.ofInt (l.length:Int)) (UInt64.ofInt (IntKind.wrap .i64 (8 * (15 - (i:Int))))).toNat) (15 - (i:Int)) (15 - ((0:Nat):Int)) (15 - ((i+1:Nat):Int))
   have ex:(shr_u64 (8 * UInt64.ofInt (l.length:Int)) (UInt64.ofInt (IntKind.wrap .i64 (8 * (15 - (i:Int))))).toNat).toUInt8=t i:=by
    rw [ht]; unfold tailB; rw [if_neg h8,ofInt_nat,shB9 i hi (by omega)]; rfl
   rw [apC_eq,ex,← exL_succ c1 t i,e1] at r
   refine roundO3_ok (noPS_ok _) r ?_ (okB9 ..)
   have g8:decide (15 - (i:Int) < 8)=true:=decide_eq_true (by omega)
   simp only [allT,ltLm,min1 (show i < 1000 by omega),hob,g8,g0,eqS_u64,cond_true])
  (end9 (x9B P η l (exL c1 t 16) F (15 - ((16:Nat):Int))) (by decide)) (by omega)
 simp only [exL_zero] at lpB
 obtain ⟨c,hc⟩:∃ c,c=exL c1 t 16:=⟨_,rfl⟩
 rw [← hc] at lpB
 have hpad:c=padL l:=by rw [hc,hc1,hc0,ht,hN]; rfl
 have hmod:c.length % 128=0:=by rw [hpad]; exact padL_mod l
 have hlen:c.length=l.length+17+N:=by rw [hpad,padL_len,hN]
 obtain ⟨z,hz⟩:∃ z:Int,z=15 - ((16:Nat):Int):=⟨_,rfl⟩
 rw [← hz] at lpB
 have a3:=segO_ok (noPS_ok _) (s9c P η l c c.length F z) rfl
 -- the pieces
 obtain ⟨K,hK⟩:∃ K,K=c.length / 128:=⟨_,rfl⟩
 have lpC:=evS_loop (P:=Tryz.prog) (cs:=n9 P η) (nt:=Tryz.f26.ntmps) (nn:=mask 26) (F:=F) (bs:=2) p9_7 (fun k=>SC9 l c.length (c.map .u8) z (foldD P η c k) (128 * k)) K (fun k hk=>by
  have r:=r9C P η (foldD P η c k) (foldD P η c (k+1)) l c (128 * k) (128 * (k+1)) F z
  refine roundO3_ok (noPS_ok _) r ?_ (okC9 ..)
  have hb:128 * k+128≤c.length:=by omega
  have w1:IntKind.wrap .i64 (((128 * k:Nat):Int)+128)=((128 * k+128:Nat):Int):=by rw [wrapI _ (by omega) (by omega)]; omega
  have o1:eqS (.int .i64 (IntKind.wrap .i64 (((128 * k:Nat):Int)+128))) (.int .i64 ((128 * (k+1):Nat):Int))=true:=eqS_i64 (by rw [w1]; omega)
  have o2:decP ((eff9 P (foldD P η c k) (128 * k)).app 218 (HC9 (c.map .u8) (foldD P η c k))=some (.agg (cellsU 8 (foldD P η c (k+1))),HC9 (c.map .u8) (foldD P η c k)))=true:=by
   apply decP_of
   have g1:(shAllB (c.map AVal.u8) && Nat.ble (128 * k+128) (c.map AVal.u8).length)=true:=by
    rw [shAllB_map,List.length_map,Bool.true_and]; exact Nat.ble_eq_true_of_le hb
   have g2:aget (HC9 (c.map .u8) (foldD P η c k)) 34=some (.cells false (c.map .u8)):=rfl
   unfold eff9 oneE EffA.app
   simp only [g2,g1,cond_true]
   rw [gU_cellsU]
   rfl
  have o3:eqS (.slice 34 (0+((128 * k:Nat):Int).toNat * 1) ((IntKind.wrap .i64 (((128 * k:Nat):Int)+128)).toNat - ((128 * k:Nat):Int).toNat) 1) (.slice 34 (128 * k) 128 1)=true:=by
   rw [w1,Int.toNat_natCast,Int.toNat_natCast]
   have e1:0+128 * k * 1=128 * k:=by omega
   have e2:128 * k+128 - 128 * k=128:=by omega
   rw [e1,e2]
   simp [eqS]
  have o4:(decide (0≤((128 * k:Nat):Int)) && (decide (((128 * k:Nat):Int)≤IntKind.wrap .i64 (((128 * k:Nat):Int)+128)) && decide (IntKind.wrap .i64 (((128 * k:Nat):Int)+128)≤(c.length:Int))))=true:=by
   rw [w1]
   simp only [Bool.and_eq_true,decide_eq_true_eq]
   omega
  have o5:decide (((128 * k:Nat):Int) < (c.length:Int))=true:=decide_eq_true (by omega)
  simp only [allT,o1,o2,o3,o4,o5,cond_true])
  (end9 (x9C P η (foldD P η c K) l c (128 * K) F z) (decide_eq_false (by omega))) (by omega)
 have a4:=segO_ok (noPS_ok _) (s9d P η (foldD P η c K) l c c.length (128 * K) F z) rfl
 -- the digest's bytes
 obtain ⟨h,hh⟩:∃ h,h=foldD P η c K:=⟨_,rfl⟩
 rw [← hh] at lpC a4
 have lD:∀ i,(exL [] (outB h) i).length=i:=fun i=>by rw [exL_len]; simp
 have lpD:=evS_loop (P:=Tryz.prog) (cs:=n9 P η) (nt:=Tryz.f26.ntmps) (nn:=mask 26) (F:=F) (bs:=2) p9_10 (fun i=>match i with
   | 0=>SD90 l c.length (c.map .u8) z h (128 * K)
   | k+1=>SD9 l c.length (c.map .u8) z h (128 * K) (exL [] (outB h) (k+1)).length ((exL [] (outB h) (k+1)).map .u8) (k+1)) 64 (fun i hi=>by
  cases i with
  | zero =>
   have r:=r9D0 P η h l c c.length (128 * K) 1 0 F (UInt64.ofNat (56 - 0 % 8 * 8)) z
   refine roundO3_ok (noPS_ok _) r ?_ (okD9 (d:=exL [] (outB h) 1) ..)
   simp only [allT,ltLm,cond_true]
   have q1:isAt (cellsU 8 h) (0+((0:Nat):Int).toNat * 1) (.u64 (h 0))=true:=isAt_cellsU h (by omega)
   rw [q1]
   decide
  | succ k =>
   have hp:(k+1) / 8 < 8:=by omega
   have r:=r9D P η h l c (exL [] (outB h) (k+1)) c.length (128 * K) (k+1) (k+1+1) ((k+1) / 8) F (UInt64.ofNat (56 - (k+1) % 8 * 8)) z
   have e1:(exL [] (outB h) (k+1)).length+1=(exL [] (outB h) (k+1+1)).length:=by rw [lD,lD]
   have ex:(shr_u64 (h ((k+1) / 8)) (UInt64.ofNat (56 - (k+1) % 8 * 8)).toNat).toUInt8=outB h (k+1):=rfl
   rw [apC_eq,ex,← exL_succ [] (outB h) (k+1),e1] at r
   refine roundO3_ok (noPS_ok _) r ?_ (okD9 ..)
   have s1:eqS (.u64 (UInt64.ofInt (IntKind.wrap .i64 (56 - IntKind.wrap .i64 (8 * Int.tmod ((k+1:Nat):Int) 8))))) (.u64 (UInt64.ofNat (56 - (k+1) % 8 * 8)))=true:=by
    have:=sh64 (k+1) hi
    rwa [show Int.tmod ((k+1:Nat):Int) 8 * 8=8 * Int.tmod ((k+1:Nat):Int) 8 by omega] at this
   simp only [allT,ltLm,plus1 (show k+1 < 1000 by omega),apOb_ok (show (exL [] (outB h) (k+1)).length < 1000000000 by rw [lD]; omega),s1,isAt_cellsU h hp,in_rng (k:=8) hp,quo8 (show k+1 < 1000 by omega),lt_i (k:=64) hi,cond_true])
  (end9 (x9D P η h l c (exL [] (outB h) 64) c.length (128 * K) 64 F z) (by decide)) (by omega)
 have zz:=evSO_ok (noPS_ok _) _ _ _ _ _ _ (z9 P η h l c (exL [] (outB h) 64) c.length (128 * K) 64 F z) (by
  have:strAt ((exL [] (outB h) 64).map .u8) 0 (exL [] (outB h) 64).length (exL [] (outB h) 64)=true:=by
   unfold strAt
   rw [List.length_map,List.drop_zero,List.take_of_length_le (by rw [List.length_map]; exact Nat.le_refl _)]
   have hb:∀ l:List UInt8,bytesA (l.map AVal.u8)=some l:=fun l=>by
    induction l with
    | nil=>rfl
    | cons x l ih=>simp only [List.map_cons,bytesA,ih]
   rw [hb]
   simp
  simp only [allT,this,cond_true])
 have hd:exL [] (outB h) 64=docF P η l:=by
  unfold docF
  rw [← hpad,← hK,← hh]; rfl
 rw [hd] at zz lpD
 exact ⟨_,_,_,a1.trans (lpA.trans (a2.trans (lpB.trans (a3.trans (lpC.trans (a4.trans (lpD.trans zz.1)))))))⟩
end Go.Proofs.YtcjkbimdmcfppaaGreatDoor.Sha
namespace Go.Proofs.YtcjkbimdmcfppaaGreatDoor.Sha
open Go Go.Eng
set_option maxRecDepth 1000000
theorem f9_at:Tryz.prog.funcs[26]? = some Tryz.f26:=by kernel_rfl
theorem f9_body:Tryz.f26.body=some (bodyOf Tryz.f26):=by kernel_rfl
theorem n16_ok:CSOk Tryz.prog (n16 φr kF):=csAlt_ok (fun f args e h=>nr_ok f args e (by
 unfold nr csAlt
 have h2:csOne 108 (k19 φr) f args=some e:=h
 unfold csOne at h2 ⊢
 cases h3:Nat.beq f 122 with
 | true =>
  have:=Nat.eq_of_beq_eq_true h3
  subst this
  cases h2
 | false=>exact h2)) callOk10
theorem n9_ok:CSOk Tryz.prog (n9 (pieceD φr kF) hF):=csAlt_ok callOk11 (callOk16 n16_ok)
def docR:List UInt8→List UInt8:=docF (pieceD φr kF) hF
def ωr:Fw:=wOf φr docR
theorem callOk9:CSOk Tryz.prog (csP (psOne 26 (w9 ωr))):=by
 refine psOne_ok fun args e h => ?_
 unfold w9 at h
 split at h
 ·rename_i l
  simp only [Option.some.injEq,Prod.mk.injEq] at h
  obtain ⟨rfl,hc⟩:=h
  have hl:=Nat.le_of_ble_eq_true hc
  obtain ⟨T',H',fr',he⟩:=ev9 (pieceD φr kF) hF l hl
  have e1:Tryz.prog.globals.size=2:=gl
  have r:run1 Tryz.prog (n9 (pieceD φr kF) hF) (mask 26) (l.length+300) 26 [.str l] [] Tryz.prog.globals.size=some (.str (docR l),H',fr'):=by
   rw [e1]
   exact run1_fin1 f9_at f9_body (by kernel_rfl) he (.inr rfl) rfl
  exact callOk_run n9_ok hmix r rfl rfl
 ·cases h
theorem nWr_ok:CSOk Tryz.prog (nW ωr):=nW_ok nr_ok callOk9
end Go.Proofs.YtcjkbimdmcfppaaGreatDoor.Sha
namespace Go.Num
open Go Go.Eng
def dNat:Nat:=37095705934669439343138083508754565189542113879843219016388785533085940283555
theorem d_bytes:leNat dBytes=dNat:=by kernel_rfl
def dF:Fp:=toF dNat
def iF:Fp:=toF iNat
theorem i_sq:iNat * iNat % Pq=(Pq - 1 % Pq) % Pq:=by kernel_rfl
theorem d_half:pwE Pq dNat (2 * mP)=Pq - 1:=by kernel_rfl
theorem d_ne:dNat % Pq ≠ 0:=by decide
theorem four_mP:2 * (2 * mP)=Pq - 1:=by decide
theorem one_ne_P:¬ (1:Nat)=Pq - 1:=by decide
theorem toF_one:toF 1=1:=Fin.ext (Nat.mod_eq_of_lt (by decide))
theorem toF_nil:toF 0=0:=Fin.ext rfl
theorem pw_half (x:Nat):pwE Pq x (2 * mP)=x ^ (2 * mP) % Pq:=(pwE_val (by decide) (by kernel_rfl)).symm
theorem not_sq (a w n m:Nat) (hm:2 * n=m) (hf:∀ a,a % Pq ≠ 0→a ^ m % Pq=1) (hw:w * w % Pq=a % Pq) (ha:a % Pq ≠ 0):a ^ n % Pq=1:=by
 have h0:w % Pq ≠ 0:=fun e=>ha (by rw [← hw,Nat.mul_mod,e]; rfl)
 rw [← pow_congr hw,← Nat.pow_two,← Nat.pow_mul,hm]
 exact hf w h0
theorem crv:Crv dF iF:=⟨by
  show toF iNat * toF iNat = -1
  rw [← toF_mul,← toF_one,← toF_neg]
  exact toF_eq.2 i_sq,fun w hw=>by
  have h1:w.val * w.val % Pq=dNat % Pq:=by
   have:=congrArg Fin.val hw
   rw [Fin.val_mul] at this
   exact this
  have h2:=not_sq dNat w.val (2 * mP) (Pq - 1) four_mP (fun a ha=>genP.fermat ha) h1 d_ne
  rw [← pw_half,d_half] at h2
  exact one_ne_P h2.symm⟩
def R4 {R S:Type}(r:R→S→Prop) (p:P4 R) (q:P4 S):Prop:=r p.x q.x∧r p.y q.y∧r p.z q.z∧r p.t q.t
theorem add_keeps {R S:Type}{o:Ops R}{o':Ops S}{r:R→S→Prop}(k:Keeps o o' r){p q:P4 R}{p' q':P4 S}{d:R}{d':S}(hd:r d d') (hp:R4 r p p') (hq:R4 r q q'):R4 r (addO o d p q) (addO o' d' p' q'):=by
 have a:=k.add (k.mul hp.1 hq.2.1) (k.mul hp.2.1 hq.1)
 have b:=k.add (k.mul hp.2.1 hq.2.1) (k.mul hp.1 hq.1)
 have c:=k.mul (k.mul hd hp.2.2.2) hq.2.2.2
 have e:=k.mul hp.2.2.1 hq.2.2.1
 have f:=k.sub e c
 have g:=k.add e c
 exact ⟨k.mul a f,k.mul g b,k.mul f g,k.mul a b⟩
structure Re (a:E5) (f:Fp):Prop where
 ok:a.ok
 val:toF a.val=f
theorem re_of {a:E5}{n:Nat}(h:Vm a n):Re a (toF n):=⟨h.ok,toF_eq.2 h.val⟩
theorem Re.vm {a:E5}{f:Fp}(h:Re a f):Vm a a.val:=⟨h.ok,rfl⟩
theorem keeps_EF:Keeps opsE opsF Re where
 add:=fun {a b x y} h k=>by
  have:=re_of (h.vm.add k.vm)
  rw [toF_add,h.val,k.val] at this
  exact this
 sub:=fun {a b x y} h k=>by
  have:=re_of (h.vm.sub k.vm)
  rw [toF_sub,h.val,k.val] at this
  exact this
 mul:=fun {a b x y} h k=>by
  have:=re_of (h.vm.mul k.vm)
  rw [toF_mul,h.val,k.val] at this
  exact this
 small:=fun n=>re_of (vm_small n)
 zero:=re_of vm_zero
theorem re_neg {a:E5}{f:Fp}(h:Re a f):Re (negE a) (-f):=by
 have:=re_of h.vm.neg
 rw [toF_neg,h.val] at this
 exact this
theorem re_same {a b:E5}{f g:Fp}(h:Re a f) (k:Re b g):sameE a b=decide (f=g):=by
 rw [h.vm.same k.vm,← h.val,← k.val]
 exact decide_eq_decide.2 toF_eq.symm
theorem re_zero:Re zeroE 0:=by have:=re_of vm_zero; rw [toF_nil] at this; exact this
theorem re_one:Re (smallE 1) 1:=by
 have:=re_of (vm_small 1)
 rw [show (1:UInt32).toNat=1 from rfl,toF_one] at this
 exact this
theorem re_inv {a:E5}{f:Fp}(h:Re a f) (hf:f ≠ 0):Re (invE a) (invF f):=by
 have h1:=inv_one h.ok
 have h2:a.val % Pq ≠ 0:=fun e=>hf (by rw [← h.val]; exact toF_zero.2 e)
 rw [decide_eq_true h2] at h1
 have h3:=re_of (vm_inv h.vm)
 have h4:=keeps_EF.mul h h3
 rw [show opsE.mul a (invE a)=mulE a (invE a) from rfl] at h4
 rw [re_same h4 re_one] at h1
 have h5:f * toF (a.val ^ (Pq - 2))=1:=of_decide_eq_true h1
 have h6:toF (a.val ^ (Pq - 2))=invF f:=F_cancel hf (by rw [h5,invF_mul hf])
 rw [h6] at h3
 exact h3
structure PR (p:P4 E5) (q:P4 N16) (f:P4 Fp):Prop where
 rel:R4 Rel p q
 val:R4 Re p f
 on:On dF f
theorem rel_d:Rel (curveφ realFe) (givenφ realFe):=rel_of (s:=dBytes) (by kernel_rfl)
theorem re_d:Re (curveφ realFe) dF:=by
 have h:Re (curveφ realFe) (toF (curveφ realFe).val):=⟨ofEl_ok _,rfl⟩
 have e:toF (curveφ realFe).val=dF:=toF_eq.2 (by
  have:=ofEl_val (s:=dBytes) (by kernel_rfl)
  rw [d_bytes] at this
  exact this)
 rw [e] at h
 exact h
theorem none_of {p:P4 E5}{f:P4 Fp}(h:R4 Re p f) (hz:f.z ≠ 0):noneφ realFe p=false:=by
 show sameE p.z zeroE=false
 rw [re_same h.2.2.1 re_zero]
 exact decide_eq_false hz
theorem PR.some {p:P4 E5}{q:P4 N16}{f:P4 Fp}(h:PR p q f):noneφ realFe p=false:=none_of h.val h.on.z
theorem add_eq (p q:P4 E5) (hp:noneφ realFe p=false) (hq:noneφ realFe q=false):addφ realFe p q=addO opsE (curveφ realFe) p q:=by
 unfold addφ
 rw [hp,hq,cond_false,cond_false]; rfl
theorem PR.add {p p':P4 E5}{q q':P4 N16}{f f':P4 Fp}(h:PR p q f) (k:PR p' q' f'):PR (addφ realFe p p') (addψ realFe q q') (addO opsF dF f f'):=by
 rw [add_eq p p' h.some k.some]
 exact ⟨add_keeps keeps_EN rel_d h.rel k.rel,add_keeps keeps_EF re_d h.val k.val,On.add crv h.on k.on⟩
theorem re_mul {a b:E5}{f g:Fp}(h:Re a f) (k:Re b g):Re (mulE a b) (f * g):=keeps_EF.mul h k
theorem re_add {a b:E5}{f g:Fp}(h:Re a f) (k:Re b g):Re (addE a b) (f+g):=keeps_EF.add h k
theorem re_sub {a b:E5}{f g:Fp}(h:Re a f) (k:Re b g):Re (subE a b) (f - g):=keeps_EF.sub h k
theorem zero_phi:zeroφ realFe=⟨zeroE,smallE 1,smallE 1,zeroE⟩:=by simp only [zeroφ,realFe]
theorem zero_psi:zeroψ realFe=⟨zeroN,smallN 1,smallN 1,zeroN⟩:=by simp only [zeroψ,realFe]
theorem r4_mk {R S:Type}{r:R→S→Prop}{a b c d:R}{a' b' c' d':S}(h1:r a a') (h2:r b b') (h3:r c c') (h4:r d d'):R4 r ⟨a,b,c,d⟩ ⟨a',b',c',d'⟩:=⟨h1,h2,h3,h4⟩
theorem re_zero4:R4 Re ⟨zeroE,smallE 1,smallE 1,zeroE⟩ zero4:=by
 have h0:=re_zero
 have h1:=re_one
 generalize zeroE=a at h0 ⊢
 generalize smallE 1=b at h1 ⊢
 exact r4_mk h0 h1 h1 h0
theorem rel_zero4:R4 Rel ⟨zeroE,smallE 1,smallE 1,zeroE⟩ ⟨zeroN,smallN 1,smallN 1,zeroN⟩:=r4_mk rel_zero (rel_small 1) (rel_small 1) rel_zero
theorem neg_phi (p:P4 E5) (h:noneφ realFe p=false):negφ realFe p=⟨negE p.x,p.y,p.z,negE p.t⟩:=by
 unfold negφ
 rw [h,cond_false]
 simp only [negO,realFe]
theorem neg_psi (q:P4 N16):negψ realFe q=⟨negP q.x,q.y,q.z,negP q.t⟩:=by simp only [negψ,negO,realFe]
theorem PR.neg {p:P4 E5}{q:P4 N16}{f:P4 Fp}(h:PR p q f):PR (negφ realFe p) (negψ realFe q) (negO (fun a => -a) f):=by
 rw [neg_phi p h.some,neg_psi]
 have e:negO (fun a => -a) f=⟨-f.x,f.y,f.z,-f.t⟩:=by simp only [negO]
 have o:=h.on.neg
 rw [e] at o ⊢
 exact ⟨r4_mk (rel_neg h.rel.1) h.rel.2.1 h.rel.2.2.1 (rel_neg h.rel.2.2.2),r4_mk (re_neg h.val.1) h.val.2.1 h.val.2.2.1 (re_neg h.val.2.2.2),o⟩
theorem pr_zero:PR (zeroφ realFe) (zeroψ realFe) zero4:=by
 rw [zero_phi,zero_psi]
 exact ⟨rel_zero4,re_zero4,On.zero dF⟩
theorem PR.ok {p:P4 E5}{q:P4 N16}{f:P4 Fp}(h:PR p q f):okQ0 realFe q=true:=by
 unfold okQ0
 simp only [Bool.and_eq_true]
 exact ⟨okB_iff.2 h.rel.1.okP,okB_iff.2 h.rel.2.1.okP,okB_iff.2 h.rel.2.2.1.okP,okB_iff.2 h.rel.2.2.2.okP⟩
theorem PR.same {p p':P4 E5}{q q':P4 N16}{f f':P4 Fp}(h:PR p q f) (k:PR p' q' f'):sameφ realFe p p'=sameψ realFe q q':=by
 unfold sameφ sameψ
 rw [h.some,k.some,cond_false,cond_false]
 show cond (sameE (mulE p.x p'.z) (mulE p'.x p.z)) (sameE (mulE p.y p'.z) (mulE p'.y p.z)) false=_
 rw [rel_same (rel_mul h.rel.1 k.rel.2.2.1) (rel_mul k.rel.1 h.rel.2.2.1),rel_same (rel_mul h.rel.2.1 k.rel.2.2.1) (rel_mul k.rel.2.1 h.rel.2.2.1)]
 rfl
theorem PR.same_iff {p p':P4 E5}{q q':P4 N16}{f f':P4 Fp}(h:PR p q f) (k:PR p' q' f'):sameφ realFe p p'=true ↔ aff f=aff f':=by
 rw [← same_aff h.on k.on]
 unfold sameφ SameP
 rw [h.some,k.some,cond_false,cond_false]
 show cond (sameE (mulE p.x p'.z) (mulE p'.x p.z)) (sameE (mulE p.y p'.z) (mulE p'.y p.z)) false=true ↔ _
 rw [re_same (re_mul h.val.1 k.val.2.2.1) (re_mul k.val.1 h.val.2.2.1),re_same (re_mul h.val.2.1 k.val.2.2.1) (re_mul k.val.2.1 h.val.2.2.1)]
 generalize f.x * f'.z=a
 generalize f'.x * f.z=b
 generalize f.y * f'.z=c
 generalize f'.y * f.z=d
 by_cases h1:a=b
 ·rw [decide_eq_true h1,cond_true]
  exact Iff.intro (fun h2=>And.intro h1 (of_decide_eq_true h2)) (fun h2=>decide_eq_true h2.2)
 ·rw [decide_eq_false h1,cond_false]
  exact Iff.intro (fun h2=>by cases h2) (fun h2=>absurd h2.1 h1)
theorem PR.small {p:P4 E5}{q:P4 N16}{f:P4 Fp}(h:PR p q f):realFi.small p=realFi.smallQ q:=by
 rw [small_eq,smallQ_eq]
 exact PR.same (((h.add h).add (h.add h)).add ((h.add h).add (h.add h))) pr_zero
end Go.Num
namespace Go.Num
open Go Go.Eng
theorem byL_phi (a:E5):byLφ realFe a=bytesE a:=by simp only [byLφ,realFe,bytesE]
theorem byL_psi0 (x:N16):((List.range 32).map fun i=>(shr_u64 (x.list.getD (i / 2) 0) (i % 2 * 8)).toUInt8)=bytesN x:=by kernel_rfl
theorem rel_cond {b:Bool}{x y:E5}{x' y':N16}(h:Rel x x') (k:Rel y y'):Rel (cond b x y) (cond b x' y'):=by
 cases b
 ·exact k
 ·exact h
theorem ok_bool (c h z d:Bool):cond c (cond h (cond d (!z) true) false) false=cond c (cond h (cond z (!d) true) false) false:=by cases c <;> cases h <;> cases z <;> cases d <;> rfl
theorem three_bool0:∀ c h d z:Bool,cond c (cond h (cond d (!z) true) false) false=true→c=true∧h=true∧(d=true→z=false):=by decide
theorem three_bool {c h d z:Bool}(k:cond c (cond h (cond d (!z) true) false) false=true):c=true∧h=true∧(d=true→z=false):=three_bool0 c h d z k
theorem r_bool {c d:Bool}(h:(cond c (cond d (0:Int) 40) 2)=0):c=true∧d=true:=by cases c <;> cases d <;> first | exact ⟨rfl,rfl⟩ | exact absurd h (by decide)
theorem byL_psi (x:N16):byLψ realFe x=bytesN x:=by
 rw [← byL_psi0]
 simp only [byLψ,realFe]
theorem bytesN_len2 (x:N16):(bytesN x).length=32:=by rw [← byL_psi0,List.length_map,List.length_range]
theorem par (c:UInt64):shl_u8 ((c &&& 1).toUInt8) 7=cond ((c &&& 1) == 1) 128 0:=by
 have h:=and_nat c 1 1 rfl
 rcases Nat.mod_two_eq_zero_or_one c.toNat with e | e
 ·have:c &&& 1=0:=UInt64.toNat_inj.1 (by rw [h]; exact e)
  rw [this]; rfl
 ·have:c &&& 1=1:=UInt64.toNat_inj.1 (by rw [h]; exact e)
  rw [this]; rfl
theorem set_self (l:List UInt8) (h:l.length=32):l.set 31 (l.getD 31 0 ||| 0)=l:=by
 rw [List.getD_eq_getElem?_getD,List.getElem?_eq_getElem (by omega),Option.getD_some,UInt8.or_zero,List.set_getElem_self]
theorem bytes_gen (l:List UInt8) (hl:l.length=32) (c:UInt64):l.set 31 (l.getD 31 0 ||| shl_u8 ((c &&& 1).toUInt8) 7)=cond ((c &&& 1) == 1) (top128 l) l:=by
 rw [par]
 cases (c &&& 1) == 1
 ·rw [cond_false,cond_false,set_self l hl]
 ·rfl
theorem bytes_phi (p:P4 E5) (h:noneφ realFe p=false):bytesφ realFe p=cond (oddE (mulE p.x (invE p.z))) (top128 (bytesE (mulE p.y (invE p.z)))) (bytesE (mulE p.y (invE p.z))):=by
 unfold bytesφ
 rw [h,cond_false,byL_phi]
 simp only [realFe]
theorem bytes_psi (q:P4 N16):bytesψ realFe q=cond (oddP (mulP q.x (invP q.z))) (top128 (bytesN (mulP q.y (invP q.z)))) (bytesN (mulP q.y (invP q.z))):=by
 unfold bytesψ
 rw [byL_psi,bytes_gen _ (bytesN_len2 _)]
 simp only [realFe,oddP]
theorem PR.bytes {p:P4 E5}{q:P4 N16}{f:P4 Fp}(h:PR p q f):bytesφ realFe p=bytesψ realFe q:=by
 have hi:=rel_inv h.rel.2.2.1
 rw [bytes_phi p h.some,bytes_psi,rel_odd (rel_mul h.rel.1 hi),(rel_mul h.rel.2.1 hi).bytes]
theorem dval {a b c:Nat}{x:N16}{e:E5}(h:Rel e x) (v:Vm e ((Pq - a % Pq) * b ^ (Pq - 2))) (k:(Pq - a % Pq) * pwE Pq b (Pq - 2) % Pq=c):x.val=c:=by
 rw [h.val,v.val,← k,pw_inv,Nat.mul_mod_mod]
theorem d_comp:(Pq - 121665 % Pq) * pwE Pq 121666 (Pq - 2) % Pq=dNat % Pq:=by kernel_rfl
theorem d_phi:dφ realFe=mulP (negP (smallN 121665)) (invP (smallN 121666)):=by simp only [dφ,realFe]
theorem given_phi:givenφ realFe=ofP dBytes:=by simp only [givenφ,realFe]
theorem d_given:dφ realFe=givenφ realFe:=by
 rw [d_phi,given_phi]
 have r:=rel_mul (rel_neg (rel_small 121665)) (rel_inv (rel_small 121666))
 have v:=Vm.mul (Vm.neg (vm_small 121665)) (vm_inv (vm_small 121666))
 rw [show (121665:UInt32).toNat=121665 from rfl,show (121666:UInt32).toNat=121666 from rfl] at v
 have e:=dval r v d_comp
 have k:=rel_of (s:=dBytes) (by kernel_rfl)
 refine N16.ext_val r.okP k.okP ?_
 rw [e,k.val,ofEl_val (by kernel_rfl),d_bytes]
theorem rel_y {s:List UInt8}(h:isLen s 32=true):Rel (yφ realFe s) (yψ realFe s):=rel_of (topL_len h)
theorem v_phi (s:List UInt8):vφ realFe s=addE (mulE (curveφ realFe) (mulE (yφ realFe s) (yφ realFe s))) (smallE 1):=by simp only [vφ,realFe]
theorem v_psi (s:List UInt8):vψ realFe s=addP (mulP (givenφ realFe) (mulP (yψ realFe s) (yψ realFe s))) (smallN 1):=by
 rw [← d_given]; simp only [vψ,realFe]
theorem u_phi (s:List UInt8):uφ realFe s=mulE (subE (mulE (yφ realFe s) (yφ realFe s)) (smallE 1)) (invE (vφ realFe s)):=by simp only [uφ,realFe]
theorem u_psi (s:List UInt8):uψ realFe s=mulP (subP (mulP (yψ realFe s) (yψ realFe s)) (smallN 1)) (invP (vψ realFe s)):=by simp only [uψ,realFe]
theorem rel_v {s:List UInt8}(h:isLen s 32=true):Rel (vφ realFe s) (vψ realFe s):=by
 rw [v_phi,v_psi]
 exact rel_add (rel_mul rel_d (rel_mul (rel_y h) (rel_y h))) (rel_small 1)
theorem rel_u {s:List UInt8}(h:isLen s 32=true):Rel (uφ realFe s) (uψ realFe s):=by
 rw [u_phi,u_psi]
 exact rel_mul (rel_sub (rel_mul (rel_y h) (rel_y h)) (rel_small 1)) (rel_inv (rel_v h))
theorem x_phi (s:List UInt8):xφ realFe s=cond (decOdd s) (negE (rootE (uφ realFe s))) (rootE (uφ realFe s)):=by simp only [xφ,realFe]
theorem x_psi (s:List UInt8):xψ realFe s=cond (decOdd s) (negP (rootP (uψ realFe s))) (rootP (uψ realFe s)):=by simp only [xψ,realFe]
theorem rel_x {s:List UInt8}(h:isLen s 32=true):Rel (xφ realFe s) (xψ realFe s):=by
 rw [x_phi,x_psi]
 exact rel_cond (rel_neg (rel_root (rel_u h))) (rel_root (rel_u h))
theorem ok_phi (s:List UInt8):okφ realFe s=cond (canonE (topL s)) (cond (hasE (uφ realFe s)) (cond (decOdd s) (!sameE (rootE (uφ realFe s)) zeroE) true) false) false:=by simp only [okφ,realFe]
theorem ok_psi (s:List UInt8):okψ realFe s=cond (canonP (topL s)) (cond (hasP (uψ realFe s)) (cond (samP (rootP (uψ realFe s)) zeroN) (!decOdd s) true) false) false:=by simp only [okψ,realFe]
theorem ok_gen {a b c c' h h' z z' d:Bool}(ha:a=cond c (cond h (cond d (!z) true) false) false) (hb:b=cond c' (cond h' (cond z' (!d) true) false) false) (e1:c=c') (e2:h=h') (e3:z=z'):a=b:=by
 subst e1 e2 e3
 rw [ha,hb]
 exact ok_bool c h z d
theorem zero_same {s:List UInt8}(h:isLen s 32=true):sameE (rootE (uφ realFe s)) zeroE=samP (rootP (uψ realFe s)) zeroN:=rel_same (rel_root (rel_u h)) rel_zero
theorem has_same {s:List UInt8}(h:isLen s 32=true):hasE (uφ realFe s)=hasP (uψ realFe s):=rel_has (rel_u h)
theorem ok_same {s:List UInt8}(h:isLen s 32=true):okφ realFe s=okψ realFe s:=
 ok_gen (ok_phi s) (ok_psi s) (canonE_eq (topL s)) (has_same h) (zero_same h)
theorem r_gen {l a b:Bool}(h:l=true→a=b):cond l (cond a (0:Int) 40) 2=cond l (cond b 0 40) 2:=by
 cases l
 ·rfl
 ·rw [h rfl]
theorem decR_same (s:List UInt8):decRφ realFe s=decRψ realFe s:=by
 unfold decRφ decRψ
 exact r_gen fun h=>ok_same h
theorem decR_ok {s:List UInt8}(h:decRφ realFe s=0):isLen s 32=true∧okφ realFe s=true:=by
 unfold decRφ at h
 exact r_bool h
theorem dec_phi {s:List UInt8}(h:decRφ realFe s=0):decφ realFe s=⟨xφ realFe s,yφ realFe s,smallE 1,mulE (xφ realFe s) (yφ realFe s)⟩:=by
 obtain ⟨h1,h2⟩:=decR_ok h
 unfold decφ
 rw [h1,h2,cond_true,cond_true]
 simp only [decPφ,realFe]
theorem dec_psi {s:List UInt8}(h:decRφ realFe s=0):decψ realFe s=⟨xψ realFe s,yψ realFe s,smallN 1,mulP (xψ realFe s) (yψ realFe s)⟩:=by
 obtain ⟨h1,h2⟩:=decR_ok h
 unfold decψ
 rw [h1,← ok_same h1,h2,cond_true,cond_true]
 simp only [ofXYψ,realFe]
theorem re_val {a:E5}(h:a.ok):Re a (toF a.val):=⟨h,rfl⟩
theorem ok_parts {s:List UInt8}(h:decRφ realFe s=0):canonE (topL s)=true∧hasE (uφ realFe s)=true∧(decOdd s=true→sameE (rootE (uφ realFe s)) zeroE=false):=by
 have h2:=(decR_ok h).2
 rw [ok_phi] at h2
 exact three_bool h2
theorem lit5 (y d:Fp) (h:d * (y * y)+1=0) (i:Fp) (hi:i * i = -1):d * (y * y)=i * i:=by grind -lia -linarith (splits:=0)
theorem lit6 (d y o z:Fp) (hz:z=0) (hy:y=z) (h:d * (y * y)+o=z):o=z:=by grind -lia -linarith (splits:=0)
theorem lit7 (d x y v w:Fp) (hv:v=d * (y * y)+1) (hw:v * w=1) (hx:x * x=(y * y - 1) * w):y * y - x * x=1+d * (x * y) * (x * y):=by grind -lia -linarith (splits:=0)
theorem lit8 (r:Fp):-r * -r=r * r:=by grind -lia -linarith (splits:=0)
theorem pr_up {x y z t:E5}{x' y' z' t':N16}{X Y Z:Fp}(rx:Rel x x') (ry:Rel y y') (rz:Rel z z') (rt:Rel t t') (ex:Re x X) (ey:Re y Y) (ez:Re z Z) (et:Re t (X * Y)) (hz:Z=1) (ho:OnA dF (X,Y)):PR ⟨x,y,z,t⟩ ⟨x',y',z',t'⟩ (up (X,Y)):=by
 subst hz
 exact ⟨⟨rx,ry,rz,rt⟩,⟨ex,ey,ez,et⟩,on_up ho⟩
theorem re_flip {b:Bool}{r:E5}{R:Fp}(er:Re r R):∃ X,Re (cond b (negE r) r) X∧X * X=R * R:=by
 cases b
 ·exact ⟨R,er,rfl⟩
 ·exact ⟨-R,re_neg er,lit8 R⟩
theorem on_parts {d X Y V W R U:Fp}(hV:V=d * (Y * Y)+1) (hW:V * W=1) (hU:U=(Y * Y - 1) * W) (hR:R * R=U) (hX:X * X=R * R):OnA d (X,Y):=by
 show Y * Y - X * X=1+d * (X * Y) * (X * Y)
 exact lit7 d X Y V W hV hW (by rw [hX,hR,hU])
theorem v_ne {d Y:Fp}(c:Crv d iF):d * (Y * Y)+1 ≠ 0:=fun e=>F_one (lit6 _ _ _ _ rfl (ns_zero c (lit5 _ _ e iF c.ii)) e)
theorem pr_dec {s:List UInt8}(h:decRφ realFe s=0):∃ a:Fp × Fp,PR (decφ realFe s) (decψ realFe s) (up a):=by
 have h1:=(decR_ok h).1
 have hp:=ok_parts h
 have rx:=rel_x h1
 have ry:=rel_y h1
 have ey:=re_val ry.ok
 have hsq:=root_sq (rel_u h1).ok hp.2.1
 have er:=re_val (root_nat (rel_u h1).ok).1
 rw [dec_phi h,dec_psi h]
 obtain ⟨X,ex,hX⟩:=re_flip (b:=decOdd s) er
 rw [← x_phi] at ex
 generalize toF (yφ realFe s).val=Y at ey
 generalize toF (rootE (uφ realFe s)).val=R at er hX
 have ev:=re_add (re_mul re_d (re_mul ey ey)) re_one
 rw [← v_phi] at ev
 have hv:=v_ne crv (Y:=Y)
 have eu:=re_mul (re_sub (re_mul ey ey) re_one) (re_inv ev hv)
 rw [← u_phi] at eu
 rw [re_same (re_mul er er) eu] at hsq
 exact ⟨(X,Y),pr_up rx ry (rel_small 1) (rel_mul rx ry) ex ey re_one (re_mul ex ey) rfl (on_parts rfl (invF_mul hv) rfl (of_decide_eq_true hsq) hX)⟩
end Go.Num
namespace Go.Num
open Go Go.Eng
theorem re_eq {a b:E5}{f:Fp}(h:Re a f) (k:Re b f):a.val % Pq=b.val % Pq:=toF_eq.1 (h.val.trans k.val.symm)
theorem re_odd {a b:E5}{f:Fp}(h:Re a f) (k:Re b f):oddE a=oddE b:=by rw [oddE_eq,oddE_eq,re_eq h k]
theorem neg_odd {P y:Nat}(hP:P % 2=1) (hlt:y < P) (h0:y ≠ 0) (hy:¬ y % 2=1):(P - y) % P % 2=1:=by
 rw [Nat.mod_eq_of_lt (by omega:P - y < P)]
 omega
theorem odd_neg {r:E5}(h:r.ok) (hr:oddE r=false) (h0:sameE r zeroE=false):oddE (negE r)=true:=by
 rw [oddE_eq] at hr ⊢
 rw [sameE_eq,zeroE_val] at h0
 have h1:=of_decide_eq_false hr
 have h2:=of_decide_eq_false h0
 refine decide_eq_true ?_
 rw [(neg_nat h).2]
 have h3:=Nat.mod_lt r.val Pq_pos
 generalize r.val % Pq=y at h1 h2 h3 ⊢
 refine neg_odd P_odd h3 (fun e=>h2 (by rw [e]; rfl)) h1
theorem set_get (s:List UInt8) (h:s.length=32) (x:UInt8):(s.set 31 x).getD 31 0=x:=by
 rw [List.getD_eq_getElem?_getD,List.getElem?_set]
 simp [h]
theorem set_back (s:List UInt8) (h:s.length=32):s.set 31 (s.getD 31 0)=s:=by
 rw [List.getD_eq_getElem?_getD,List.getElem?_eq_getElem (by omega),Option.getD_some,List.set_getElem_self]
theorem y_phi (s:List UInt8):yφ realFe s=ofEl (topL s):=by simp only [yφ,realFe]
def bv (bit:Nat→Bool):Nat→Nat
 | 0=>0
 | j+1=>2 * bv bit j+cond (bit (255 - j)) 1 0
theorem bv_eq (bit:Nat→Bool) (V:Nat) (h:∀ i,i < 256→bit i=decide (V / 2 ^ i % 2=1)) (hV:V < 2 ^ 256):∀ j,j≤256→bv bit j=V / 2 ^ (256 - j)
 | 0,_=>by
  unfold bv
  rw [Nat.sub_zero,Nat.div_eq_of_lt hV]
 | j+1,hj=>by
  have ih:=bv_eq bit V h hV j (by omega)
  unfold bv
  rw [ih,h (255 - j) (by omega)]
  have e1:256 - j=(255 - j)+1:=by omega
  have e2:256 - (j+1)=255 - j:=by omega
  rw [e1,e2,Nat.pow_succ,← Nat.div_div_eq_div_mul]
  generalize V / 2 ^ (255 - j)=W
  rcases Nat.mod_two_eq_zero_or_one W with h0 | h0
  ·rw [h0,decide_eq_false (by decide:¬ (0:Nat)=1),cond_false]; omega
  ·rw [h0,decide_eq_true (rfl:(1:Nat)=1),cond_true]; omega
theorem PR.iter {p:P4 E5}{q:P4 N16}{f:P4 Fp}(h:PR p q f){b c:Nat→Bool}(hb:∀ i,i < 256→b i=c i):∀ j,j≤256→∃ g,PR (iterG (addφ realFe) (zeroφ realFe) p b j) (iterG (addψ realFe) (zeroψ realFe) q c j) g∧aff g=mulA dF (aff f) (bv b j)
 | 0,_=>⟨zero4,pr_zero,aff_zero⟩
 | j+1,hj=>by
  obtain ⟨g,hg,ag⟩:=PR.iter h hb j (by omega)
  have hm:=on_aff h.on
  have h2:=hg.add hg
  have a2:aff (addO opsF dF g g)=mulA dF (aff f) (bv b j+bv b j):=by rw [aff_add crv hg.on hg.on,ag,← mulA_add crv hm]
  unfold iterG bv
  rw [← hb (255 - j) (by omega)]
  cases b (255 - j)
  ·rw [cond_false,cond_false,cond_false,Nat.add_zero,Nat.two_mul]
   exact ⟨_,h2,a2⟩
  ·rw [cond_true,cond_true,cond_true,Nat.two_mul]
   refine ⟨_,h2.add h,?_⟩
   rw [aff_add crv h2.on h.on,a2]; rfl
theorem mod_div (W r:Nat) (hr:r < 8):W % 256 / 2 ^ r % 2=W / 2 ^ r % 2:=by
 have:r=0 ∨ r=1 ∨ r=2 ∨ r=3 ∨ r=4 ∨ r=5 ∨ r=6 ∨ r=7:=by omega
 rcases this with h | h | h | h | h | h | h | h <;> subst h <;> omega
theorem mod_div16 (W r:Nat) (hr:r < 16):W % 65536 / 2 ^ r % 2=W / 2 ^ r % 2:=by
 have:r=0 ∨ r=1 ∨ r=2 ∨ r=3 ∨ r=4 ∨ r=5 ∨ r=6 ∨ r=7 ∨ r=8 ∨ r=9 ∨ r=10 ∨ r=11 ∨ r=12 ∨ r=13 ∨ r=14 ∨ r=15:=by omega
 rcases this with h | h | h | h | h | h | h | h | h | h | h | h | h | h | h | h <;> subst h <;> omega
theorem bitK_val (l:List UInt8) (i:Nat):bitK l i=decide (leNat l / 2 ^ i % 2=1):=by
 unfold bitK bitB
 have h:=and8_nat (shr_u8 (l.getD (i / 8) 0) (i % 8)) 1 1 rfl
 rw [shr_u8_nat _ _ (Nat.mod_lt _ (by omega)),byte_at] at h
 have e1:leNat l / 256 ^ (i / 8) % 256 / 2 ^ (i % 8) % 2=leNat l / 2 ^ i % 2:=by
  rw [mod_div _ _ (Nat.mod_lt _ (by omega)),show (256:Nat)=2 ^ 8 from rfl,← Nat.pow_mul,Nat.div_div_eq_div_mul,← Nat.pow_add,Nat.div_add_mod]
 rw [Nat.pow_one,e1] at h
 rw [← h]
 generalize shr_u8 (l.getD (i / 8) 0) (i % 8) &&& 1=x
 rw [Bool.eq_iff_iff,beq_iff_eq,decide_eq_true_iff]
 exact ⟨fun e=>by rw [e]; rfl,fun e=>UInt8.toNat_inj.1 e⟩
theorem part_at:∀ (l:List UInt64) (k:Nat),ok16 l→(l.getD k 0).toNat=val16 l / 65536 ^ k % 65536
 | [],k,_=>by
  show (([]:List UInt64).getD k 0).toNat=0 / 65536 ^ k % 65536
  rw [Nat.zero_div]; rfl
 | x::l,0,h=>by
  have:=h.1
  show x.toNat=(x.toNat+65536 * val16 l) / 65536 ^ 0 % 65536
  rw [Nat.pow_zero]; omega
 | x::l,k+1,h=>by
  have hx:=h.1
  show (l.getD k 0).toNat=(x.toNat+65536 * val16 l) / 65536 ^ (k+1) % 65536
  rw [part_at l k h.2,Nat.pow_succ,Nat.mul_comm (65536 ^ k),← Nat.div_div_eq_div_mul]
  have:(x.toNat+65536 * val16 l) / 65536=val16 l:=by omega
  rw [this]
theorem bitN16_val (n:N16) (hn:n.ok) (i:Nat):bitN16 n i=decide (n.val / 2 ^ i % 2=1):=by
 unfold bitN16 partN
 have h:=and_nat (shr_u64 (n.list.getD (i / 16) 0) (i % 16)) 1 1 rfl
 rw [shr_u64_nat _ _ (by have:=Nat.mod_lt i (show 16 > 0 by omega); omega),part_at _ _ hn] at h
 have e1:val16 n.list / 65536 ^ (i / 16) % 65536 / 2 ^ (i % 16) % 2=n.val / 2 ^ i % 2:=by
  rw [mod_div16 _ _ (Nat.mod_lt _ (by omega)),show (65536:Nat)=2 ^ 16 from rfl,← Nat.pow_mul,Nat.div_div_eq_div_mul,← Nat.pow_add,Nat.div_add_mod]; rfl
 rw [Nat.pow_one,e1] at h
 rw [← h]
 generalize shr_u64 (n.list.getD (i / 16) 0) (i % 16) &&& 1=x
 rw [Bool.eq_iff_iff,beq_iff_eq,decide_eq_true_iff]
 exact ⟨fun e=>by rw [e]; rfl,fun e=>UInt64.toNat_inj.1 e⟩
theorem bits_same {a:W4}{n:N16}(hn:n.ok) (e:a.val=n.val) (i:Nat):bitK (bytesW a) i=bitN16 n i:=by
 rw [bitK_val,bitN16_val n hn,bytesW_val,e]
theorem mul_phi (p:P4 E5) (n:W4) (h:noneφ realFe p=false):mulE4 p n=iterG (addφ realFe) (zeroφ realFe) p (bitK (bytesW n)) 256:=by
 unfold mulE4 mulG
 rw [h,cond_false]
theorem bv_bytes (a:W4):bv (bitK (bytesW a)) 256=a.val:=by
 have h:=bv_eq (bitK (bytesW a)) a.val (fun i _=>by rw [bitK_val,bytesW_val]) (Nat.lt_of_lt_of_le a.val_lt (by decide)) 256 (by omega)
 rw [h,Nat.sub_self,Nat.pow_zero,Nat.div_one]
theorem PR.mul {p:P4 E5}{q:P4 N16}{f:P4 Fp}(h:PR p q f){a:W4}{n:N16}(hn:n.ok) (e:a.val=n.val):∃ g,PR (mulE4 p a) (mulN4 q n) g∧aff g=mulA dF (aff f) a.val:=by
 obtain ⟨g,hg,ag⟩:=PR.iter h (b:=bitK (bytesW a)) (c:=bitN16 n) (fun i _=>bits_same hn e i) 256 (by omega)
 rw [bv_bytes] at ag
 rw [mul_phi p a h.some]
 exact ⟨g,hg,ag⟩
end Go.Num
namespace Go.Num
open Go Go.Eng
def xB:Nat:=15112221349535400772501151409588531511454012693041857206046113283949847762202
def yB:Nat:=46316835694926478169428394003475163141307993866256225615783033603165251855960
def uB:Nat:=26187595835145689230469591415084376402084551887632582719101735842039498021991
theorem y_base:leNat (topL baseL)=yB:=by kernel_rfl
theorem y_lt:decide (yB < Pq)=true:=by decide
theorem len_base:isLen baseL 32=true:=by kernel_rfl
theorem odd_base:decOdd baseL=false:=by kernel_rfl
theorem canon_base:canonE (topL baseL)=true:=by
 rw [canonE_eq,canonP_eq,topL_len len_base,y_base,y_lt]; rfl
theorem uval {a b c n:Nat}{x:E5}(v:Vm x (a * b ^ (Pq - 2))) (hn:a * pwE Pq b (Pq - 2) % Pq=c):x.val % Pq=c:=by
 rw [v.val,← hn,pw_inv,Nat.mul_mod_mod]
theorem u_comp:(yB * yB+(Pq - 1 % Pq)) * pwE Pq (dNat * (yB * yB)+1) (Pq - 2) % Pq=uB:=by kernel_rfl
theorem vm_d:Vm (curveφ realFe) dNat:=⟨ofEl_ok _,by
 have:=ofEl_val (s:=dBytes) (by kernel_rfl)
 rw [d_bytes] at this
 exact this⟩
theorem vm_yB:Vm (yφ realFe baseL) yB:=⟨(rel_y len_base).ok,by
 rw [y_phi,ofEl_val (topL_len len_base),y_base]⟩
theorem u_base:(uφ realFe baseL).val % Pq=uB:=by
 have v1:=vm_small 1
 rw [show (1:UInt32).toNat=1 from rfl] at v1
 have vv:=(vm_d.mul (vm_yB.mul vm_yB)).add v1
 rw [← v_phi] at vv
 have vu:=((vm_yB.mul vm_yB).sub v1).mul (vm_inv vv)
 rw [← u_phi] at vu
 exact uval (n:=0) vu u_comp
theorem nhas_base:nHas uB=true:=by kernel_rfl
theorem nroot_base:nRoot uB=xB:=by kernel_rfl
theorem has_base:hasE (uφ realFe baseL)=true:=by rw [has_nat (rel_u len_base).ok,u_base,nhas_base]
theorem dec_base:decRφ realFe baseL=0:=by
 have h:okφ realFe baseL=true:=by rw [ok_phi,canon_base,has_base,odd_base]; rfl
 unfold decRφ
 rw [len_base,h]; rfl
theorem x_base:(xφ realFe baseL).val % Pq=xB:=by
 rw [x_phi,odd_base,cond_false,(root_nat (rel_u len_base).ok).2,u_base,nroot_base]
theorem xB_mod:xB % Pq=xB:=by kernel_rfl
def aB:Fp × Fp:=(toF xB,toF yB)
theorem pr_base:PR (decφ realFe baseL) (decψ realFe baseL) (up aB):=by
 obtain ⟨⟨X,Y⟩,h⟩:=pr_dec dec_base
 have h1:=h.val.1.val
 have h2:=h.val.2.1.val
 rw [dec_phi dec_base] at h1 h2
 have e1:toF (xφ realFe baseL).val=X:=h1
 have e2:toF (yφ realFe baseL).val=Y:=h2
 have e3:toF (xφ realFe baseL).val=toF xB:=toF_eq.2 (x_base.trans xB_mod.symm)
 have e4:toF (yφ realFe baseL).val=toF yB:=toF_eq.2 vm_yB.val
 have e5:(X,Y)=aB:=by unfold aB; rw [← e1,← e2,e3,e4]
 rw [← e5]
 exact h
structure Rm (n:Nat) (f:Fp):Prop where
 lt:n < Pq
 val:toF n=f
theorem rm_mod {n:Nat}{f:Fp}(h:toF n=f):Rm (n % Pq) f:=⟨Nat.mod_lt _ Pq_pos,by rw [← h]; exact toF_eq.2 (Nat.mod_mod _ _)⟩
theorem small_lt (n:UInt32):n.toNat < Pq:=Nat.lt_trans n.toNat_lt (by decide)
theorem keeps_MF:Keeps opsM opsF Rm where
 add:=fun {a b x y} h k=>rm_mod (by rw [toF_add,h.val,k.val]; rfl)
 sub:=fun {a b x y} h k=>rm_mod (by
  have e:Pq - b=Pq - b % Pq:=by rw [Nat.mod_eq_of_lt k.lt]
  rw [e,toF_sub,h.val,k.val]; rfl)
 mul:=fun {a b x y} h k=>rm_mod (by rw [toF_mul,h.val,k.val]; rfl)
 small:=fun n=>⟨small_lt n,rfl⟩
 zero:=⟨Pq_pos,toF_nil⟩
theorem iter_keeps {R S:Type}{o:Ops R}{o':Ops S}{r:R→S→Prop}(k:Keeps o o' r){p z:P4 R}{p' z':P4 S}{d:R}{d':S}(hd:r d d') (hp:R4 r p p') (hz:R4 r z z') (b:Nat→Bool):∀ j,R4 r (iterG (addO o d) z p b j) (iterG (addO o' d') z' p' b j)
 | 0=>hz
 | j+1=>by
  have ih:=iter_keeps k hd hp hz b j
  have h2:=add_keeps k hd ih ih
  unfold iterG
  cases b (255 - j)
  ·exact h2
  ·exact add_keeps k hd h2 hp
theorem iter_on {f:P4 Fp}(h:On dF f) (b:Nat→Bool):∀ j,On dF (iterG (addO opsF dF) zero4 f b j)∧aff (iterG (addO opsF dF) zero4 f b j)=mulA dF (aff f) (bv b j)
 | 0=>⟨On.zero dF,aff_zero⟩
 | j+1=>by
  obtain ⟨hg,ag⟩:=iter_on h b j
  have hm:=on_aff h
  have h2:=hg.add crv hg
  have a2:aff (addO opsF dF (iterG (addO opsF dF) zero4 f b j) (iterG (addO opsF dF) zero4 f b j))=mulA dF (aff f) (bv b j+bv b j):=by rw [aff_add crv hg hg,ag,← mulA_add crv hm]
  unfold iterG bv
  cases b (255 - j)
  ·rw [cond_false,cond_false,Nat.add_zero,Nat.two_mul]
   exact ⟨h2,a2⟩
  ·rw [cond_true,cond_true,Nat.two_mul]
   refine ⟨h2.add crv h,?_⟩
   rw [aff_add crv h2 h,a2]; rfl
def zeroM:P4 Nat:=⟨0,1,1,0⟩
def baseM:P4 Nat:=⟨xB,yB,1,xB * yB % Pq⟩
theorem rm_zero:R4 Rm zeroM zero4:=r4_mk ⟨Pq_pos,toF_nil⟩ ⟨by decide,toF_one⟩ ⟨by decide,toF_one⟩ ⟨Pq_pos,toF_nil⟩
theorem rm_base:R4 Rm baseM (up aB):=r4_mk ⟨by decide,rfl⟩ ⟨by decide,rfl⟩ ⟨by decide,toF_one⟩ (rm_mod (toF_mul _ _))
theorem rm_d:Rm dNat dF:=⟨by decide,rfl⟩
def mulM (n:Nat):P4 Nat:=iterG (addO opsM dNat) zeroM baseM (fun i=>Nat.testBit n i) 256
theorem order_M:((mulM Lq).x == 0 && (mulM Lq).y == (mulM Lq).z)=true:=by kernel_rfl
theorem eight_M:((mulM 8).x == 0)=false:=by kernel_rfl
end Go.Num
namespace Go.Num
open Go Go.Eng
theorem bv_test (n:Nat) (h:n < 2 ^ 256):bv (fun i=>Nat.testBit n i) 256=n:=by
 rw [bv_eq (fun i=>Nat.testBit n i) n (fun i _=>Nat.testBit_eq_decide_div_mod_eq) h 256 (by omega),Nat.sub_self,Nat.pow_zero,Nat.div_one]
theorem zero_iff {f:P4 Fp}(h:On dF f):aff f=zeroA ↔ f.x=0∧f.y=f.z:=by
 rw [← aff_zero,← same_aff h (On.zero dF)]
 have h1:f.x * (zero4).z=f.x:=by show f.x * 1=f.x; grind -lia -linarith (splits:=0)
 have h2:(zero4).x * f.z=0:=by show 0 * f.z=0; grind -lia -linarith (splits:=0)
 have h3:f.y * (zero4).z=f.y:=by show f.y * 1=f.y; grind -lia -linarith (splits:=0)
 have h4:(zero4).y * f.z=f.z:=by show 1 * f.z=f.z; grind -lia -linarith (splits:=0)
 unfold SameP
 rw [h1,h2,h3,h4]
theorem mulM_aff (n:Nat) (h:n < 2 ^ 256):∃ f,R4 Rm (mulM n) f∧On dF f∧aff f=mulA dF aB n:=by
 have hk:=iter_keeps keeps_MF rm_d rm_base rm_zero (fun i=>Nat.testBit n i) 256
 have ho:=iter_on pr_base.on (fun i=>Nat.testBit n i) 256
 rw [bv_test n h,aff_up] at ho
 exact ⟨_,hk,ho.1,ho.2⟩
theorem order_lt:Lq < 2 ^ 256:=by decide
theorem eight_lt:8 < 2 ^ 256:=by decide
theorem order_base:mulA dF aB Lq=zeroA:=by
 obtain ⟨f,hr,ho,ha⟩:=mulM_aff Lq order_lt
 rw [← ha,zero_iff ho]
 have h:=order_M
 generalize mulM Lq=m at h hr
 simp only [Bool.and_eq_true,beq_iff_eq] at h
 have h1:=hr.1.val
 have h2:=hr.2.1.val
 have h3:=hr.2.2.1.val
 rw [h.1,toF_nil] at h1
 rw [h.2] at h2
 exact ⟨h1.symm,h2.symm.trans h3⟩
theorem eight_base:¬ mulA dF aB 8=zeroA:=by
 obtain ⟨f,hr,ho,ha⟩:=mulM_aff 8 eight_lt
 rw [← ha,zero_iff ho]
 intro hz
 have h:=eight_M
 generalize mulM 8=m at h hr
 have h1:=hr.1.val
 rw [hz.1,toF_zero,Nat.mod_eq_of_lt hr.1.lt] at h1
 rw [h1] at h
 cases h
theorem order_mod (n:Nat):mulA dF aB (n % Lq)=mulA dF aB n:=mulA_mod crv (by have:=on_aff pr_base.on; rw [aff_up] at this; exact this) order_base n
theorem fi_add:realFi.add=addφ realFe:=by simp only [realFi]
theorem fi_same:realFi.same=sameφ realFe:=by simp only [realFi]
theorem fi_zero:realFi.zero=zeroφ realFe:=by simp only [realFi]
theorem fi_bytes:realFi.bytes=bytesφ realFe:=by simp only [realFi]
theorem fi_dec:realFi.dec=decφ realFe:=by simp only [realFi]
theorem fi_decR:realFi.decR=decRφ realFe:=by simp only [realFi]
theorem fi_mul:realFi.mul=mulE4:=by simp only [realFi]
theorem fi_addQ:realFi.addQ=addψ realFe:=by simp only [realFi]
theorem fi_sameQ:realFi.sameQ=sameψ realFe:=by simp only [realFi]
theorem fi_zeroQ:realFi.zeroQ=zeroψ realFe:=by simp only [realFi]
theorem fi_bytesQ:realFi.bytesQ=bytesψ realFe:=by simp only [realFi]
theorem fi_decQ:realFi.decQ=decψ realFe:=by simp only [realFi]
theorem fi_decRQ:realFi.decRQ=decRψ realFe:=by simp only [realFi]
theorem fi_mulQ:realFi.mulQ=mulN4:=by simp only [realFi]
theorem fi_okQ:realFi.okQ=okQ0 realFe:=by simp only [realFi]
abbrev PI:=PR
theorem pi_base:PI realFi.base realFi.baseQ (up aB):=by
 rw [base_eq,baseQ_eq,fi_dec,fi_decQ]; exact pr_base
theorem pi_zero:PI realFi.zero realFi.zeroQ zero4:=by rw [fi_zero,fi_zeroQ]; exact pr_zero
theorem pi_add {p p':P4 E5}{q q':P4 N16}{f f':P4 Fp}(h:PI p q f) (k:PI p' q' f'):PI (realFi.add p p') (realFi.addQ q q') (addO opsF dF f f'):=by rw [fi_add,fi_addQ]; exact h.add k
theorem pi_ok {p:P4 E5}{q:P4 N16}{f:P4 Fp}(h:PI p q f):realFi.okQ q=true:=by rw [fi_okQ]; exact h.ok
theorem pi_bytes {p:P4 E5}{q:P4 N16}{f:P4 Fp}(h:PI p q f):realFi.bytes p=realFi.bytesQ q:=by rw [fi_bytes,fi_bytesQ]; exact h.bytes
theorem pi_same {p p':P4 E5}{q q':P4 N16}{f f':P4 Fp}(h:PI p q f) (k:PI p' q' f'):realFi.same p p'=realFi.sameQ q q':=by rw [fi_same,fi_sameQ]; exact h.same k
theorem pi_iff {p p':P4 E5}{q q':P4 N16}{f f':P4 Fp}(h:PI p q f) (k:PI p' q' f'):realFi.same p p'=true ↔ aff f=aff f':=by rw [fi_same]; exact h.same_iff k
theorem pi_dec {s:List UInt8}(h:realFi.decR s=0):∃ a:Fp × Fp,PI (realFi.dec s) (realFi.decQ s) (up a):=by
 rw [fi_decR] at h; rw [fi_dec,fi_decQ]; exact pr_dec h
theorem pi_mul {p:P4 E5}{q:P4 N16}{f:P4 Fp}(h:PI p q f){a:W4}{n:N16}(hn:n.ok) (e:a.val=n.val):∃ g,PI (realFi.mul p a) (realFi.mulQ q n) g∧aff g=mulA dF (aff f) a.val:=by rw [fi_mul,fi_mulQ]; exact h.mul hn e
theorem pi_mulW {p:P4 E5}{q:P4 N16}{f:P4 Fp}(h:PI p q f) (a:W4):∃ q' g,PI (realFi.mul p a) q' g∧aff g=mulA dF (aff f) a.val:=by
 obtain ⟨o,e⟩:=partsN_val (bytesW a) (bytesW_len a)
 obtain ⟨g,hg,ag⟩:=pi_mul h (a:=a) o (by rw [e,bytesW_val])
 exact ⟨_,g,hg,ag⟩
theorem pi_aff {p p':P4 E5}{q q':P4 N16}{f f':P4 Fp}(h:PI p q f) (k:PI p' q' f'):aff (addO opsF dF f f')=addA dF (aff f) (aff f'):=aff_add crv h.on k.on
theorem fi_rsame (s:List UInt8):realFi.decR s=realFi.decRQ s:=by rw [fi_decR,fi_decRQ]; exact decR_same s
end Go.Num
namespace Go.Num
open Go Go.Eng
theorem on_aB:OnA dF aB:=by have:=on_aff pr_base.on; rw [aff_up] at this; exact this
theorem b_mul (a:W4):∃ q' g,PI (realFi.mul realFi.base a) q' g∧aff g=mulA dF aB a.val:=by
 have:=pi_mulW pi_base a
 rw [aff_up] at this
 exact this
theorem fi_sadd:realFi.sadd=addW:=by simp only [realFi]
theorem fi_smul:realFi.smul=mulW:=by simp only [realFi]
end Go.Num
namespace Go.Num
open Go Go.Eng
theorem leNat_ge:∀ (l:List UInt8) (i:Nat),i < l.length→(l.getD i 0).toNat * 256 ^ i≤leNat l
 | [],i,h=>by simp at h
 | b::l,0,_=>by
  show b.toNat * 1≤b.toNat+256 * leNat l
  omega
 | b::l,i+1,h=>by
  have ih:=leNat_ge l i (by simpa using h)
  show (l.getD i 0).toNat * 256 ^ (i+1)≤b.toNat+256 * leNat l
  rw [Nat.pow_succ]
  have e:(l.getD i 0).toNat * (256 ^ i * 256)=(l.getD i 0).toNat * 256 ^ i * 256:=by rw [Nat.mul_assoc]
  rw [e]
  omega
theorem bytes_top (y:E5):((bytesE y).getD 31 0).toNat < 128:=by
 have h:=leNat_ge (bytesE y) 31 (by rw [bytesE_len]; omega)
 rw [bytesE_val] at h
 have h2:y.val % Pq < Pq:=Nat.mod_lt _ Pq_pos
 have h3:Pq≤128 * 256 ^ 31:=by decide
 generalize 256 ^ 31=m at h h3
 generalize y.val % Pq=v at h h2
 generalize ((bytesE y).getD 31 0).toNat=b at h ⊢
 rcases Nat.lt_or_ge b 128 with h4 | h4
 ·exact h4
 ·have:=Nat.mul_le_mul_right m h4
  omega
theorem top_low (b:UInt8) (h:b.toNat < 128):(b &&& 127)=b∧(shr_u8 b 7 == 1)=false∧((b ||| 128) &&& 127)=b∧(shr_u8 (b ||| 128) 7 == 1)=true:=by
 have:=all8 (f:=fun b => !(decide (b.toNat < 128)) || ((b &&& 127) == b && (!(shr_u8 b 7 == 1) && (((b ||| 128) &&& 127) == b && (shr_u8 (b ||| 128) 7 == 1))))) (by kernel_rfl) b
 simp only [decide_eq_true h,Bool.not_true,Bool.false_or,Bool.and_eq_true,Bool.not_eq_true',beq_iff_eq] at this
 obtain ⟨a,b',c,d⟩:=this
 exact ⟨a,by simpa using b',c,by simpa using d⟩
theorem top_of {l:List UInt8}(hl:l.length=32) (hb:(l.getD 31 0).toNat < 128) (d:Bool):topL (cond d (top128 l) l)=l∧decOdd (cond d (top128 l) l)=d∧(cond d (top128 l) l).length=32:=by
 obtain ⟨a1,a2,a3,a4⟩:=top_low _ hb
 cases d with
 | false =>
  refine ⟨?_,?_,hl⟩
  ·show l.set 31 (l.getD 31 0 &&& 127)=l
   rw [a1,set_back l hl]
  ·exact a2
 | true =>
  refine ⟨?_,?_,?_⟩
  ·show (l.set 31 (l.getD 31 0 ||| 128)).set 31 ((l.set 31 (l.getD 31 0 ||| 128)).getD 31 0 &&& 127)=l
   rw [set_get l hl,a3,List.set_set,set_back l hl]
  ·show (shr_u8 ((l.set 31 (l.getD 31 0 ||| 128)).getD 31 0) 7 == 1)=true
   rw [set_get l hl,a4]
  ·show (l.set 31 _).length=32
   rw [List.length_set,hl]
theorem isLen_of {l:List UInt8}(h:l.length=32):isLen l 32=true:=by
 unfold isLen
 rw [h]
 rfl
theorem canon_bytesE (y:E5):canonE (bytesE y)=true:=by
 rw [canonE_eq,canonP_eq,isLen_of (bytesE_len y),Bool.true_and,bytesE_val]
 exact decide_eq_true (Nat.mod_lt _ Pq_pos)
theorem re_of_bytes {y:E5}{Y:Fp}(h:Re y Y):Re (ofEl (bytesE y)) Y:=by
 refine ⟨ofEl_ok _,?_⟩
 rw [← h.val]
 refine toF_eq.2 ?_
 rw [ofEl_val (isLen_of (bytesE_len y)),bytesE_val,Nat.mod_mod]
theorem lit9 (d x y v w:Fp) (hv:v=d * (y * y)+1) (hw:v * w=1) (h:y * y - x * x=1+d * (x * y) * (x * y)):x * x=(y * y - 1) * w:=by grind -lia -linarith (splits:=0)
theorem lit10 (a b z:Fp) (hz:z=0) (h:a * a=b * b):(a - b) * (a+b)=z:=by grind -lia -linarith (splits:=0)
theorem lit11 (a b:Fp) (h:a - b=0):a=b:=by grind -lia -linarith (splits:=0)
theorem lit12 (a b:Fp) (h:a+b=0):a = -b:=by grind -lia -linarith (splits:=0)
theorem lit13 (a b:Fp) (h:a = -b):b = -a:=by grind -lia -linarith (splits:=0)
theorem lit14 (a:Fp) (h:a=0):-a=a:=by grind -lia -linarith (splits:=0)
theorem sq_cases {a b:Fp}(h:a * a=b * b):a=b ∨ a = -b:=by
 by_cases h1:a - b=0
 ·exact .inl (lit11 a b h1)
 ·by_cases h2:a+b=0
  ·exact .inr (lit12 a b h2)
  ·exact absurd (lit10 a b 0 rfl h) (F_mul_ne h1 h2)
theorem has_of_sq {u:E5}{U X:Fp}(hu:Re u U) (h:X * X=U):hasE u=true:=by
 by_cases h0:u.val % Pq=0
 ·exact (has_zero hu.ok h0).1
 ·have hX:X.val % Pq ≠ 0:=fun e=>h0 (by
   have eX:X=0:=by rw [← toF_self X]; exact toF_zero.2 e
   have:toF u.val=0:=by rw [hu.val,← h,eX]; exact Fin.ext (by rw [Fin.val_mul]; exact Nat.mod_eq_of_lt (by decide))
   exact toF_zero.1 this)
  obtain ⟨j,hj⟩:=genP.rep hX
  have hk:2 ^ (j+j) % Pq=u.val % Pq:=by
   rw [Nat.pow_add,Nat.mul_mod,hj,← Nat.mul_mod]
   refine toF_eq.1 ?_
   rw [toF_mul,toF_self,h,hu.val]
  rw [has_iff hu.ok h0 hk]
  exact decide_eq_true (by omega)
theorem dec_of {x y:E5}{X Y:Fp}(ex:Re x X) (ey:Re y Y) (ho:OnA dF (X,Y)):decRφ realFe (cond (oddE x) (top128 (bytesE y)) (bytesE y))=0∧∃ g,PR (decφ realFe (cond (oddE x) (top128 (bytesE y)) (bytesE y))) (decψ realFe (cond (oddE x) (top128 (bytesE y)) (bytesE y))) g∧aff g=(X,Y):=by
 obtain ⟨t1,t2,t3⟩:=top_of (bytesE_len y) (bytes_top y) (oddE x)
 generalize cond (oddE x) (top128 (bytesE y)) (bytesE y)=s at t1 t2 t3 ⊢
 have hl:=isLen_of t3
 have e1:Re (yφ realFe s) Y:=by rw [y_phi,t1]; exact re_of_bytes ey
 have ev:=re_add (re_mul re_d (re_mul e1 e1)) re_one
 rw [← v_phi] at ev
 have hv:=v_ne crv (Y:=Y)
 have eu:=re_mul (re_sub (re_mul e1 e1) re_one) (re_inv ev hv)
 rw [← u_phi] at eu
 have hU:X * X=(Y * Y - 1) * invF (dF * (Y * Y)+1):=lit9 dF X Y _ _ rfl (invF_mul hv) ho
 have hh:=has_of_sq eu hU
 have hsq:=root_sq (rel_u hl).ok hh
 have hrok:=(root_nat (rel_u hl).ok).1
 have hodd:=root_even (rel_u hl).ok
 have er:=re_val hrok
 have key:Re (cond (oddE x) (negE (rootE (uφ realFe s))) (rootE (uφ realFe s))) X∧(oddE x=true→sameE (rootE (uφ realFe s)) zeroE=false):=by
  generalize toF (rootE (uφ realFe s)).val=R at er
  rw [re_same (re_mul er er) eu] at hsq
  have hR:R * R=X * X:=(of_decide_eq_true hsq).trans hU.symm
  have same:R=X→Re (cond (oddE x) (negE (rootE (uφ realFe s))) (rootE (uφ realFe s))) X∧(oddE x=true→sameE (rootE (uφ realFe s)) zeroE=false):=fun e=>by
   subst e
   have ho:oddE x=false:=(re_odd ex er).trans hodd
   rw [ho,cond_false]
   exact ⟨er,fun h=>by cases h⟩
  rcases sq_cases hR with e | e
  ·exact same e
  ·cases h0:sameE (rootE (uφ realFe s)) zeroE with
   | true =>
    have h1:=h0
    rw [re_same er re_zero] at h1
    have hR0:=of_decide_eq_true h1
    have h2:=same (by rw [lit13 R X e,hR0]; exact (lit14 0 rfl).symm)
    rw [h0] at h2
    exact h2
   | false =>
    have er2:=re_neg er
    rw [← lit13 R X e] at er2
    have ho:oddE x=true:=(re_odd ex er2).trans (odd_neg hrok hodd h0)
    rw [ho,cond_true]
    exact ⟨er2,fun _=>rfl⟩
 have hok:okφ realFe s=true:=by
  rw [ok_phi,t1,canon_bytesE,hh,t2]
  cases hd:oddE x with
  | false=>simp only [cond_true,cond_false]
  | true=>rw [key.2 hd]; simp only [cond_true,Bool.not_false]
 have hdr:decRφ realFe s=0:=by
  unfold decRφ
  rw [hl,hok,cond_true,cond_true]
 refine ⟨hdr,?_⟩
 obtain ⟨a,pr⟩:=pr_dec hdr
 refine ⟨up a,pr,?_⟩
 rw [aff_up]
 have v:=pr.val
 rw [dec_phi hdr] at v
 have v1:Re (xφ realFe s) a.1:=v.1
 have v2:Re (yφ realFe s) a.2:=v.2.1
 have k1:=key.1
 rw [← t2,← x_phi] at k1
 exact Prod.ext (v1.val.symm.trans k1.val) (v2.val.symm.trans e1.val)
theorem PR.back {p:P4 E5}{q:P4 N16}{f:P4 Fp}(h:PR p q f):decRφ realFe (bytesφ realFe p)=0∧∃ g,PR (decφ realFe (bytesφ realFe p)) (decψ realFe (bytesφ realFe p)) g∧aff g=aff f:=by
 rw [bytes_phi p h.some]
 obtain ⟨hx,hy,hz,_⟩:=h.val
 have ez:=re_inv hz h.on.z
 exact dec_of (re_mul hx ez) (re_mul hy ez) (on_aff h.on)
end Go.Num
namespace Go.Num
open Go Go.Eng
theorem k_alg (d x y:Fp) (hc:y * y - x * x=1+d * (x * y) * (x * y)):x * x * (1+d * (y * y))=y * y - 1:=by grind -lia -linarith (splits:=0)
theorem k_ne {d i:Fp}(h:Crv d i){a:Fp × Fp}(ha:OnA d a):1+d * (a.2 * a.2) ≠ 0:=by
 intro e
 have h1:=k_alg d a.1 a.2 ha
 rw [e] at h1
 generalize a.2 * a.2=b at e h1
 have h2:b=1:=by grind -lia -linarith (splits:=0)
 have h3:d = -1:=by rw [h2] at e; grind -lia -linarith (splits:=0)
 exact h.ns i (by rw [h.ii,h3])
end Go.Num
namespace Go.Num
theorem gen1257559732178653:Gen 1257559732178653 2:=gen_cert 1257559732178653 2 [2,2,3,7,23,531581,1224481] (fun q hq=>by
 simp only [List.mem_cons,List.mem_nil_iff,or_false] at hq
 rcases hq with rfl | rfl | rfl | rfl | rfl | rfl | rfl
 ·exact (irr_small 2 2000 rfl (by kernel_rfl))
 ·exact (irr_small 2 2000 rfl (by kernel_rfl))
 ·exact (irr_small 3 2000 rfl (by kernel_rfl))
 ·exact (irr_small 7 2000 rfl (by kernel_rfl))
 ·exact (irr_small 23 2000 rfl (by kernel_rfl))
 ·exact (irr_small 531581 2000 rfl (by kernel_rfl))
 ·exact (irr_small 1224481 2000 rfl (by kernel_rfl))
 ) (by kernel_rfl)
theorem irr1257559732178653:Irr 1257559732178653:=gen1257559732178653.irr
theorem gen4434155615661930479:Gen 4434155615661930479 17:=gen_cert 4434155615661930479 17 [2,41,43,1257559732178653] (fun q hq=>by
 simp only [List.mem_cons,List.mem_nil_iff,or_false] at hq
 rcases hq with rfl | rfl | rfl | rfl
 ·exact (irr_small 2 2000 rfl (by kernel_rfl))
 ·exact (irr_small 41 2000 rfl (by kernel_rfl))
 ·exact (irr_small 43 2000 rfl (by kernel_rfl))
 ·exact (irr1257559732178653)
 ) (by kernel_rfl)
theorem irr4434155615661930479:Irr 4434155615661930479:=gen4434155615661930479.irr
theorem gen172054593956031949258510691:Gen 172054593956031949258510691 2:=gen_cert 172054593956031949258510691 2 [2,5,1361,2851,4434155615661930479] (fun q hq=>by
 simp only [List.mem_cons,List.mem_nil_iff,or_false] at hq
 rcases hq with rfl | rfl | rfl | rfl | rfl
 ·exact (irr_small 2 2000 rfl (by kernel_rfl))
 ·exact (irr_small 5 2000 rfl (by kernel_rfl))
 ·exact (irr_small 1361 2000 rfl (by kernel_rfl))
 ·exact (irr_small 2851 2000 rfl (by kernel_rfl))
 ·exact (irr4434155615661930479)
 ) (by kernel_rfl)
theorem irr172054593956031949258510691:Irr 172054593956031949258510691:=gen172054593956031949258510691.irr
theorem gen292386187:Gen 292386187 2:=gen_cert 292386187 2 [2,3,3,3,3,307,5879] (fun q hq=>by
 simp only [List.mem_cons,List.mem_nil_iff,or_false] at hq
 rcases hq with rfl | rfl | rfl | rfl | rfl | rfl | rfl
 ·exact (irr_small 2 2000 rfl (by kernel_rfl))
 ·exact (irr_small 3 2000 rfl (by kernel_rfl))
 ·exact (irr_small 3 2000 rfl (by kernel_rfl))
 ·exact (irr_small 3 2000 rfl (by kernel_rfl))
 ·exact (irr_small 3 2000 rfl (by kernel_rfl))
 ·exact (irr_small 307 2000 rfl (by kernel_rfl))
 ·exact (irr_small 5879 2000 rfl (by kernel_rfl))
 ) (by kernel_rfl)
theorem irr292386187:Irr 292386187:=gen292386187.irr
theorem gen213441916511:Gen 213441916511 13:=gen_cert 213441916511 13 [2,5,73,292386187] (fun q hq=>by
 simp only [List.mem_cons,List.mem_nil_iff,or_false] at hq
 rcases hq with rfl | rfl | rfl | rfl
 ·exact (irr_small 2 2000 rfl (by kernel_rfl))
 ·exact (irr_small 5 2000 rfl (by kernel_rfl))
 ·exact (irr_small 73 2000 rfl (by kernel_rfl))
 ·exact (irr292386187)
 ) (by kernel_rfl)
theorem irr213441916511:Irr 213441916511:=gen213441916511.irr
theorem gen19757330305831588566944191468367130476339:Gen 19757330305831588566944191468367130476339 2:=gen_cert 19757330305831588566944191468367130476339 2 [2,269,213441916511,172054593956031949258510691] (fun q hq=>by
 simp only [List.mem_cons,List.mem_nil_iff,or_false] at hq
 rcases hq with rfl | rfl | rfl | rfl
 ·exact (irr_small 2 2000 rfl (by kernel_rfl))
 ·exact (irr_small 269 2000 rfl (by kernel_rfl))
 ·exact (irr213441916511)
 ·exact (irr172054593956031949258510691)
 ) (by kernel_rfl)
theorem irr19757330305831588566944191468367130476339:Irr 19757330305831588566944191468367130476339:=gen19757330305831588566944191468367130476339.irr
theorem gen276602624281642239937218680557139826668747:Gen 276602624281642239937218680557139826668747 2:=gen_cert 276602624281642239937218680557139826668747 2 [2,7,19757330305831588566944191468367130476339] (fun q hq=>by
 simp only [List.mem_cons,List.mem_nil_iff,or_false] at hq
 rcases hq with rfl | rfl | rfl
 ·exact (irr_small 2 2000 rfl (by kernel_rfl))
 ·exact (irr_small 7 2000 rfl (by kernel_rfl))
 ·exact (irr19757330305831588566944191468367130476339)
 ) (by kernel_rfl)
theorem irr276602624281642239937218680557139826668747:Irr 276602624281642239937218680557139826668747:=gen276602624281642239937218680557139826668747.irr
theorem gen3044861653679985063343:Gen 3044861653679985063343 5:=gen_cert 3044861653679985063343 5 [2,3,11,30703,82163,132667,137849] (fun q hq=>by
 simp only [List.mem_cons,List.mem_nil_iff,or_false] at hq
 rcases hq with rfl | rfl | rfl | rfl | rfl | rfl | rfl
 ·exact (irr_small 2 2000 rfl (by kernel_rfl))
 ·exact (irr_small 3 2000 rfl (by kernel_rfl))
 ·exact (irr_small 11 2000 rfl (by kernel_rfl))
 ·exact (irr_small 30703 2000 rfl (by kernel_rfl))
 ·exact (irr_small 82163 2000 rfl (by kernel_rfl))
 ·exact (irr_small 132667 2000 rfl (by kernel_rfl))
 ·exact (irr_small 137849 2000 rfl (by kernel_rfl))
 ) (by kernel_rfl)
theorem irr3044861653679985063343:Irr 3044861653679985063343:=gen3044861653679985063343.irr
theorem gen14741173:Gen 14741173 2:=gen_cert 14741173 2 [2,2,3,3,409477] (fun q hq=>by
 simp only [List.mem_cons,List.mem_nil_iff,or_false] at hq
 rcases hq with rfl | rfl | rfl | rfl | rfl
 ·exact (irr_small 2 2000 rfl (by kernel_rfl))
 ·exact (irr_small 2 2000 rfl (by kernel_rfl))
 ·exact (irr_small 3 2000 rfl (by kernel_rfl))
 ·exact (irr_small 3 2000 rfl (by kernel_rfl))
 ·exact (irr_small 409477 2000 rfl (by kernel_rfl))
 ) (by kernel_rfl)
theorem irr14741173:Irr 14741173:=gen14741173.irr
theorem gen58964693:Gen 58964693 2:=gen_cert 58964693 2 [2,2,14741173] (fun q hq=>by
 simp only [List.mem_cons,List.mem_nil_iff,or_false] at hq
 rcases hq with rfl | rfl | rfl
 ·exact (irr_small 2 2000 rfl (by kernel_rfl))
 ·exact (irr_small 2 2000 rfl (by kernel_rfl))
 ·exact (irr14741173)
 ) (by kernel_rfl)
theorem irr58964693:Irr 58964693:=gen58964693.irr
theorem gen198211423230930754013084525763697:Gen 198211423230930754013084525763697 5:=gen_cert 198211423230930754013084525763697 5 [2,2,2,2,3,23,58964693,3044861653679985063343] (fun q hq=>by
 simp only [List.mem_cons,List.mem_nil_iff,or_false] at hq
 rcases hq with rfl | rfl | rfl | rfl | rfl | rfl | rfl | rfl
 ·exact (irr_small 2 2000 rfl (by kernel_rfl))
 ·exact (irr_small 2 2000 rfl (by kernel_rfl))
 ·exact (irr_small 2 2000 rfl (by kernel_rfl))
 ·exact (irr_small 2 2000 rfl (by kernel_rfl))
 ·exact (irr_small 3 2000 rfl (by kernel_rfl))
 ·exact (irr_small 23 2000 rfl (by kernel_rfl))
 ·exact (irr58964693)
 ·exact (irr3044861653679985063343)
 ) (by kernel_rfl)
theorem irr198211423230930754013084525763697:Irr 198211423230930754013084525763697:=gen198211423230930754013084525763697.irr
theorem gen7237005577332262213973186563042994240857116359379907606001950938285454250989:Gen 7237005577332262213973186563042994240857116359379907606001950938285454250989 2:=gen_cert 7237005577332262213973186563042994240857116359379907606001950938285454250989 2 [2,2,3,11,198211423230930754013084525763697,276602624281642239937218680557139826668747] (fun q hq=>by
 simp only [List.mem_cons,List.mem_nil_iff,or_false] at hq
 rcases hq with rfl | rfl | rfl | rfl | rfl | rfl
 ·exact (irr_small 2 2000 rfl (by kernel_rfl))
 ·exact (irr_small 2 2000 rfl (by kernel_rfl))
 ·exact (irr_small 3 2000 rfl (by kernel_rfl))
 ·exact (irr_small 11 2000 rfl (by kernel_rfl))
 ·exact (irr198211423230930754013084525763697)
 ·exact (irr276602624281642239937218680557139826668747)
 ) (by kernel_rfl)
end Go.Num
namespace Go.Num
open Go Go.Eng
theorem clamp_val {k:List UInt8}(h:isLen k 32=true):leNat (clampL k) % 8=0∧2 ^ 254≤leNat (clampL k)∧leNat (clampL k) < 2 ^ 255:=by
 rw [isLen_eq] at h
 obtain ⟨a,m,b,rfl,hm⟩:∃ a m b,k=a::(m++[b])∧m.length=30:=by
  match k,h with
  | a::l,h =>
   have h1:l.length=31:=by simpa using h
   refine ⟨a,l.take 30,l.getD 30 0,?_,by rw [List.length_take]; omega⟩
   have h2:l.drop 30=[l.getD 30 0]:=by
    rw [List.drop_eq_getElem_cons (by omega),List.drop_of_length_le (by omega)]
    rw [List.getD_eq_getElem?_getD,List.getElem?_eq_getElem (by omega)]; rfl
   rw [← h2,List.take_append_drop]
 have e:clampL (a::(m++[b]))=(a &&& 248)::(m++[(b &&& 127) ||| 64]):=by
  unfold clampL
  have g1:(a::(m++[b])).getD 31 0=b:=by
   rw [List.getD_eq_getElem?_getD,List.getElem?_cons_succ,List.getElem?_append_right (by omega),hm]; rfl
  rw [g1]
  show ((a &&& 248)::(m++[b])).set 31 _=_
  rw [List.set_cons_succ,List.set_append_right _ _ (by omega),hm]; rfl
 rw [e]
 have hb:=leNat_bound m
 rw [hm] at hb
 have s1:leNat ((a &&& 248)::(m++[(b &&& 127) ||| 64]))=(a &&& 248).toNat+256 * (leNat m+256 ^ 30 * ((b &&& 127) ||| 64).toNat):=by
  show (a &&& 248).toNat+256 * leNat (m++[(b &&& 127) ||| 64])=_
  rw [leNat_app2,hm]
  rfl
 have k1:=all8 (f:=fun x=>(x &&& 248).toNat % 8 == 0) (by kernel_rfl) a
 have k2:=all8 (f:=fun x=>Nat.ble 64 ((x &&& 127) ||| 64).toNat && Nat.ble ((x &&& 127) ||| 64).toNat 127) (by kernel_rfl) b
 simp only [beq_iff_eq] at k1
 simp only [Bool.and_eq_true,Nat.ble_eq] at k2
 have k3:=(a &&& 248).toNat_lt
 rw [s1]
 generalize (a &&& 248).toNat=x at *
 generalize ((b &&& 127) ||| 64).toNat=y at *
 generalize leNat m=z at *
 simp only [Nat.reducePow] at *
 omega
theorem genL:Gen Lq 2:=gen7237005577332262213973186563042994240857116359379907606001950938285454250989
theorem L3:3≤Lq:=by decide
theorem L_mul {a b:Nat}(h:a * b % Lq=0):a % Lq=0 ∨ b % Lq=0:=by
 by_cases ha:a % Lq=0
 ·exact .inl ha
 ·exact .inr (by
   have:=genL.cancel L3 ha (s:=b) (t:=0) (by rw [h,Nat.mul_zero,Nat.zero_mod])
   rw [this,Nat.zero_mod])
theorem L_8:¬ 8 % Lq=0:=by decide
theorem L_big:2 ^ 252 < Lq:=by decide
theorem clamp_L {k:List UInt8}(h:isLen k 32=true):¬ leNat (clampL k) % Lq=0:=by
 obtain ⟨h1,h2,h3⟩:=clamp_val h
 generalize leNat (clampL k)=n at *
 intro e
 have e2:n=8 * (n / 8):=by omega
 rw [e2] at e
 have e3:=(L_mul e).resolve_left L_8
 have lb:=L_big
 have lt:n / 8 < Lq:=by
  simp only [Nat.reducePow] at h3 lb
  omega
 rw [Nat.mod_eq_of_lt lt] at e3
 simp only [Nat.reducePow] at h2
 omega
end Go.Num
namespace Go.Sgn
open Go Go.Eng Go.Num
theorem pi_back {p:P4 E5}{q:P4 N16}{f:P4 Fp}(h:PI p q f):(realFi.bytes p).length=32∧realFi.decR (realFi.bytes p)=0∧∃ q' g,PI (realFi.dec (realFi.bytes p)) q' g∧aff g=aff f:=by
 rw [fi_bytes,fi_decR,fi_dec]
 obtain ⟨a,g,b,c⟩:=PR.back h
 refine ⟨?_,a,_,g,b,c⟩
 rw [bytes_phi p (PR.some h)]
 exact (top_of (bytesE_len _) (bytes_top _) _).2.2
theorem small_iff {p:P4 E5}{q:P4 N16}{f:P4 Fp}(h:PI p q f):realFi.small p=true ↔ mulA dF (aff f) 8=Num.zeroA:=by
 have h2:=pi_add h h
 have h4:=pi_add h2 h2
 have h8:=pi_add h4 h4
 have hf:OnA dF (aff f):=on_aff h.on
 rw [small_eq]
 unfold smallG
 rw [pi_iff h8 pi_zero,pi_aff h4 h4,pi_aff h2 h2,pi_aff h h,aff_zero]
 have e2:mulA dF (aff f) 2=addA dF (aff f) (aff f):=by
  have:=mulA_add crv hf 1 1
  rw [mulA_one] at this
  exact this
 have e4:=mulA_add crv hf 2 2
 have e8:=mulA_add crv hf 4 4
 rw [e2] at e4
 have e4':mulA dF (aff f) 4=addA dF (addA dF (aff f) (aff f)) (addA dF (aff f) (aff f)):=e4
 rw [e4'] at e8
 have e8':mulA dF (aff f) 8=addA dF (addA dF (addA dF (aff f) (aff f)) (addA dF (aff f) (aff f))) (addA dF (addA dF (aff f) (aff f)) (addA dF (aff f) (aff f))):=e8
 rw [e8']
theorem base_ord {n:Nat}(h:mulA dF aB n=Num.zeroA):n % Lq=0:=by
 by_cases h0:n % Lq=0
 ·exact h0
 ·obtain ⟨m,hm⟩:∃ m,n * m % Lq=1:=⟨_,genL.inv (by decide) h0⟩
  have e:=mulA_mul crv on_aB n m
  rw [h,mulA_zero,← order_mod (n * m),hm,mulA_one] at e
  have:=eight_base
  rw [e,mulA_zero] at this
  exact absurd rfl this
theorem base_inj {m n:Nat}(hmn:m≤n) (h:mulA dF aB m=mulA dF aB n):(n - m) % Lq=0:=by
 refine base_ord ?_
 have e:=mulA_add crv on_aB m (n - m)
 rw [show m+(n - m)=n by omega,← h] at e
 have hm:=OnA.mul crv on_aB m
 have hk:=OnA.mul crv on_aB (n - m)
 generalize mulA dF aB m=P at e hm
 generalize mulA dF aB (n - m)=Q at e hk ⊢
 have e2:addA dF (negA P) P=addA dF (negA P) (addA dF P Q):=congrArg (addA dF (negA P)) e
 rw [← addA_assoc crv hm.neg hm hk,addA_comm dF (negA P) P,addA_neg crv hm,zero_addA] at e2
 exact e2.symm
section
variable (hs:List UInt8→List UInt8)
def keyW (s:List UInt8):W4:=realFi.sof (clampV ((hs s).take 32))
def numW (l:List UInt8):W4:=realFi.sof (hs l)
def pubB (s:List UInt8):List UInt8:=realFi.bytes (realFi.mul realFi.base (keyW hs s))
def preB (s:List UInt8):List UInt8:=(hs s).drop 32
def rW (s t:List UInt8):W4:=numW hs (preB hs s++t)
def rB (s t:List UInt8):List UInt8:=realFi.bytes (realFi.mul realFi.base (rW hs s t))
def xW (s t:List UInt8):W4:=realFi.sadd (rW hs s t) (realFi.smul (numW hs (rB hs s t++(pubB hs s++t))) (keyW hs s))
def sigB (s t:List UInt8):List UInt8:=rB hs s t++realFi.sby (xW hs s t)
def verP (p t x:List UInt8):Bool:=cond (isLen x 64 && canonW (x.drop 32)) (cond (decide (realFi.decR p=0) && (decide (realFi.decR (x.take 32)=0) && !realFi.small (realFi.dec p))) (realFi.same (realFi.mul realFi.base (realFi.sof (x.drop 32))) (realFi.add (realFi.dec (x.take 32)) (realFi.mul (realFi.dec p) (numW hs (x.take 32++(p++t)))))) false) false
end
theorem fi_sof:realFi.sof=oV:=by simp only [realFi]
theorem fi_sby:realFi.sby=bytesW:=by simp only [realFi]
theorem okL32 {l:List UInt8}(h:l.length=32):okL l=true:=by unfold okL; rw [h]; rfl
theorem okL64 {l:List UInt8}(h:l.length=64):okL l=true:=by unfold okL; rw [h]; rfl
theorem sof_val {l:List UInt8}(h:okL l=true):(realFi.sof l).val=leNat l % Lq:=by rw [fi_sof,oV_ok h,ofW_val]
theorem sof_lt' {l:List UInt8}(h:okL l=true):(realFi.sof l).val < Lq:=by
 rw [sof_val h]
 exact Nat.mod_lt _ Lq_pos
section
variable {hs:List UInt8→List UInt8}(h64:∀ l,(hs l).length=64)
include h64
theorem num_lt (l:List UInt8):(numW hs l).val < Lq:=sof_lt' (okL64 (h64 l))
theorem key_val (s:List UInt8):(keyW hs s).val < Lq∧(keyW hs s).val ≠ 0:=by
 have hl:((hs s).take 32).length=32:=by rw [List.length_take,h64]; omega
 have hi:=isLen_of hl
 have e:clampV ((hs s).take 32)=clampL ((hs s).take 32):=by unfold clampV; rw [hi]; rfl
 have hc:(clampL ((hs s).take 32)).length=32:=by unfold clampL; rw [List.length_set,List.length_set]; exact hl
 unfold keyW
 rw [e]
 exact ⟨sof_lt' (okL32 hc),by rw [sof_val (okL32 hc)]; exact clamp_L hi⟩
theorem ver_at (s t u:List UInt8):verP hs (pubB hs s) u (sigB hs s t)=decide (mulA dF aB ((rW hs s t).val+(keyW hs s).val * (numW hs (rB hs s t++(pubB hs s++t))).val)=mulA dF aB ((rW hs s t).val+(keyW hs s).val * (numW hs (rB hs s t++(pubB hs s++u))).val)):=by
 obtain ⟨ka,kb⟩:=key_val h64 s
 obtain ⟨qa,fa,pa,ea⟩:=b_mul (keyW hs s)
 obtain ⟨qr,fr,pr,er⟩:=b_mul (rW hs s t)
 obtain ⟨la,da,qa',ga,pa',ea'⟩:=pi_back pa
 obtain ⟨lr,dr,qr',gr,pr',er'⟩:=pi_back pr
 have lr':(rB hs s t).length=32:=lr
 have rlt:(rW hs s t).val < Lq:=num_lt h64 _
 have hxv:(xW hs s t).val=((rW hs s t).val+(keyW hs s).val * (numW hs (rB hs s t++(pubB hs s++t))).val) % Lq:=by
  unfold xW
  rw [fi_sadd,fi_smul]
  generalize numW hs (rB hs s t++(pubB hs s++t))=k
  have hm:(mulW k (keyW hs s)).val < Lq:=by rw [mulW_val]; exact Nat.mod_lt _ Lq_pos
  rw [addW_val _ _ rlt hm,mulW_val,Nat.add_mod_mod,Nat.mul_comm k.val]
 have hx:(xW hs s t).val < Lq:=by
  rw [hxv]
  exact Nat.mod_lt _ Lq_pos
 have e1:(sigB hs s t).take 32=rB hs s t:=by
  unfold sigB
  rw [← lr',List.take_left']
  rfl
 have e2:(sigB hs s t).drop 32=bytesW (xW hs s t):=by
  unfold sigB
  rw [← lr',List.drop_left',fi_sby]
  rfl
 have e3:isLen (sigB hs s t) 64=true:=by
  have:(sigB hs s t).length=64:=by
   unfold sigB
   rw [List.length_append,lr',fi_sby,bytesW_len]
  unfold isLen
  rw [this]
  rfl
 have hsm:realFi.small (realFi.dec (pubB hs s))=false:=by
  cases hq:realFi.small (realFi.dec (pubB hs s)) with
  | false=>rfl
  | true =>
   have h8:=(small_iff pa').1 hq
   rw [ea',ea,← mulA_mul crv on_aB] at h8
   have:=base_ord h8
   rcases L_mul this with h1 | h1
   ·rw [Nat.mod_eq_of_lt ka] at h1; exact absurd h1 kb
   ·exact absurd h1 L_8
 have sx:(realFi.sof (bytesW (xW hs s t))).val=(xW hs s t).val:=by
  rw [sof_val (okL32 (bytesW_len _)),bytesW_val,Nat.mod_eq_of_lt hx]
 unfold verP
 rw [e1,e2,e3,canon_bytes hx]
 have da':realFi.decR (pubB hs s)=0:=da
 have dr':realFi.decR (rB hs s t)=0:=dr
 rw [da',dr',hsm]
 simp only [Bool.and_self,cond_true,decide_true,Bool.not_false]
 obtain ⟨ql,fl,pl,el⟩:=b_mul (realFi.sof (bytesW (xW hs s t)))
 obtain ⟨qk,fk,pk,ek⟩:=pi_mulW pa' (numW hs (rB hs s t++(pubB hs s++u)))
 have ps:=pi_add pr' pk
 have hi:=pi_iff pl ps
 rw [pi_aff pr' pk,el,er',er,ek,ea',ea,sx,hxv,order_mod,← mulA_mul crv on_aB,← mulA_add crv on_aB] at hi
 cases hb:realFi.same (realFi.mul realFi.base (realFi.sof (bytesW (xW hs s t)))) (realFi.add (realFi.dec (rB hs s t)) (realFi.mul (realFi.dec (pubB hs s)) (numW hs (rB hs s t++(pubB hs s++u))))) with
 | true=>exact (decide_eq_true (hi.1 hb)).symm
 | false =>
  refine (decide_eq_false fun e => ?_).symm
  have:=hi.2 e
  rw [show realFi.same (realFi.mul realFi.base (realFi.sof (bytesW (xW hs s t)))) (realFi.add (realFi.dec (realFi.bytes (realFi.mul realFi.base (rW hs s t)))) (realFi.mul (realFi.dec (realFi.bytes (realFi.mul realFi.base (keyW hs s)))) (numW hs (rB hs s t++(pubB hs s++u)))))=false from hb] at this
  cases this
theorem sign_back (s t:List UInt8):verP hs (pubB hs s) t (sigB hs s t)=true:=by
 rw [ver_at h64]
 exact decide_eq_true rfl
theorem sign_other {s t u:List UInt8}(h:(numW hs (rB hs s t++(pubB hs s++t))).val ≠ (numW hs (rB hs s t++(pubB hs s++u))).val):verP hs (pubB hs s) u (sigB hs s t)=false:=by
 rw [ver_at h64]
 refine decide_eq_false fun e=>h ?_
 obtain ⟨ka,kb⟩:=key_val h64 s
 have n1:=num_lt h64 (rB hs s t++(pubB hs s++t))
 have n2:=num_lt h64 (rB hs s t++(pubB hs s++u))
 generalize (numW hs (rB hs s t++(pubB hs s++t))).val=k1 at e n1 ⊢
 generalize (numW hs (rB hs s t++(pubB hs s++u))).val=k2 at e n2 ⊢
 generalize (keyW hs s).val=a at e ka kb
 generalize (rW hs s t).val=r at e
 have key:∀ k1 k2:Nat,k1≤k2→k2 < Lq→mulA dF aB (r+a * k1)=mulA dF aB (r+a * k2)→k1=k2:=fun k1 k2 hle hk e=>by
  have h1:=base_inj (Nat.add_le_add_left (Nat.mul_le_mul_left a hle) r) e
  have h2:r+a * k2 - (r+a * k1)=a * (k2 - k1):=by rw [Nat.mul_sub,Nat.add_sub_add_left]
  rw [h2] at h1
  rcases L_mul h1 with h3 | h3
  ·rw [Nat.mod_eq_of_lt ka] at h3; exact absurd h3 kb
  ·rw [Nat.mod_eq_of_lt (by omega)] at h3
   omega
 rcases Nat.le_total k1 k2 with hle | hle
 ·exact key k1 k2 hle n2 e
 ·exact (key k2 k1 hle n1 e.symm).symm
end
end Go.Sgn
namespace Go.Eng
theorem callOk_same2 {P:Program}{f:FuncId}{args:List AVal}{e e':EffA}(h:CallOk P f args e) (hx:∀ base H v H',e'.app base H=some (v,H')→∃ H2,e.app base H=some (v,H2)∧aget H2=aget H'):CallOk P f args e':=by
 intro σ args' H w base v H' hl hg hH happ hfree
 obtain ⟨H2,h1,h2⟩:=hx base H v H' happ
 have r:=h σ args' H w base v H2 hl hg hH h1 hfree
 rw [h2] at r
 exact r
end Go.Eng
