/- Texts GeH, GeI, Eng31, Eng38, GSh2, Eng32, Eng33, Eng34, Eng35, Eng36, Eng37, GSh3, GSh4, Eng39, GSh5, GSh6, GSh7, GSh8, GSh9, Eng40, GSh10, GSh11, GSh12, GSd0: what they show that this claim uses. -/
import Derived.Test.YtcjkbimdmcfppaaGreatDoorS8
import Derived.Test.YtcjkbimdmcfppaaGreatDoorS6
import Derived.Test.YtcjkbimdmcfppaaGreatDoorS5
import Derived.Test.YtcjkbimdmcfppaaGreatDoorS4
import Derived.OrdersIn
import Derived.LoopNIn
import Derived.ControlIn
import Derived.RangeFuncLeaves
import Derived.RangeFuncSeq
set_option maxRecDepth 100000
set_option maxHeartbeats 1000000
set_option linter.unusedVariables false
set_option linter.unusedSimpArgs false
namespace Go.Proofs.YtcjkbimdmcfppaaGreatDoor
open Go Go.Eng Go.Num
def wCells (n:W4):List AVal:=[.u64 n.x0,.u64 n.x1,.u64 n.x2,.u64 n.x3]
def S24 (p:P4 E5) (n:W4) (s:List UInt8) (q:P4 E5) (i:Int):SA:=⟨[(0,pAv p),(1,n.av),(2,.ptr 2 0),(3,.ptr 10 0),(4,.ptr 18 0),(9,.bool false),(5,.ptr 66 0),(6,.str s),(7,.int .i64 i)],[(2,.cells false (pCells p)),(10,.cells false (wCells n)),(18,.cells false (pCells emptyE)),(66,.cells false (pCells q))],130⟩
noncomputable def cd24:List Code:=pieces (bodyOf Tryz.f21)
noncomputable def b24:Code:=loopOf (cd24.getD 5 .skip)
def S25 (p:P4 N16) (n:N16) (q:P4 N16) (i:Int):SA:=⟨[(0,qAv p),(1,n.av),(2,.ptr 2 0),(3,.ptr 10 0),(4,.ptr 18 0),(5,.ptr 34 0),(6,.int .i64 i)],[(2,.cells false (qCells p)),(10,.cells false n.cells),(18,.cells false (qCells emptyN)),(34,.cells false (qCells q))],58⟩
noncomputable def cd25:List Code:=pieces (bodyOf Tryz.f16)
noncomputable def b25:Code:=loopOf (cd25.getD 3 .skip)
theorem gl1:Tryz.prog.globals.size=2:=by kernel_rfl
theorem m24z (φ:Fi) (p:P4 E5) (n:W4):ansO (run1O Tryz.prog (psnh φ) (nh φ) [9] [true] [] (mask 21) 1000 21 [pAv p,n.av] [] 2)=some (pAv emptyE,[φ.none p]):=by kernel_rfl
theorem pre24 (φ:Fi) (p:P4 E5) (n:W4):segO (evSO Tryz.prog (psnh φ) (nh φ) [9,200017] Tryz.f21.ntmps (mask 21) 1000 2 (cd24.take 5) ⟨startT [pAv p,n.av] 0,[],2⟩ ⟨[false],[.int .i64 255],[]⟩)=some (S24 p n (φ.sby n) φ.zero 255,[eqS (.int .i64 (IntKind.wrap .i64 (IntKind.wrap .i64 (8 * ((φ.sby n).length:Int)) - 1))) (.int .i64 255),!(φ.none p)]):=by kernel_rfl
theorem rd24t (φ:Fi) (p:P4 E5) (n:W4) (s:List UInt8) (q q0:P4 E5) (i j:Int):roundO2 Tryz.prog (psnh φ) (nh φ) [19,28,34] [true,true] [] Tryz.f21.ntmps (mask 21) 1000 2 b24 (S24 p n s q0 j) (S24 p n s q i)=some (S24 p n s (φ.add (φ.add q q) p) (IntKind.wrap .i64 (i - 1)),[(shr_u8 (List.getD s (Int.toNat (IntKind.wrap IntKind.i64 (Int.tdiv i 8))) 0) (UInt64.toNat (UInt64.ofInt (Int.tmod i 8))) &&& 1) == 1,(decide ((0:Int)≤IntKind.wrap IntKind.i64 (Int.tdiv i 8)) && decide (IntKind.wrap IntKind.i64 (Int.tdiv i 8) < (s.length:Int))),decide ((0:Int)≤i)]):=by kernel_rfl
theorem rd24f (φ:Fi) (p:P4 E5) (n:W4) (s:List UInt8) (q q0:P4 E5) (i j:Int):roundO2 Tryz.prog (psnh φ) (nh φ) [19,28,34] [true,false] [] Tryz.f21.ntmps (mask 21) 1000 2 b24 (S24 p n s q0 j) (S24 p n s q i)=some (S24 p n s (φ.add q q) (IntKind.wrap .i64 (i - 1)),[!((shr_u8 (List.getD s (Int.toNat (IntKind.wrap IntKind.i64 (Int.tdiv i 8))) 0) (UInt64.toNat (UInt64.ofInt (Int.tmod i 8))) &&& 1) == 1),(decide ((0:Int)≤IntKind.wrap IntKind.i64 (Int.tdiv i 8)) && decide (IntKind.wrap IntKind.i64 (Int.tdiv i 8) < (s.length:Int))),decide ((0:Int)≤i)]):=by kernel_rfl
theorem end24 (φ:Fi) (p:P4 E5) (n:W4) (s:List UInt8) (q:P4 E5) (i:Int):endO Tryz.prog (psnh φ) (nh φ) [19] Tryz.f21 (mask 21) 1000 2 0 b24 (cd24.drop 6) (S24 p n s q i) ⟨[false],[],[]⟩=some (pAv q,[!decide ((0:Int)≤i)]):=by kernel_rfl
theorem ok24 (p:P4 E5) (n:W4) (s:List UInt8) (q:P4 E5) (i:Int):okS Tryz.prog (S24 p n s q i)=true:=by
 simp [okS,gl1,S24,ltT,ltH,ltV,ltS,ltL,pAv,pCells,W4.av,wCells,nble]
theorem pre25 (φ:Fi) (p:P4 N16) (n:N16):segO (evSO Tryz.prog (psnh φ) (nh φ) [] Tryz.f16.ntmps (mask 16) 1000 2 (cd25.take 3) ⟨startT [qAv p,n.av] 0,[],2⟩ ⟨[],[],[]⟩)=some (S25 p n φ.zeroQ 255,[]):=by kernel_rfl
theorem rd25t (φ:Fi) (p:P4 N16) (n:N16) (q q0:P4 N16) (x:UInt64) (i j:Int):roundO2 Tryz.prog (psnh φ) (nh φ) [9,14,17,18,24,27] [true,true] [.u64 x] Tryz.f16.ntmps (mask 16) 1000 2 b25 (S25 p n q0 j) (S25 p n q i)=some (S25 p n (φ.addQ (φ.addQ q q) p) (IntKind.wrap .i64 (i - 1)),[φ.okQ (φ.addQ q q) && φ.okQ p,(shr_u64 x (UInt64.toNat (UInt64.ofInt (Int.tmod i 16))) &&& 1) == 1,isAt n.cells (0+Int.toNat (IntKind.wrap IntKind.i64 (Int.tdiv i 16)) * 1) (.u64 x),(decide ((0:Int)≤IntKind.wrap IntKind.i64 (Int.tdiv i 16)) && decide (IntKind.wrap IntKind.i64 (Int.tdiv i 16) < (16:Int))),φ.okQ q && φ.okQ q,decide ((0:Int)≤i)]):=by kernel_rfl
theorem rd25f (φ:Fi) (p:P4 N16) (n:N16) (q q0:P4 N16) (x:UInt64) (i j:Int):roundO2 Tryz.prog (psnh φ) (nh φ) [9,14,17,18,24,27] [true,false] [.u64 x] Tryz.f16.ntmps (mask 16) 1000 2 b25 (S25 p n q0 j) (S25 p n q i)=some (S25 p n (φ.addQ q q) (IntKind.wrap .i64 (i - 1)),[!((shr_u64 x (UInt64.toNat (UInt64.ofInt (Int.tmod i 16))) &&& 1) == 1),isAt n.cells (0+Int.toNat (IntKind.wrap IntKind.i64 (Int.tdiv i 16)) * 1) (.u64 x),(decide ((0:Int)≤IntKind.wrap IntKind.i64 (Int.tdiv i 16)) && decide (IntKind.wrap IntKind.i64 (Int.tdiv i 16) < (16:Int))),φ.okQ q && φ.okQ q,decide ((0:Int)≤i)]):=by kernel_rfl
theorem end25 (φ:Fi) (p:P4 N16) (n:N16) (q:P4 N16) (i:Int):endO Tryz.prog (psnh φ) (nh φ) [9] Tryz.f16 (mask 16) 1000 2 0 b25 (cd25.drop 4) (S25 p n q i) ⟨[false],[],[]⟩=some (qAv q,[!decide ((0:Int)≤i)]):=by kernel_rfl
theorem ok25 (p:P4 N16) (n:N16) (q:P4 N16) (i:Int):okS Tryz.prog (S25 p n q i)=true:=by
 simp [okS,gl1,S25,ltT,ltH,ltV,ltS,ltL,qAv,qCells,N16.av,N16.cells,nble]
theorem bit_div (m k:Nat) (hm:m < 1000000) (hk:0 < k) (hk2:k < 1000):IntKind.wrap .i64 (Int.tdiv (m:Int) k)=((m / k:Nat):Int):=by
 have e1:Int.tdiv (m:Int) k=((m / k:Nat):Int):=by rw [Int.tdiv_eq_ediv_of_nonneg (by omega)]; rfl
 have hle:=Nat.div_le_self m k
 rw [e1]
 generalize m / k=t at hle ⊢
 exact wrapI _ (by omega) (by omega)
theorem bit_rem (m k:Nat) (hm:m < 1000000) (hk:0 < k) (hk2:k < 1000):UInt64.toNat (UInt64.ofInt (Int.tmod (m:Int) k))=m % k:=by
 have e2:Int.tmod (m:Int) k=((m % k:Nat):Int):=by rw [Int.tmod_eq_emod_of_nonneg (by omega)]; rfl
 have:=Nat.mod_lt m hk
 rw [e2,ofInt_nat,UInt64.toNat_ofNat_of_lt']
 show _ < 18446744073709551616; omega
theorem st24 (φ:Fi) (p:P4 E5) (n:W4) (s:List UInt8) (hs:s.length=32) (q q0:P4 E5) (j:Int) (m:Nat) (hm:m≤255):roundA (evC Tryz.prog (nh φ) Tryz.f21.ntmps (mask 21) 1000 2 b24) (headA Tryz.prog 1 (S24 p n s q0 j)) (S24 p n s q m)=some (S24 p n s (cond (bitK s m) (φ.add (φ.add q q) p) (φ.add q q)) ((m:Int) - 1)):=by
 have hw:IntKind.wrap .i64 ((m:Int) - 1)=(m:Int) - 1:=wrapI _ (by omega) (by omega)
 have hd:=bit_div m 8 (by omega) (by omega) (by omega)
 have hr:=bit_rem m 8 (by omega) (by omega) (by omega)
 have h1:decide ((0:Int)≤((m / 8:Nat):Int))=true:=by rw [decide_eq_true_iff]; omega
 have h2:decide (((m / 8:Nat):Int) < (s.length:Int))=true:=by rw [decide_eq_true_iff]; omega
 have h3:decide ((0:Int)≤(m:Int))=true:=by rw [decide_eq_true_iff]; omega
 rw [← hw]
 cases hK:bitK s m
 ·have hK2:(bitB s m == 1)=false:=hK
  refine roundO2_ok (nh_ps φ) (rd24f φ p n s q q0 m j) ?_ (ok24 _ _ _ _ _)
  rw [show ((8:Int))=((8:Nat):Int) from rfl,hd,hr,h1,h2,h3]
  show allT [!(bitB s m == 1),true && true,true]=true
  rw [hK2]; rfl
 ·have hK2:(bitB s m == 1)=true:=hK
  refine roundO2_ok (nh_ps φ) (rd24t φ p n s q q0 m j) ?_ (ok24 _ _ _ _ _)
  rw [show ((8:Int))=((8:Nat):Int) from rfl,hd,hr,h1,h2,h3]
  show allT [bitB s m == 1,true && true,true]=true
  rw [hK2]; rfl
theorem rmul (φ:Fi) (hb:∀ n,(φ.sby n).length=32) (p:P4 E5) (n:W4):(run1 Tryz.prog (nh φ) (mask 21) 1000 21 [pAv p,n.av] [] Tryz.prog.globals.size).map (·.1)=some (pAv (mulG φ.add φ.zero emptyE φ.none p (bitK (φ.sby n)))):=by
 rw [gl1]
 unfold mulG
 cases hn:φ.none p
 rotate_left
 ·exact ansO_run (nh_ps φ) (m24z φ p n) (by rw [hn]; rfl)
 refine run_loopO (nh_ps φ) (fn:=Tryz.f21) (c:=bodyOf Tryz.f21) (by kernel_rfl) (by kernel_rfl) (by kernel_rfl) 5 (id:=0) (b:=b24) (by kernel_rfl) (fun j=>S24 p n (φ.sby n) (iterG φ.add φ.zero p (bitK (φ.sby n)) j) (255 - (j:Int))) 256 (pre24 φ p n) ?_ (fun j hj => ?_) (end24 φ p n _ _ _) rfl (by omega)
 ·rw [hn,hb]; rfl
 ·have e1:(255:Int) - (j:Int)=((255 - j:Nat):Int):=by omega
  have e2:(255:Int) - ((j+1:Nat):Int)=((255 - j:Nat):Int) - 1:=by omega
  rw [e1,e2]
  exact st24 φ p n _ (hb n) _ _ _ (255 - j) (by omega)
theorem st25 (φ:Fi) (h:OkI φ) (p:P4 N16) (hp:φ.okQ p=true) (n:N16) (q q0:P4 N16) (hq:φ.okQ q=true) (j:Int) (m:Nat) (hm:m≤255):roundA (evC Tryz.prog (nh φ) Tryz.f16.ntmps (mask 16) 1000 2 b25) (headA Tryz.prog 1 (S25 p n q0 j)) (S25 p n q m)=some (S25 p n (cond (bitN16 n m) (φ.addQ (φ.addQ q q) p) (φ.addQ q q)) ((m:Int) - 1)):=by
 have hw:IntKind.wrap .i64 ((m:Int) - 1)=(m:Int) - 1:=wrapI _ (by omega) (by omega)
 have hd:=bit_div m 16 (by omega) (by omega) (by omega)
 have hr:=bit_rem m 16 (by omega) (by omega) (by omega)
 have h1:decide ((0:Int)≤((m / 16:Nat):Int))=true:=by rw [decide_eq_true_iff]; omega
 have h2:decide (((m / 16:Nat):Int) < (16:Nat))=true:=by rw [decide_eq_true_iff]; omega
 have h3:decide ((0:Int)≤(m:Int))=true:=by rw [decide_eq_true_iff]; omega
 have ha:isAt n.cells (0+Int.toNat ((m / 16:Nat):Int) * 1) (.u64 (partN n (m / 16)))=true:=isAt_of (by
  have e:0+Int.toNat ((m / 16:Nat):Int) * 1=m / 16:=by omega
  rw [e]
  have hc:n.cells=n.list.map .u64:=rfl
  have hl:m / 16 < n.list.length:=by show m / 16 < 16; omega
  rw [hc,List.getElem?_map,List.getElem?_eq_getElem hl]
  unfold partN
  rw [List.getD_eq_getElem?_getD,List.getElem?_eq_getElem hl]; rfl) (by simp [eqS])
 have hdd:=h.add hq hq
 rw [← hw]
 cases hK:bitN16 n m
 ·refine roundO2_ok (nh_ps φ) (rd25f φ p n q q0 (partN n (m / 16)) m j) ?_ (ok25 _ _ _ _)
  rw [show ((16:Int))=((16:Nat):Int) from rfl,hd,hr,h1,h2,h3,ha,hq]
  show allT [!(bitN16 n m),true,true && true,true && true,true]=true
  rw [hK]; rfl
 ·refine roundO2_ok (nh_ps φ) (rd25t φ p n q q0 (partN n (m / 16)) m j) ?_ (ok25 _ _ _ _)
  rw [show ((16:Int))=((16:Nat):Int) from rfl,hd,hr,h1,h2,h3,ha,hq,hdd,hp]
  show allT [true && true,bitN16 n m,true,true && true,true && true,true]=true
  rw [hK]; rfl
theorem rmulQ (φ:Fi) (h:OkI φ) (p:P4 N16) (hp:φ.okQ p=true) (n:N16):(run1 Tryz.prog (nh φ) (mask 16) 1000 16 [qAv p,n.av] [] Tryz.prog.globals.size).map (·.1)=some (qAv (iterG φ.addQ φ.zeroQ p (bitN16 n) 256)):=by
 rw [gl1]
 refine run_loopO (nh_ps φ) (fn:=Tryz.f16) (c:=bodyOf Tryz.f16) (by kernel_rfl) (by kernel_rfl) (by kernel_rfl) 3 (id:=0) (b:=b25) (by kernel_rfl) (fun j=>S25 p n (iterG φ.addQ φ.zeroQ p (bitN16 n) j) (255 - (j:Int))) 256 (pre25 φ p n) rfl (fun j hj => ?_) (end25 φ p n _ _) rfl (by omega)
 have e1:(255:Int) - (j:Int)=((255 - j:Nat):Int):=by omega
 have e2:(255:Int) - ((j+1:Nat):Int)=((255 - j:Nat):Int) - 1:=by omega
 rw [e1,e2]
 exact st25 φ h p hp n _ _ (iterG_ok (ok:=fun x=>φ.okQ x=true) h.zero hp (fun a b ha hb=>h.add ha hb) j) _ (255 - j) (by omega)
theorem rsm (φ:Fi) (p:P4 E5):(run1 Tryz.prog (nh φ) (mask 32) 200 32 [pAv p] [] Tryz.prog.globals.size).map (·.1)=some (.bool (smallG φ.add φ.same φ.zero p)):=by kernel_rfl
theorem d16 (φ:Fi) (p:P4 N16):ansO (run1O Tryz.prog (psnh φ) (nh φ) [6,9,12,14] [] [] (mask 38) 200 38 [qAv p] [] Tryz.prog.globals.size)=some (.bool (smallG φ.addQ φ.sameQ φ.zeroQ p),[((φ.okQ (φ.addQ (φ.addQ (φ.addQ p p) (φ.addQ p p)) (φ.addQ (φ.addQ p p) (φ.addQ p p)))) && (φ.okQ φ.zeroQ)),((φ.okQ (φ.addQ (φ.addQ p p) (φ.addQ p p))) && (φ.okQ (φ.addQ (φ.addQ p p) (φ.addQ p p)))),((φ.okQ (φ.addQ p p)) && (φ.okQ (φ.addQ p p))),((φ.okQ p) && (φ.okQ p))]):=by kernel_rfl
theorem rsq (φ:Fi) (h:OkI φ) (p:P4 N16) (hp:φ.okQ p=true):(run1 Tryz.prog (nh φ) (mask 38) 200 38 [qAv p] [] Tryz.prog.globals.size).map (·.1)=some (.bool (smallG φ.addQ φ.sameQ φ.zeroQ p)):=ansO_run (nh_ps φ) (d16 φ p) (by
 have h2:=h.add hp hp
 have h4:=h.add h2 h2
 have h8:=h.add h4 h4
 simp only [allT,hp,h2,h4,h8,h.zero,Bool.and_self,cond_true])
def h54 (args:List AVal):Option EffA:=match args with
 | [.str s,.int .i64 (.ofNat c)]=>cond (Nat.ble c 1000 && Nat.ble s.length 1000) (some (.pure (.str (Go.Lib.repeatL s c)))) none
 | _=>none
theorem h54_ok:CSOk Tryz.prog (csOne 54 h54):=csOne_ok fun args e he=>by
 unfold h54 at he
 split at he
 ·rename_i s c
  cases hb:(Nat.ble c 1000 && Nat.ble s.length 1000) <;> rw [hb] at he
  ·cases he
  ·cases he
   simp only [Bool.and_eq_true] at hb
   exact repeat_ok s c (Nat.le_of_ble_eq_true hb.1) (Nat.le_of_ble_eq_true hb.2)
 ·cases he
def nhr (φ:Fi):CS:=csAlt (csOne 54 h54) (nh φ)
theorem nhr_ok:CSOk Tryz.prog (nhr realFi):=csAlt_ok h54_ok nh_ok
theorem rba (φ:Fi):(run1 Tryz.prog (nhr φ) (mask 20) 200 20 [] [] Tryz.prog.globals.size).map (·.1)=some (pAv (φ.dec baseL)):=by kernel_rfl
theorem rbq (φ:Fi):(run1 Tryz.prog (nh φ) (mask 15) 200 15 [] [] Tryz.prog.globals.size).map (·.1)=some (qAv (φ.decQ baseL)):=by kernel_rfl
end Go.Proofs.YtcjkbimdmcfppaaGreatDoor
namespace Go.Proofs.YtcjkbimdmcfppaaGreatDoor
open Go Go.Eng Go.Num
theorem okQ_add {φ:Fe}(f:OkF φ){a b:P4 N16}(h:okQ φ a=true) (k:okQ φ b=true):okQ φ (addψ φ a b)=true:=by
 have h1:=okQ_iff.1 h
 have k1:=okQ_iff.1 k
 have ht:=okT f h1.2.2.2 k1.2.2.2
 have hz:=f.mul h1.2.2.1 k1.2.2.1
 have hf:=f.sub hz ht
 have hg:=f.add hz ht
 have ha:=f.add (f.mul h1.1 k1.2.1) (f.mul h1.2.1 k1.1)
 have hb:=f.add (f.mul h1.2.1 k1.2.1) (f.mul h1.1 k1.1)
 exact okQ_iff.2 ⟨f.mul ha hf,f.mul hg hb,f.mul hf hg,f.mul ha hb⟩
theorem okQ_zero {φ:Fe}(f:OkF φ) (z:φ.ok zeroN=true):okQ φ (zeroψ φ)=true:=okQ_iff.2 ⟨z,f.small 1,f.small 1,z⟩
theorem okI:OkI realFi:=⟨okQ_add okF,okQ_zero okF okB_zero⟩
def i21 (φ:Fi):List AVal→Option EffA
 | [a,b]=>match pOf a,wOf b with
  | some x0,some x1=>some (.pure (pAv (φ.mul x0 x1)))
  | _,_=>none
 | _=>none
theorem i21_ok:CSOk Tryz.prog (csOne 21 (i21 realFi)):=csOne_ok fun args e he=>by
 unfold i21 at he
 split at he
 ·split at he
  ·rename_i x0 x1 h0 h1
   cases he
   rw [pOf_eq h0,wOf_eq h1]
   exact (by rw [mul_eq]; exact callOk_val nh_ok hmix (rmul realFi sby_len x0 x1) rfl rfl)
  ·cases he
 ·cases he
def i16 (φ:Fi):List AVal→Option (EffA × Bool)
 | [a,b]=>match qOf a,nOf b with
  | some x0,some x1=>some (.pure (qAv (φ.mulQ x0 x1)),φ.okQ x0)
  | _,_=>none
 | _=>none
theorem i16_ok:CSOk Tryz.prog (csP (psOne 16 (i16 realFi))):=csP_one fun args v he=>by
 unfold i16 at he
 split at he
 ·split at he
  ·rename_i x0 x1 h0 h1
   simp only [Option.some.injEq,Prod.mk.injEq] at he
   obtain ⟨rfl,h⟩:=he
   rw [qOf_eq h0,nOf_eq h1]
   exact (by rw [mulQ_eq]; exact callOk_val nh_ok hmix (rmulQ realFi okI x0 h x1) rfl rfl)
  ·cases he
 ·cases he
def i32 (φ:Fi):List AVal→Option EffA
 | [a]=>match pOf a with
  | some x0=>some (.pure (.bool (φ.small x0)))
  | _=>none
 | _=>none
theorem i32_ok:CSOk Tryz.prog (csOne 32 (i32 realFi)):=csOne_ok fun args e he=>by
 unfold i32 at he
 split at he
 ·split at he
  ·rename_i x0 h0
   cases he
   rw [pOf_eq h0]
   exact (by rw [small_eq]; exact callOk_val nh_ok hmix (rsm realFi x0) rfl rfl)
  ·cases he
 ·cases he
def i38 (φ:Fi):List AVal→Option (EffA × Bool)
 | [a]=>match qOf a with
  | some x0=>some (.pure (.bool (φ.smallQ x0)),φ.okQ x0)
  | _=>none
 | _=>none
theorem i38_ok:CSOk Tryz.prog (csP (psOne 38 (i38 realFi))):=csP_one fun args v he=>by
 unfold i38 at he
 split at he
 ·split at he
  ·rename_i x0 h0
   simp only [Option.some.injEq,Prod.mk.injEq] at he
   obtain ⟨rfl,h⟩:=he
   rw [qOf_eq h0]
   exact (by rw [smallQ_eq]; exact callOk_val nh_ok hmix (rsq realFi okI x0 h) rfl rfl)
  ·cases he
 ·cases he
def i20 (φ:Fi):List AVal→Option EffA
 | []=>some (.pure (pAv φ.base))
 | _=>none
theorem i20_ok:CSOk Tryz.prog (csOne 20 (i20 realFi)):=csOne_ok fun args e he=>by
 unfold i20 at he
 split at he
 ·cases he
  exact (by rw [base_eq]; exact callOk_val nhr_ok hmix (rba realFi) rfl rfl)
 ·cases he
def i15 (φ:Fi):List AVal→Option EffA
 | []=>some (.pure (qAv φ.baseQ))
 | _=>none
theorem i15_ok:CSOk Tryz.prog (csOne 15 (i15 realFi)):=csOne_ok fun args e he=>by
 unfold i15 at he
 split at he
 ·cases he
  exact (by rw [baseQ_eq]; exact callOk_val nh_ok hmix (rbq realFi) rfl rfl)
 ·cases he
def i33 (φ:Fi):List AVal→Option EffA
 | [a]=>match sOf a with
  | some x0=>some (.pure (.tup [W4.av (φ.sof x0),.int .i64 (φ.sofR x0)]))
  | _=>none
 | _=>none
theorem i33_ok:CSOk Tryz.prog (csOne 33 (i33 realFi)):=csOne_ok fun args e he=>by
 unfold i33 at he
 split at he
 ·split at he
  ·rename_i x0 h0
   cases he
   rw [sOf_eq h0]
   exact callOk_val cs3i_ok hmix (run33 x0) rfl rfl
  ·cases he
 ·cases he
def i23 (φ:Fi):List AVal→Option EffA
 | [a,b]=>match wOf a,wOf b with
  | some x0,some x1=>some (.pure (W4.av (φ.sadd x0 x1)))
  | _,_=>none
 | _=>none
theorem i23_ok:CSOk Tryz.prog (csOne 23 (i23 realFi)):=csOne_ok fun args e he=>by
 unfold i23 at he
 split at he
 ·split at he
  ·rename_i x0 x1 h0 h1
   cases he
   rw [wOf_eq h0,wOf_eq h1]
   exact callOk_val cs2_ok hmix (run23 x0 x1) rfl rfl
  ·cases he
 ·cases he
def i24 (φ:Fi):List AVal→Option EffA
 | [a,b]=>match wOf a,wOf b with
  | some x0,some x1=>some (.pure (W4.av (φ.smul x0 x1)))
  | _,_=>none
 | _=>none
theorem i24_ok:CSOk Tryz.prog (csOne 24 (i24 realFi)):=csOne_ok fun args e he=>by
 unfold i24 at he
 split at he
 ·split at he
  ·rename_i x0 x1 h0 h1
   cases he
   rw [wOf_eq h0,wOf_eq h1]
   exact callOk_val cs5i_ok hmix (run24 x0 x1) rfl rfl
  ·cases he
 ·cases he
def i17 (φ:Fi):List AVal→Option (EffA × Bool)
 | [a]=>match sOf a with
  | some x0=>some (.pure (N16.av (φ.nof x0)),Nat.ble x0.length 100000)
  | _=>none
 | _=>none
theorem i17_ok:CSOk Tryz.prog (csP (psOne 17 (i17 realFi))):=csP_one fun args v he=>by
 unfold i17 at he
 split at he
 ·split at he
  ·rename_i x0 h0
   simp only [Option.some.injEq,Prod.mk.injEq] at he
   obtain ⟨rfl,h⟩:=he
   rw [sOf_eq h0]
   exact callOk_val cr1_ok hmix (run17 x0 (Nat.le_of_ble_eq_true h)) rfl rfl
  ·cases he
 ·cases he
def psnj (φ:Fi):PS:=(psAlt (psOne 16 (i16 φ)) (psAlt (psOne 38 (i38 φ)) (psAlt (psOne 17 (i17 φ)) (psnh φ))))
theorem psnj_ok:CSOk Tryz.prog (csP (psnj realFi)):=(csP_alt i16_ok (csP_alt i38_ok (csP_alt i17_ok psnh_ok)))
def chnj (φ:Fi):CS:=(csAlt (csOne 21 (i21 φ)) (csAlt (csOne 32 (i32 φ)) (csAlt (csOne 20 (i20 φ)) (csAlt (csOne 15 (i15 φ)) (csAlt (csOne 33 (i33 φ)) (csAlt (csOne 23 (i23 φ)) (csAlt (csOne 24 (i24 φ)) (chnh φ))))))))
theorem chnj_ok:CSOk Tryz.prog (chnj realFi):=(csAlt_ok i21_ok (csAlt_ok i32_ok (csAlt_ok i20_ok (csAlt_ok i15_ok (csAlt_ok i33_ok (csAlt_ok i23_ok (csAlt_ok i24_ok chnh_ok)))))))
end Go.Proofs.YtcjkbimdmcfppaaGreatDoor
namespace Go.Eng
open Go
def cellsU (n:Nat) (f:Nat→UInt64):List AVal:=(List.range n).map fun j=>.u64 (f j)
def cellsB (n:Nat) (f:Nat→UInt8):List AVal:=(List.range n).map fun j=>.u8 (f j)
def updF {α:Type}(w:Nat→α) (k:Nat) (v:α):Nat→α:=fun j=>if j=k then v else w j
theorem cellsU_len {n:Nat}{f:Nat→UInt64}:(cellsU n f).length=n:=by simp [cellsU]
theorem cellsB_len {n:Nat}{f:Nat→UInt8}:(cellsB n f).length=n:=by simp [cellsB]
theorem cellsU_at {n i:Nat}(f:Nat→UInt64) (h:i < n):(cellsU n f)[i]? = some (.u64 (f i)):=by simp [cellsU,h]
theorem cellsB_at {n i:Nat}(f:Nat→UInt8) (h:i < n):(cellsB n f)[i]? = some (.u8 (f i)):=by simp [cellsB,h]
theorem off_nat (i:Nat):0+((i:Int).toNat * 1)=i:=by simp
theorem eqS_u64 (x:UInt64):eqS (.u64 x) (.u64 x)=true:=by simp [eqS]
theorem eqS_u8 (x:UInt8):eqS (.u8 x) (.u8 x)=true:=by simp [eqS]
theorem eqS_int (k:IntKind) (x:Int):eqS (.int k x) (.int k x)=true:=by simp [eqS]
theorem eqS_i64 {x y:Int}(h:IntKind.wrap .i64 x=y):eqS (.int .i64 (IntKind.wrap .i64 x)) (.int .i64 y)=true:=by rw [h]; exact eqS_int ..
theorem isAt_get {c:List AVal}{i:Nat}{x:UInt64}(h:c[i]? = some (.u64 x)):isAt c (0+((i:Int).toNat * 1)) (.u64 x)=true:=by
 rw [off_nat]; exact isAt_of h (eqS_u64 x)
theorem isAt_cellsU {n i:Nat}(f:Nat→UInt64) (h:i < n):isAt (cellsU n f) (0+((i:Int).toNat * 1)) (.u64 (f i))=true:=isAt_get (cellsU_at f h)
theorem set_cellsU {n i:Nat}(f:Nat→UInt64) (v:UInt64) (h:i < n):(cellsU n f).set i (.u64 v)=cellsU n (updF f i v):=by
 apply List.ext_getElem?
 intro j
 by_cases hj:j < n
 ·rw [cellsU_at _ hj]
  by_cases e:i=j
  ·subst e
   rw [List.getElem?_set_self (by rw [cellsU_len]; exact h)]
   simp [updF]
  ·rw [List.getElem?_set_ne e,cellsU_at _ hj]
   simp [updF,Ne.symm e]
 ·rw [List.getElem?_eq_none (by rw [List.length_set,cellsU_len]; omega),List.getElem?_eq_none (by rw [cellsU_len]; omega)]
theorem set_cellsB {n i:Nat}(f:Nat→UInt8) (v:UInt8) (h:i < n):(cellsB n f).set i (.u8 v)=cellsB n (updF f i v):=by
 apply List.ext_getElem?
 intro j
 by_cases hj:j < n
 ·rw [cellsB_at _ hj]
  by_cases e:i=j
  ·subst e
   rw [List.getElem?_set_self (by rw [cellsB_len]; exact h)]
   simp [updF]
  ·rw [List.getElem?_set_ne e,cellsB_at _ hj]
   simp [updF,Ne.symm e]
 ·rw [List.getElem?_eq_none (by rw [List.length_set,cellsB_len]; omega),List.getElem?_eq_none (by rw [cellsB_len]; omega)]
theorem putA_set {c:List AVal}{i:Nat}(v:AVal) (hv:cellsA v=[v]) (h:i < c.length):putA c i (cellsA v)=c.set i v:=by
 unfold putA
 rw [hv,List.set_eq_take_append_cons_drop,if_pos h]
 simp
theorem putA_cellsU {n i:Nat}(f:Nat→UInt64) (v:UInt64) (h:i < n):putA (cellsU n f) (0+((i:Int).toNat * 1)) (cellsA (.u64 v))=cellsU n (updF f i v):=by
 rw [off_nat,putA_set _ rfl (by rw [cellsU_len]; exact h),set_cellsU f v h]
theorem getD_cellsB {n i:Nat}(f:Nat→UInt8) (h:i < n):(cellsB n f).getD i (.bool false)=.u8 (f i):=by
 rw [List.getD_eq_getElem?_getD,cellsB_at f h]; rfl
theorem getD_cellsU {n i:Nat}(f:Nat→UInt64) (h:i < n):(cellsU n f).getD i (.bool false)=.u64 (f i):=by
 rw [List.getD_eq_getElem?_getD,cellsU_at f h]; rfl
theorem cellsU_congr {n:Nat}{f g:Nat→UInt64}(h:∀ i,i < n→f i=g i):cellsU n f=cellsU n g:=by
 unfold cellsU
 exact List.map_congr_left fun i hi=>by rw [h i (List.mem_range.1 hi)]
theorem cellsB_congr {n:Nat}{f g:Nat→UInt8}(h:∀ i,i < n→f i=g i):cellsB n f=cellsB n g:=by
 unfold cellsB
 exact List.map_congr_left fun i hi=>by rw [h i (List.mem_range.1 hi)]
theorem run1_fin {P:Program}{cs:CS}{nn F:Nat}{f:FuncId}{fn:Func}{c:Code}{args:List AVal}{H:HL}{fr:Nat}(hf:P.funcs[f]? = some fn) (hb:fn.body=some c) (hn:Nat.ble args.length fn.ntmps=true)
  {x:XA} {s:SA} (he:evS P cs fn.ntmps nn F fr (pieces c) ⟨startT args 0,H,fr⟩=some (x,s)) (hx:x=.normal ∨ x=.ret) {vs:List AVal} (hr:resA P s.T s.H fn.results.toList=some vs) (h1:vs.length ≠ 1):run1 P cs nn F f args H fr=some (.tup vs,s.H,s.fr):=by
 unfold run1
 simp only [hf,hb]
 unfold runF
 rw [hn,evC_pieces,he]
 rcases hx with rfl | rfl
 all_goals
  simp only [cond_true,hr]
  match vs,h1 with
  | [],_=>rfl
  | [_],h=>exact absurd rfl h
  | _::_::_,_=>rfl
end Go.Eng
namespace Go.Proofs.YtcjkbimdmcfppaaGreatDoor.Sha
open Go Go.Eng
set_option maxRecDepth 1000000
def roundsL:List UInt64:=[4794697086780616226,8158064640168781261,13096744586834688815,16840607885511220156,4131703408338449720,6480981068601479193,10538285296894168987,12329834152419229976,15566598209576043074,1334009975649890238,2608012711638119052,6128411473006802146,8268148722764581231,9286055187155687089,11230858885718282805,13951009754708518548,16472876342353939154,17275323862435702243,1135362057144423861,2597628984639134821,3308224258029322869,5365058923640841347,6679025012923562964,8573033837759648693,10970295158949994411,12119686244451234320,12683024718118986047,13788192230050041572,14330467153632333762,15395433587784984357,489312712824947311,1452737877330783856,2861767655752347644,3322285676063803686,5560940570517711597,5996557281743188959,7280758554555802590,8532644243296465576,9350256976987008742,10552545826968843579,11727347734174303076,12113106623233404929,14000437183269869457,14369950271660146224,15101387698204529176,15463397548674623760,17586052441742319658,1182934255886127544,1847814050463011016,2177327727835720531,2830643537854262169,3796741975233480872,4115178125766777443,5681478168544905931,6601373596472566643,7507060721942968483,8399075790359081724,8693463985226723168,9568029438360202098,10144078919501101548,10430055236837252648,11840083180663258601,13761210420658862357,14299343276471374635,14566680578165727644,15097957966210449927,16922976911328602910,17689382322260857208,500013540394364858,748580250866718886,1242879168328830382,1977374033974150939,2944078676154940804,3659926193048069267,4368137639120453308,4836135668995329356,5532061633213252278,6448918945643986474,6902733635092675308,7801388544844847127]
def beginL:List UInt64:=[7640891576956012808,13503953896175478587,4354685564936845355,11912009170470909681,5840696475078001361,11170449401992604703,2270897969802886507,6620516959819538809]
structure Fr where
 rot:UInt64→Int→UInt64
 rotd:UInt64→UInt64→UInt64
def k23 (φ:Fr):List AVal→Option EffA
 | [.u64 x,.int .i64 n]=>some (.pure (.u64 (φ.rot x n)))
 | _=>none
def k19 (φ:Fr):List AVal→Option EffA
 | [.u64 x,.u64 n]=>some (.pure (.u64 (φ.rotd x n)))
 | _=>none
def nr (φ:Fr):CS:=csAlt (csOne 122 (k23 φ)) (csOne 108 (k19 φ))
def hashC (h:Nat→UInt64) (b:Nat→UInt8) (n:UInt64):List AVal:=cellsU 8 h++cellsB 128 b++[.u64 n,.bool true]
noncomputable def p22:List Code:=pieces (bodyOf Tryz.f116)
end Go.Proofs.YtcjkbimdmcfppaaGreatDoor.Sha
namespace Go.Proofs.YtcjkbimdmcfppaaGreatDoor.Sha
open Go Go.Eng
set_option maxRecDepth 1000000
def H3 (g h:Nat→UInt64) (b:Nat→UInt8) (n:UInt64) (w:Nat→UInt64):HL:=[(0,.cells true (cellsU 80 g)),(2,.cells false (hashC h b n)),(3,.cells false (cellsU 80 w))]
def S1 (g h:Nat→UInt64) (b:Nat→UInt8) (n:UInt64) (w:Nat→UInt64) (i:Nat):SA:=⟨[(0,.ptr 2 0),(2,.ptr 3 0),(19,.agg (cellsB 128 b)),(20,.int .i64 (i:Int))],H3 g h b n w,51⟩
end Go.Proofs.YtcjkbimdmcfppaaGreatDoor.Sha
namespace Go.Eng
open Go
def Fw (ro:Option Nat):Fence:={ Fence.wide with round:=ro }
section
variable {P:Program}{cs:CS}{nt:Nat}{ro:Option Nat}{n:Nat}{D:List Deferred}{pin:List (Tmp × Value)}
end
end Go.Eng
namespace Go.Proofs.YtcjkbimdmcfppaaGreatDoor.Sha
open Go Go.Eng
set_option maxRecDepth 1000000
def shlW (x:UInt64) (c:UInt8):UInt64:=shl_u64 x 8 ||| c.toUInt64
def sched (φ:Fr) (w0 w1 w9 w14:UInt64):UInt64:=((w0+w9)+((φ.rot w1 1 ^^^ φ.rot w1 8) ^^^ shr_u64 w1 7))+((φ.rot w14 19 ^^^ φ.rot w14 61) ^^^ shr_u64 w14 6)
def rndT (φ:Fr) (g w:UInt64) (x:Nat→UInt64):UInt64:=(((x 7+((φ.rot (x 4) 14 ^^^ φ.rot (x 4) 18) ^^^ φ.rot (x 4) 41))+((x 4 &&& x 5) ^^^ (~~~(x 4) &&& x 6)))+g)+w
def rndL (φ:Fr) (g w:UInt64) (x:Nat→UInt64):List UInt64:=[(rndT φ g w x+((φ.rot (x 0) 28 ^^^ φ.rot (x 0) 34) ^^^ φ.rot (x 0) 39))+(((x 0 &&& x 1) ^^^ (x 0 &&& x 2)) ^^^ (x 1 &&& x 2)),x 0,x 1,x 2,x 3+rndT φ g w x,x 4,x 5,x 6]
def rnd (φ:Fr) (g w:UInt64) (x:Nat→UInt64):Nat→UInt64:=fun j=>(rndL φ g w x).getD j 0
def W1 (b:Nat→UInt8):Nat→Nat→UInt64
 | 0=>fun _=>0
 | i+1=>updF (W1 b i) (i / 8) (shlW (W1 b i (i / 8)) (b i))
def W2 (φ:Fr) (w:Nat→UInt64):Nat→Nat→UInt64
 | 0=>w
 | i+1=>updF (W2 φ w i) (i+16) (sched φ (W2 φ w i i) (W2 φ w i (i+1)) (W2 φ w i (i+9)) (W2 φ w i (i+14)))
def X3 (φ:Fr) (g w h:Nat→UInt64):Nat→Nat→UInt64
 | 0=>h
 | i+1=>rnd φ (g i) (w i) (X3 φ g w h i)
def A4 (h x:Nat→UInt64):Nat→Nat→UInt64
 | 0=>h
 | i+1=>updF (A4 h x i) i (A4 h x i i+x i)
def takeF (φ:Fr) (g h:Nat→UInt64) (b:Nat→UInt8):Nat→UInt64:=A4 h (X3 φ g (W2 φ (W1 b 128) 64) h 80) 8
def T1 (b:Nat→UInt8) (i:Nat):TL:=[(0,.ptr 2 0),(2,.ptr 3 0),(19,.agg (cellsB 128 b)),(20,.int .i64 (i:Int))]
def T2 (b:Nat→UInt8) (j:Nat):TL:=T1 b 128++[(21,.bool false),(5,.fn 122 []),(6,.int .i64 (j:Int))]
def S2 (g h:Nat→UInt64) (b:Nat→UInt8) (n:UInt64) (w:Nat→UInt64) (i:Nat):SA:=⟨T2 b i,H3 g h b n w,75⟩
def H4 (g h:Nat→UInt64) (b:Nat→UInt8) (n:UInt64) (w x:Nat→UInt64):HL:=[(0,.cells true (cellsU 80 g)),(2,.cells false (hashC h b n)),(3,.cells false (cellsU 80 w)),(123,.cells false (cellsU 8 x))]
def T3 (b:Nat→UInt8) (j:Nat):TL:=T2 b 80++[(37,.bool false),(9,.ptr 123 0),(85,.int .i64 (j:Int))]
def S3 (g h:Nat→UInt64) (b:Nat→UInt8) (n:UInt64) (w x:Nat→UInt64) (i:Nat):SA:=⟨T3 b i,H4 g h b n w x,147⟩
def T4 (b:Nat→UInt8) (x:Nat→UInt64) (j:Nat):TL:=T3 b 80++[(86,.bool false),(164,.agg (cellsU 8 x)),(165,.int .i64 (j:Int))]
def S4 (g h:Nat→UInt64) (b:Nat→UInt8) (n:UInt64) (w x:Nat→UInt64) (i:Nat):SA:=⟨T4 b x i,H4 g h b n w x,171⟩
noncomputable def b1:Code:=loopOf (p22.getD 2 .skip)
noncomputable def b2:Code:=loopOf (p22.getD 5 .skip)
noncomputable def b3:Code:=loopOf (p22.getD 8 .skip)
noncomputable def b4:Code:=loopOf (p22.getD 10 .skip)
theorem p22_2:p22[2]? = some (.block 0 (.loop b1)):=by kernel_rfl
theorem p22_5:p22[5]? = some (.block 2 (.loop b2)):=by kernel_rfl
theorem p22_8:p22[8]? = some (.block 4 (.loop b3)):=by kernel_rfl
theorem p22_10:p22[10]? = some (.block 6 (.loop b4)):=by kernel_rfl
theorem p22_11:p22.drop 11=[]:=by kernel_rfl
theorem s22a (φ:Fr) (g h:Nat→UInt64) (b:Nat→UInt8) (n:UInt64) (F:Nat):segO (evSO Tryz.prog noPS (nr φ) [] Tryz.f116.ntmps (mask 116) F 3 ((p22.drop 0).take 2) ⟨startT [.ptr 2 0] 0,[(0,.cells true (cellsU 80 g)),(2,.cells false (hashC h b n))],3⟩ ⟨[],[],[]⟩)=some (S1 g h b n (fun _=>0) 0,[]):=by kernel_rfl
theorem x22a (φ:Fr) (g h w:Nat→UInt64) (b:Nat→UInt8) (n:UInt64) (i F:Nat):evSO Tryz.prog noPS (nr φ) [21] Tryz.f116.ntmps (mask 116) F 3 [b1] (S1 g h b n w i) ⟨[false],[],[]⟩=some (.exit 0,⟨T1 b i++[(21,.bool false)],H3 g h b n w,59⟩,⟨[],[],[!(decide ((i:Int) < 128))]⟩):=by kernel_rfl
theorem s22b (φ:Fr) (g h w:Nat→UInt64) (b:Nat→UInt8) (n:UInt64) (F:Nat):segO (evSO Tryz.prog noPS (nr φ) [] Tryz.f116.ntmps (mask 116) F 3 ((p22.drop 3).take 2) ⟨T1 b 128++[(21,.bool false)],H3 g h b n w,59⟩ ⟨[],[],[]⟩)=some (S2 g h b n w 16,[]):=by kernel_rfl
theorem x22b (φ:Fr) (g h w:Nat→UInt64) (b:Nat→UInt8) (n:UInt64) (i F:Nat):evSO Tryz.prog noPS (nr φ) [37] Tryz.f116.ntmps (mask 116) F 3 [b2] (S2 g h b n w i) ⟨[false],[],[]⟩=some (.exit 2,⟨T2 b i++[(37,.bool false)],H3 g h b n w,91⟩,⟨[],[],[!(decide ((i:Int) < 80))]⟩):=by kernel_rfl
theorem s22c (φ:Fr) (g h w:Nat→UInt64) (b:Nat→UInt8) (n:UInt64) (F:Nat):segO (evSO Tryz.prog noPS (nr φ) [] Tryz.f116.ntmps (mask 116) F 3 ((p22.drop 6).take 2) ⟨T2 b 80++[(37,.bool false)],H3 g h b n w,91⟩ ⟨[],[],[]⟩)=some (S3 g h b n w h 0,[]):=by kernel_rfl
theorem x22c (φ:Fr) (g h w x:Nat→UInt64) (b:Nat→UInt8) (n:UInt64) (i F:Nat):evSO Tryz.prog noPS (nr φ) [86] Tryz.f116.ntmps (mask 116) F 3 [b3] (S3 g h b n w x i) ⟨[false],[],[]⟩=some (.exit 4,⟨T3 b i++[(86,.bool false)],H4 g h b n w x,155⟩,⟨[],[],[!(decide ((i:Int) < 80))]⟩):=by kernel_rfl
theorem s22d (φ:Fr) (g h w x:Nat→UInt64) (b:Nat→UInt8) (n:UInt64) (F:Nat):segO (evSO Tryz.prog noPS (nr φ) [] Tryz.f116.ntmps (mask 116) F 3 ((p22.drop 9).take 1) ⟨T3 b 80++[(86,.bool false)],H4 g h b n w x,155⟩ ⟨[],[],[]⟩)=some (S4 g h b n w x 0,[]):=by kernel_rfl
theorem x22d (φ:Fr) (g h w x:Nat→UInt64) (b:Nat→UInt8) (n:UInt64) (i F:Nat):evSO Tryz.prog noPS (nr φ) [166] Tryz.f116.ntmps (mask 116) F 3 [b4] (S4 g h b n w x i) ⟨[false],[],[]⟩=some (.exit 6,⟨T4 b x i++[(166,.bool false)],H4 g h b n w x,179⟩,⟨[],[],[!(decide ((i:Int) < 8))]⟩):=by kernel_rfl
theorem r22a (φ:Fr) (g h w w0:Nat→UInt64) (b:Nat→UInt8) (n:UInt64) (i k y F:Nat):roundO2 Tryz.prog noPS (nr φ) [21,23,200004,200025,200027,28,29,34,100034,200035] [true] [.u8 (b i),.int .i64 (k:Int),.int .i64 (k:Int),.u64 (w k),.int .i64 (y:Int)] Tryz.f116.ntmps (mask 116) F 3 b1 (S1 g h b n w0 0) (S1 g h b n w i) =
    some (⟨T1 b y,[(0,.cells true (cellsU 80 g)),(2,.cells false (hashC h b n)),(3,.cells false (putA (cellsU 80 w) (0+(k:Int).toNat * 1) (cellsA (.u64 (shlW (w k) (b i))))))],51⟩,
      [eqS (.int .i64 (IntKind.wrap .i64 ((i:Int)+1))) (.int .i64 (y:Int)),Nat.ble (0+(k:Int).toNat * 1+1) (cellsU 80 w).length,decide (0≤(k:Int)) && decide ((k:Int) < 80),isAt (cellsU 80 w) (0+(k:Int).toNat * 1) (.u64 (w k)),decide (0≤(k:Int)) && decide ((k:Int) < 80),eqS (.int .i64 (IntKind.wrap .i64 (Int.tdiv (i:Int) 8))) (.int .i64 (k:Int)),eqS (.int .i64 (IntKind.wrap .i64 (Int.tdiv (i:Int) 8))) (.int .i64 (k:Int)),
       eqS (likeA ((cellsB 128 b).getD 0 (.bool false)) ((cellsB 128 b).getD ((i:Int).toNat * 1) (.bool false))) (.u8 (b i)),decide (0≤(i:Int)) && (decide ((i:Int) < 128) && (Nat.blt ((i:Int).toNat * 1) (cellsB 128 b).length && eqS (likeA ((cellsB 128 b).getD 0 (.bool false)) ((cellsB 128 b).getD ((i:Int).toNat * 1) (.bool false))) ((cellsB 128 b).getD ((i:Int).toNat * 1) (.bool false)))),decide ((i:Int) < 128)]):=by kernel_rfl
theorem r22b (φ:Fr) (g h w w0:Nat→UInt64) (b:Nat→UInt8) (n:UInt64) (j0 i p q r s y F:Nat):roundO2 Tryz.prog noPS (nr φ) [37,200041,42,43,200045,46,47,200050,51,52,200054,55,56,80,100080,200039] [true] [.int .i64 (p:Int),.u64 (w p),.int .i64 (q:Int),.u64 (w q),.int .i64 (r:Int),.u64 (w r),.int .i64 (s:Int),.u64 (w s),.int .i64 (y:Int)] Tryz.f116.ntmps (mask 116) F 3 b2 (S2 g h b n w0 j0) (S2 g h b n w i) =
    some (⟨T2 b y,[(0,.cells true (cellsU 80 g)),(2,.cells false (hashC h b n)),(3,.cells false (putA (cellsU 80 w) (0+(i:Int).toNat * 1) (cellsA (.u64 (sched φ (w r) (w p) (w s) (w q))))))],75⟩,
      [eqS (.int .i64 (IntKind.wrap .i64 ((i:Int)+1))) (.int .i64 (y:Int)),Nat.ble (0+(i:Int).toNat * 1+1) (cellsU 80 w).length,decide (0≤(i:Int)) && decide ((i:Int) < 80),
       isAt (cellsU 80 w) (0+(s:Int).toNat * 1) (.u64 (w s)),decide (0≤(s:Int)) && decide ((s:Int) < 80),eqS (.int .i64 (IntKind.wrap .i64 ((i:Int) - 7))) (.int .i64 (s:Int)),
       isAt (cellsU 80 w) (0+(r:Int).toNat * 1) (.u64 (w r)),decide (0≤(r:Int)) && decide ((r:Int) < 80),eqS (.int .i64 (IntKind.wrap .i64 ((i:Int) - 16))) (.int .i64 (r:Int)),
       isAt (cellsU 80 w) (0+(q:Int).toNat * 1) (.u64 (w q)),decide (0≤(q:Int)) && decide ((q:Int) < 80),eqS (.int .i64 (IntKind.wrap .i64 ((i:Int) - 2))) (.int .i64 (q:Int)),
       isAt (cellsU 80 w) (0+(p:Int).toNat * 1) (.u64 (w p)),decide (0≤(p:Int)) && decide ((p:Int) < 80),eqS (.int .i64 (IntKind.wrap .i64 ((i:Int) - 15))) (.int .i64 (p:Int)),decide ((i:Int) < 80)]):=by kernel_rfl
theorem r22c (φ:Fr) (g h w x x0:Nat→UInt64) (b:Nat→UInt8) (n:UInt64) (i y F:Nat):roundO2 Tryz.prog noPS (nr φ) [86,118,119,122,123,200163] [true] [.u64 (g i),.u64 (w i),.int .i64 (y:Int)] Tryz.f116.ntmps (mask 116) F 3 b3 (S3 g h b n w x0 0) (S3 g h b n w x i) =
  some (S3 g h b n w (rnd φ (g i) (w i) x) y,
   [eqS (.int .i64 (IntKind.wrap .i64 ((i:Int)+1))) (.int .i64 (y:Int)),isAt (cellsU 80 w) (0+(i:Int).toNat * 1) (.u64 (w i)),decide (0≤(i:Int)) && decide ((i:Int) < 80),isAt (cellsU 80 g) (0+(i:Int).toNat * 1) (.u64 (g i)),decide (0≤(i:Int)) && decide ((i:Int) < 80),decide ((i:Int) < 80)]):=by kernel_rfl
theorem r22d (φ:Fr) (g h h0 w x:Nat→UInt64) (b:Nat→UInt8) (n:UInt64) (i y F:Nat):roundO2 Tryz.prog noPS (nr φ) [166,168,200015,173,174,179,100179,200180] [true] [.u64 (x i),.u64 (h i),.int .i64 (y:Int)] Tryz.f116.ntmps (mask 116) F 3 b4 (S4 g h0 b n w x 0) (S4 g h b n w x i) =
    some (⟨T4 b x y,[(0,.cells true (cellsU 80 g)),(2,.cells false (putA (hashC h b n) (0+(i:Int).toNat * 1) (cellsA (.u64 (h i+x i))))),(3,.cells false (cellsU 80 w)),(123,.cells false (cellsU 8 x))],171⟩,
      [eqS (.int .i64 (IntKind.wrap .i64 ((i:Int)+1))) (.int .i64 (y:Int)),Nat.ble (0+(i:Int).toNat * 1+1) (hashC h b n).length,decide (0≤(i:Int)) && decide ((i:Int) < 8),isAt (hashC h b n) (0+(i:Int).toNat * 1) (.u64 (h i)),decide (0≤(i:Int)) && decide ((i:Int) < 8),
       eqS (likeA ((cellsU 8 x).getD 0 (.bool false)) ((cellsU 8 x).getD ((i:Int).toNat * 1) (.bool false))) (.u64 (x i)),decide (0≤(i:Int)) && (decide ((i:Int) < 8) && (Nat.blt ((i:Int).toNat * 1) (cellsU 8 x).length && eqS (likeA ((cellsU 8 x).getD 0 (.bool false)) ((cellsU 8 x).getD ((i:Int).toNat * 1) (.bool false))) ((cellsU 8 x).getD ((i:Int).toNat * 1) (.bool false)))),decide ((i:Int) < 8)]):=by kernel_rfl
end Go.Proofs.YtcjkbimdmcfppaaGreatDoor.Sha
namespace Go.Proofs.YtcjkbimdmcfppaaGreatDoor.Sha
open Go Go.Eng
set_option maxRecDepth 1000000
theorem hashC_len {h:Nat→UInt64}{b:Nat→UInt8}{n:UInt64}:(hashC h b n).length=138:=by simp [hashC,cellsU_len,cellsB_len]
theorem hashC_h {h:Nat→UInt64}{b:Nat→UInt8}{n:UInt64}{i:Nat}(hi:i < 8):(hashC h b n)[i]? = some (.u64 (h i)):=by
 unfold hashC
 rw [List.append_assoc,List.getElem?_append_left (by rw [cellsU_len]; exact hi),cellsU_at h hi]
theorem hashC_set {h:Nat→UInt64}{b:Nat→UInt8}{n v:UInt64}{i:Nat}(hi:i < 8):(hashC h b n).set i (.u64 v)=hashC (updF h i v) b n:=by
 unfold hashC
 rw [List.append_assoc,List.set_append_left _ _ (by rw [cellsU_len]; exact hi),set_cellsU h v hi,← List.append_assoc]
theorem in_rng {i n:Nat}{k:Int}(h:i < n) (e:(n:Int)=k:=by rfl):(decide (0≤(i:Int)) && decide ((i:Int) < k))=true:=by subst e; simp; omega
theorem plus1 {i:Nat}(h:i < 1000):eqS (.int .i64 (IntKind.wrap .i64 ((i:Int)+1))) (.int .i64 ((i+1:Nat):Int))=true:=eqS_i64 (by rw [wrapI _ (by omega) (by omega)]; omega)
theorem minus {i k d:Nat}(h:i=k+d) (hi:i < 1000):eqS (.int .i64 (IntKind.wrap .i64 ((i:Int) - (d:Int)))) (.int .i64 (k:Int))=true:=eqS_i64 (by rw [wrapI _ (by omega) (by omega)]; omega)
theorem quo8 {i:Nat}(h:i < 1000):eqS (.int .i64 (IntKind.wrap .i64 (Int.tdiv (i:Int) 8))) (.int .i64 ((i / 8:Nat):Int))=true:=eqS_i64 (by
 have:Int.tdiv (i:Int) 8=((i / 8:Nat):Int):=rfl
 rw [this,wrapI _ (by omega) (by omega)])
theorem like_b {n i:Nat}{b:Nat→UInt8}(h:i < n):likeA ((cellsB n b).getD 0 (.bool false)) ((cellsB n b).getD ((i:Int).toNat * 1) (.bool false))=.u8 (b i):=by
 have e:(i:Int).toNat * 1=i:=by simp
 rw [e,getD_cellsB b h,getD_cellsB b (by omega:0 < n)]; rfl
theorem like_u {n i:Nat}{x:Nat→UInt64}(h:i < n):likeA ((cellsU n x).getD 0 (.bool false)) ((cellsU n x).getD ((i:Int).toNat * 1) (.bool false))=.u64 (x i):=by
 have e:(i:Int).toNat * 1=i:=by simp
 rw [e,getD_cellsU x h,getD_cellsU x (by omega:0 < n)]; rfl
theorem blt_i {i k:Nat}(h:i < k):Nat.blt ((i:Int).toNat * 1) k=true:=by simp [h]
theorem ble_i {i k:Nat}(h:i < k):Nat.ble (0+(i:Int).toNat * 1+1) k=true:=by simp; omega
theorem lt_i {i n:Nat}{k:Int}(h:i < n) (e:(n:Int)=k:=by rfl):decide ((i:Int) < k)=true:=by subst e; simp; omega
theorem gl:Tryz.prog.globals.size=2:=by kernel_rfl
theorem ltL_U (n k:Nat) (f:Nat→UInt64):ltL k (cellsU n f)=true:=by
 have:cellsU n f=((List.range n).map f).map .u64:=by simp [cellsU]
 rw [this]; exact ltL_u64 ..
theorem ltL_B (n k:Nat) (f:Nat→UInt8):ltL k (cellsB n f)=true:=by
 have:cellsB n f=((List.range n).map f).map .u8:=by simp [cellsB]
 rw [this]; exact ltL_u8 ..
theorem ok1 (g h w:Nat→UInt64) (b:Nat→UInt8) (n:UInt64) (i:Nat):okS Tryz.prog (S1 g h b n w i)=true:=by kernel_rfl
theorem ok2 (g h w:Nat→UInt64) (b:Nat→UInt8) (n:UInt64) (i:Nat):okS Tryz.prog (S2 g h b n w i)=true:=by kernel_rfl
theorem ok3 (g h w x:Nat→UInt64) (b:Nat→UInt8) (n:UInt64) (i:Nat):okS Tryz.prog (S3 g h b n w x i)=true:=by kernel_rfl
theorem ok4 (g h w x:Nat→UInt64) (b:Nat→UInt8) (n:UInt64) (i:Nat):okS Tryz.prog (S4 g h b n w x i)=true:=by kernel_rfl
theorem st1 (φ:Fr) (g h:Nat→UInt64) (b:Nat→UInt8) (n:UInt64) (F i:Nat) (hi:i < 128):roundA (evC Tryz.prog (nr φ) Tryz.f116.ntmps (mask 116) F 3 b1) (headA Tryz.prog 2 (S1 g h b n (W1 b 0) 0)) (S1 g h b n (W1 b i) i)=some (S1 g h b n (W1 b (i+1)) (i+1)):=by
 have hk:i / 8 < 80:=by omega
 have e:putA (cellsU 80 (W1 b i)) (0+((i / 8:Nat):Int).toNat * 1) (cellsA (.u64 (shlW (W1 b i (i / 8)) (b i))))=cellsU 80 (W1 b (i+1)):=putA_cellsU _ _ hk
 have r:=r22a φ g h (W1 b i) (W1 b 0) b n i (i / 8) (i+1) F
 rw [e] at r
 refine roundO2_ok (noPS_ok _) r ?_ (ok1 g h (W1 b (i+1)) b n (i+1))
 simp only [allT,plus1 (show i < 1000 by omega),cellsU_len,cellsB_len,ble_i hk,in_rng (k:=80) hk,isAt_cellsU (W1 b i) hk,quo8 (show i < 1000 by omega),like_b hi,eqS_u8,cond_true,blt_i hi]
 have e0:((i:Int).toNat * 1)=i:=by simp
 have d0:decide (0≤(i:Int))=true:=by simp
 rw [e0,getD_cellsB b hi,eqS_u8,lt_i (k:=128) hi,d0]; rfl
theorem st2 (φ:Fr) (g h w:Nat→UInt64) (b:Nat→UInt8) (n:UInt64) (F i:Nat) (hi:i < 64):roundA (evC Tryz.prog (nr φ) Tryz.f116.ntmps (mask 116) F 3 b2) (headA Tryz.prog 2 (S2 g h b n (W2 φ w 0) (0+16))) (S2 g h b n (W2 φ w i) (i+16))=some (S2 g h b n (W2 φ w (i+1)) (i+1+16)):=by
 have h1:i+1 < 80:=by omega
 have h14:i+14 < 80:=by omega
 have h0:i < 80:=by omega
 have h9:i+9 < 80:=by omega
 have h16:i+16 < 80:=by omega
 have e:putA (cellsU 80 (W2 φ w i)) (0+((i+16:Nat):Int).toNat * 1) (cellsA (.u64 (sched φ (W2 φ w i i) (W2 φ w i (i+1)) (W2 φ w i (i+9)) (W2 φ w i (i+14)))))=cellsU 80 (W2 φ w (i+1)):=putA_cellsU _ _ h16
 have r:=r22b φ g h (W2 φ w i) (W2 φ w 0) b n (0+16) (i+16) (i+1) (i+14) i (i+9) (i+1+16) F
 rw [e] at r
 refine roundO2_ok (noPS_ok _) r ?_ (ok2 g h (W2 φ w (i+1)) b n (i+1+16))
 have q:eqS (.int .i64 (IntKind.wrap .i64 (((i+16:Nat):Int)+1))) (.int .i64 ((i+1+16:Nat):Int))=true:=by
  have:=plus1 (show i+16 < 1000 by omega)
  rwa [show i+1+16=i+16+1 by omega]
 have m7:eqS (.int .i64 (IntKind.wrap .i64 (((i+16:Nat):Int) - 7))) (.int .i64 ((i+9:Nat):Int))=true:=minus (d:=7) (by omega) (by omega)
 have m16:eqS (.int .i64 (IntKind.wrap .i64 (((i+16:Nat):Int) - 16))) (.int .i64 ((i:Nat):Int))=true:=minus (d:=16) (by omega) (by omega)
 have m2:eqS (.int .i64 (IntKind.wrap .i64 (((i+16:Nat):Int) - 2))) (.int .i64 ((i+14:Nat):Int))=true:=minus (d:=2) (by omega) (by omega)
 have m15:eqS (.int .i64 (IntKind.wrap .i64 (((i+16:Nat):Int) - 15))) (.int .i64 ((i+1:Nat):Int))=true:=minus (d:=15) (by omega) (by omega)
 simp only [allT,q,m7,m16,m2,m15,cellsU_len,ble_i h16,in_rng (k:=80) h16,in_rng (k:=80) h1,in_rng (k:=80) h14,in_rng (k:=80) h0,in_rng (k:=80) h9,isAt_cellsU (W2 φ w i) h1,isAt_cellsU (W2 φ w i) h14,isAt_cellsU (W2 φ w i) h0,isAt_cellsU (W2 φ w i) h9,cond_true]
 rw [lt_i (k:=80) h16]; rfl
theorem st3 (φ:Fr) (g h w:Nat→UInt64) (b:Nat→UInt8) (n:UInt64) (F i:Nat) (hi:i < 80):roundA (evC Tryz.prog (nr φ) Tryz.f116.ntmps (mask 116) F 3 b3) (headA Tryz.prog 2 (S3 g h b n w (X3 φ g w h 0) 0)) (S3 g h b n w (X3 φ g w h i) i)=some (S3 g h b n w (X3 φ g w h (i+1)) (i+1)):=by
 have r:=r22c φ g h w (X3 φ g w h i) (X3 φ g w h 0) b n i (i+1) F
 refine roundO2_ok (noPS_ok _) r ?_ (ok3 g h w (X3 φ g w h (i+1)) b n (i+1))
 simp only [allT,plus1 (show i < 1000 by omega),isAt_cellsU w hi,isAt_cellsU g hi,cond_true]
 rw [in_rng (k:=80) hi,lt_i (k:=80) hi]; rfl
theorem st4 (φ:Fr) (g h w x:Nat→UInt64) (b:Nat→UInt8) (n:UInt64) (F i:Nat) (hi:i < 8):roundA (evC Tryz.prog (nr φ) Tryz.f116.ntmps (mask 116) F 3 b4) (headA Tryz.prog 2 (S4 g (A4 h x 0) b n w x 0)) (S4 g (A4 h x i) b n w x i)=some (S4 g (A4 h x (i+1)) b n w x (i+1)):=by
 have e:putA (hashC (A4 h x i) b n) (0+(i:Int).toNat * 1) (cellsA (.u64 (A4 h x i i+x i)))=hashC (A4 h x (i+1)) b n:=by
  rw [off_nat,putA_set _ rfl (by rw [hashC_len]; omega),hashC_set hi]; rfl
 have r:=r22d φ g (A4 h x i) (A4 h x 0) w x b n i (i+1) F
 rw [e] at r
 refine roundO2_ok (noPS_ok _) r ?_ (ok4 g (A4 h x (i+1)) w x b n (i+1))
 have e0:((i:Int).toNat * 1)=i:=by simp
 have d0:decide (0≤(i:Int))=true:=by simp
 simp only [allT,plus1 (show i < 1000 by omega),hashC_len,cellsU_len,ble_i (show i < 138 by omega),isAt_get (hashC_h (h:=A4 h x i) (b:=b) (n:=n) hi),like_u hi,eqS_u64,blt_i hi,cond_true]
 rw [in_rng (k:=8) hi,e0,getD_cellsU x hi,eqS_u64,lt_i (k:=8) hi,d0]; rfl
theorem end_of {φ:Fr}{sy:List Nat}{F:Nat}{b:Code}{s s':SA}{id:Nat}{c:Bool}(h:evSO Tryz.prog noPS (nr φ) sy Tryz.f116.ntmps (mask 116) F 3 [b] s ⟨[false],[],[]⟩=some (.exit id,s',⟨[],[],[!c]⟩)) (hc:c=false):evC Tryz.prog (nr φ) Tryz.f116.ntmps (mask 116) F 3 b s=some (.exit id,s'):=by
 have:=(evSO_ok (noPS_ok _) _ _ _ _ _ _ h (by rw [hc]; rfl)).1
 rwa [evS_one] at this
theorem ev22 (φ:Fr) (g h:Nat→UInt64) (b:Nat→UInt8) (n:UInt64) (F:Nat) (hF:128 < F):∃ T' fr',evS Tryz.prog (nr φ) Tryz.f116.ntmps (mask 116) F 3 p22 ⟨startT [.ptr 2 0] 0,[(0,.cells true (cellsU 80 g)),(2,.cells false (hashC h b n))],3⟩ =
  some (.normal,⟨T',H4 g (takeF φ g h b) b n (W2 φ (W1 b 128) 64) (X3 φ g (W2 φ (W1 b 128) 64) h 80),fr'⟩):=by
 have a1:=segO_ok (noPS_ok _) (s22a φ g h b n F) rfl
 rw [List.drop_zero] at a1
 have l1:=evS_loop p22_2 (fun i=>S1 g h b n (W1 b i) i) 128 (fun i hi=>st1 φ g h b n F i hi) (end_of (x22a φ g h (W1 b 128) b n 128 F) (by decide)) hF
 have a2:=segO_ok (noPS_ok _) (s22b φ g h (W1 b 128) b n F) rfl
 have l2:=evS_loop p22_5 (fun i=>S2 g h b n (W2 φ (W1 b 128) i) (i+16)) 64 (fun i hi=>st2 φ g h (W1 b 128) b n F i hi) (end_of (x22b φ g h (W2 φ (W1 b 128) 64) b n (64+16) F) (by decide)) (by omega)
 have a3:=segO_ok (noPS_ok _) (s22c φ g h (W2 φ (W1 b 128) 64) b n F) rfl
 have l3:=evS_loop p22_8 (fun i=>S3 g h b n (W2 φ (W1 b 128) 64) (X3 φ g (W2 φ (W1 b 128) 64) h i) i) 80 (fun i hi=>st3 φ g h (W2 φ (W1 b 128) 64) b n F i hi) (end_of (x22c φ g h (W2 φ (W1 b 128) 64) (X3 φ g (W2 φ (W1 b 128) 64) h 80) b n 80 F) (by decide)) (by omega)
 have a4:=segO_ok (noPS_ok _) (s22d φ g h (W2 φ (W1 b 128) 64) (X3 φ g (W2 φ (W1 b 128) 64) h 80) b n F) rfl
 have l4:=evS_loop p22_10 (fun i=>S4 g (A4 h (X3 φ g (W2 φ (W1 b 128) 64) h 80) i) b n (W2 φ (W1 b 128) 64) (X3 φ g (W2 φ (W1 b 128) 64) h 80) i) 8 (fun i hi=>st4 φ g h (W2 φ (W1 b 128) 64) (X3 φ g (W2 φ (W1 b 128) 64) h 80) b n F i hi) (end_of (x22d φ g (A4 h (X3 φ g (W2 φ (W1 b 128) 64) h 80) 8) (W2 φ (W1 b 128) 64) (X3 φ g (W2 φ (W1 b 128) 64) h 80) b n 8 F) (by decide)) (by omega)
 refine ⟨T4 b (X3 φ g (W2 φ (W1 b 128) 64) h 80) 8++[(166,.bool false)],179,?_⟩
 rw [a1]
 refine l1.trans ?_
 rw [a2]
 refine l2.trans ?_
 rw [a3]
 refine l3.trans ?_
 rw [a4]
 refine l4.trans ?_
 rw [p22_11]; rfl
end Go.Proofs.YtcjkbimdmcfppaaGreatDoor.Sha
namespace Go.Eng
open Go
def oneE (n:Nat) (k:(Nat→Option AObj)→List AVal→Option (AVal × List AVal)):EffA:=
 .eff fun _ η=>match η n with
  | some (.cells false c)=>match k η c with
   | some (v,c')=>some (v,[(n,some (.cells false c'))])
   | none=>none
  | _=>none
theorem callOk_one {P:Program}{cs:CS}(hcs:CSOk P cs) (hm:P.follows .mixedOrders=true){f:FuncId}{args cargs:List AVal}{n:Nat}(hcan:canL P.globals.size [] args=some (cargs,[n])){k:(Nat→Option AObj)→List AVal→Option (AVal × List AVal)}
  (h:∀ η c v c',k η c=some (v,c')→ltL 0 c=true∧ltL 0 c'=true∧ltV 0 v=true∧∃ F nn H' fr',run1 P cs nn F f cargs (globA η P.globals.size 0++[(P.globals.size,.cells false c)]) (P.globals.size+1)=some (v,H',fr')∧aget H' P.globals.size=some (.cells false c')):CallOk P f args (oneE n k):=by
 intro σ args' H w base v0 H0 hl hg hH happ hfree
 unfold oneE EffA.app at happ
 simp only at happ
 cases hn:aget H n with
 | none=>rw [hn] at happ; cases happ
 | some ob =>
  obtain ⟨ro,c⟩:=ob
  rw [hn] at happ
  cases ro with
  | true=>cases happ
  | false =>
   simp only at happ
   cases hk:k (aget H) c with
   | none=>rw [hk] at happ; cases happ
   | some r =>
    obtain ⟨v,c'⟩:=r
    rw [hk] at happ
    simp only [Option.some.injEq,Prod.mk.injEq] at happ
    obtain ⟨rfl,rfl⟩:=happ
    obtain ⟨h1,h2,h3,F,nn,H',fr',h4,h5⟩:=h (aget H) c v c' hk
    refine callOk_view hcs hm (nn:=nn) (F:=F) hcan σ args' H w base v _ hl hg hH ?_ hfree
    unfold viewE EffA.app
    simp only [objsA,hn,h1,cond_true]
    have h4':run1 P cs nn F f cargs (globA (aget H) P.globals.size 0++[(P.globals.size,.cells false c)]) (P.globals.size+[n].length)=some (v,H',fr'):=h4
    rw [h4']
    simp only [backA,hn,h5,h2,cond_true,h3,nodupB,List.all_nil,Bool.and_self]
theorem run1_fin1 {P:Program}{cs:CS}{nn F:Nat}{f:FuncId}{fn:Func}{c:Code}{args:List AVal}{H:HL}{fr:Nat}(hf:P.funcs[f]? = some fn) (hb:fn.body=some c) (hn:Nat.ble args.length fn.ntmps=true)
  {x:XA} {s:SA} (he:evS P cs fn.ntmps nn F fr (pieces c) ⟨startT args 0,H,fr⟩=some (x,s)) (hx:x=.normal ∨ x=.ret) {v:AVal} (hr:resA P s.T s.H fn.results.toList=some [v]):run1 P cs nn F f args H fr=some (v,s.H,s.fr):=by
 unfold run1
 simp only [hf,hb]
 unfold runF
 rw [hn,evC_pieces,he]
 rcases hx with rfl | rfl
 all_goals simp only [cond_true,hr]
theorem psOne_ok {P:Program}{f:FuncId}{g:List AVal→Option (EffA × Bool)}(h:∀ args e,g args=some (e,true)→CallOk P f args e):CSOk P (csP (psOne f g)):=by
 intro f' args e he
 unfold csP psOne at he
 cases hf:Nat.beq f' f with
 | false=>rw [hf] at he; cases he
 | true =>
  rw [hf] at he
  have hf:=Nat.eq_of_beq_eq_true hf
  subst hf
  simp only at he
  cases hg:g args with
  | none=>rw [hg] at he; cases he
  | some r =>
   obtain ⟨e',c⟩:=r
   rw [hg] at he
   cases c with
   | false=>cases he
   | true=>cases he; exact h args _ hg
def gU (c:List AVal) (j:Nat):UInt64:=match c[j]? with
 | some (.u64 x)=>x
 | _=>0
def gB (c:List AVal) (j:Nat):UInt8:=match c[j]? with
 | some (.u8 x)=>x
 | _=>0
def shU:Nat→List AVal→Option (List AVal)
 | 0,c=>some c
 | n+1,.u64 _::c=>shU n c
 | _+1,_=>none
def shB:Nat→List AVal→Option (List AVal)
 | 0,c=>some c
 | n+1,.u8 _::c=>shB n c
 | _+1,_=>none
theorem cellsU_succ (n:Nat) (f:Nat→UInt64):cellsU (n+1) f=.u64 (f 0)::cellsU n fun j=>f (j+1):=by
 unfold cellsU
 rw [List.range_succ_eq_map,List.map_cons,List.map_map]; rfl
theorem cellsB_succ (n:Nat) (f:Nat→UInt8):cellsB (n+1) f=.u8 (f 0)::cellsB n fun j=>f (j+1):=by
 unfold cellsB
 rw [List.range_succ_eq_map,List.map_cons,List.map_map]; rfl
theorem shU_ok:∀ {n:Nat}{c r:List AVal},shU n c=some r→c=cellsU n (gU c)++r
 | 0,c,r,h=>by cases h; rfl
 | n+1,[],r,h=>by cases h
 | n+1,.u64 x::c,r,h=>by
  have:=shU_ok (n:=n) (c:=c) h
  rw [cellsU_succ]
  have e:cellsU n (fun j=>gU (.u64 x::c) (j+1))=cellsU n (gU c):=cellsU_congr fun i _=>by unfold gU; simp
  rw [e]
  show AVal.u64 x::c=AVal.u64 x::(cellsU n (gU c)++r)
  rw [← this]
 | n+1,.bool _::c,r,h | n+1,.u8 _::c,r,h | n+1,.u32 _::c,r,h | n+1,.b64 _::c,r,h | n+1,.int _ _::c,r,h | n+1,.str _::c,r,h | n+1,.nilPtr::c,r,h | n+1,.ptr _ _::c,r,h | n+1,.nilSlice::c,r,h
 | n+1,.slice _ _ _ _::c,r,h | n+1,.nilMap::c,r,h | n+1,.map _::c,r,h | n+1,.nilFunc::c,r,h | n+1,.fn _ _::c,r,h | n+1,.nilIface::c,r,h | n+1,.iface _ _::c,r,h | n+1,.agg _::c,r,h | n+1,.tup _::c,r,h | n+1,.tp _ _ _::c,r,h=>by cases h
theorem shB_ok:∀ {n:Nat}{c r:List AVal},shB n c=some r→c=cellsB n (gB c)++r
 | 0,c,r,h=>by cases h; rfl
 | n+1,[],r,h=>by cases h
 | n+1,.u8 x::c,r,h=>by
  have:=shB_ok (n:=n) (c:=c) h
  rw [cellsB_succ]
  have e:cellsB n (fun j=>gB (.u8 x::c) (j+1))=cellsB n (gB c):=cellsB_congr fun i _=>by unfold gB; simp
  rw [e]
  show AVal.u8 x::c=AVal.u8 x::(cellsB n (gB c)++r)
  rw [← this]
 | n+1,.bool _::c,r,h | n+1,.u64 _::c,r,h | n+1,.u32 _::c,r,h | n+1,.b64 _::c,r,h | n+1,.int _ _::c,r,h | n+1,.str _::c,r,h | n+1,.nilPtr::c,r,h | n+1,.ptr _ _::c,r,h | n+1,.nilSlice::c,r,h
 | n+1,.slice _ _ _ _::c,r,h | n+1,.nilMap::c,r,h | n+1,.map _::c,r,h | n+1,.nilFunc::c,r,h | n+1,.fn _ _::c,r,h | n+1,.nilIface::c,r,h | n+1,.iface _ _::c,r,h | n+1,.agg _::c,r,h | n+1,.tup _::c,r,h | n+1,.tp _ _ _::c,r,h=>by cases h
def nU (k:Nat) (f:Nat→UInt64):Nat→UInt64:=fun j=>if j < k then f j else 0
def nB (k:Nat) (f:Nat→UInt8):Nat→UInt8:=fun j=>if j < k then f j else 0
theorem gU_cellsU (k:Nat) (f:Nat→UInt64):gU (cellsU k f)=nU k f:=by
 funext j
 unfold gU nU
 by_cases h:j < k
 ·rw [cellsU_at f h,if_pos h]
 ·rw [List.getElem?_eq_none (by rw [cellsU_len]; omega),if_neg h]
theorem nU_nU (k:Nat) (f:Nat→UInt64):nU k (nU k f)=nU k f:=by
 funext j
 unfold nU
 by_cases h:j < k <;> simp [h]
theorem nB_nB (k:Nat) (f:Nat→UInt8):nB k (nB k f)=nB k f:=by
 funext j
 unfold nB
 by_cases h:j < k <;> simp [h]
theorem cellsU_nU (k:Nat) (f:Nat→UInt64):cellsU k (nU k f)=cellsU k f:=cellsU_congr fun i h=>by unfold nU; rw [if_pos h]
theorem cellsB_nB (k:Nat) (f:Nat→UInt8):cellsB k (nB k f)=cellsB k f:=cellsB_congr fun i h=>by unfold nB; rw [if_pos h]
end Go.Eng
namespace Go.Proofs.YtcjkbimdmcfppaaGreatDoor.Sha
open Go Go.Eng
set_option maxRecDepth 1000000
structure St where
 h:Nat→UInt64
 b:Nat→UInt8
 n:UInt64
def stC (s:St):List AVal:=hashC s.h s.b s.n
def shH (c:List AVal):Bool:=match shU 8 c with
 | some c1=>match shB 128 c1 with
  | some [.u64 _,.bool true]=>true
  | _=>false
 | none=>false
def shG (c:List AVal):Bool:=match shU 80 c with
 | some []=>true
 | _=>false
def hst (c:List AVal):St:=⟨nU 8 (gU c),nB 128 (gB (c.drop 8)),gU (c.drop 136) 0⟩
theorem shG_ok {c:List AVal}(h:shG c=true):c=cellsU 80 (gU c):=by
 unfold shG at h
 split at h
 ·rename_i hs
  have:=shU_ok hs
  rwa [List.append_nil] at this
 ·cases h
theorem shH_ok {c:List AVal}(h:shH c=true):c=stC (hst c):=by
 unfold shH at h
 split at h
 ·rename_i c1 h1
  split at h
  ·rename_i x h2
   have e1:=shU_ok h1
   have e2:=shB_ok h2
   have l8:(cellsU 8 (gU c)).length=8:=cellsU_len
   have d8:c.drop 8=c1:=by
    rw [e1,List.drop_append_of_le_length (by rw [l8]; exact Nat.le_refl 8),List.drop_of_length_le (by rw [l8]; exact Nat.le_refl 8),List.nil_append]
   have l128:(cellsB 128 (gB c1)).length=128:=cellsB_len
   have d136:c.drop 136=[.u64 x,.bool true]:=by
    rw [show (136:Nat)=8+128 by rfl,← List.drop_drop,d8,e2,List.drop_append_of_le_length (by rw [l128]; exact Nat.le_refl 128),List.drop_of_length_le (by rw [l128]; exact Nat.le_refl 128),List.nil_append]
   unfold stC hashC hst
   simp only
   rw [cellsU_nU,cellsB_nB,d8,d136]
   have e3:gU [AVal.u64 x,.bool true] 0=x:=rfl
   rw [e3,List.append_assoc,← e2]
   exact e1
  ·cases h
 ·cases h
theorem hst_stC (s:St):hst (stC s)=⟨nU 8 s.h,nB 128 s.b,s.n⟩:=by
 unfold hst stC hashC
 have l8:(cellsU 8 s.h).length=8:=cellsU_len
 have l128:(cellsB 128 s.b).length=128:=cellsB_len
 have d8:(cellsU 8 s.h++cellsB 128 s.b++[AVal.u64 s.n,.bool true]).drop 8=cellsB 128 s.b++[AVal.u64 s.n,.bool true]:=by
  rw [List.append_assoc,List.drop_append_of_le_length (by rw [l8]; exact Nat.le_refl 8),List.drop_of_length_le (by rw [l8]; exact Nat.le_refl 8),List.nil_append]
 have d136:(cellsU 8 s.h++cellsB 128 s.b++[AVal.u64 s.n,.bool true]).drop 136=[AVal.u64 s.n,.bool true]:=by
  rw [show (136:Nat)=8+128 by rfl,← List.drop_drop,d8,List.drop_append_of_le_length (by rw [l128]; exact Nat.le_refl 128),List.drop_of_length_le (by rw [l128]; exact Nat.le_refl 128),List.nil_append]
 rw [d8,d136]
 congr 1
 ·funext j
  unfold nU gU
  by_cases hj:j < 8
  ·rw [if_pos hj,if_pos hj,List.append_assoc,List.getElem?_append_left (by rw [l8]; exact hj),cellsU_at _ hj]
  ·rw [if_neg hj,if_neg hj]
 ·funext j
  unfold nB gB
  by_cases hj:j < 128
  ·rw [if_pos hj,if_pos hj,List.getElem?_append_left (by rw [l128]; exact hj),cellsB_at _ hj]
  ·rw [if_neg hj,if_neg hj]
def nS (s:St):St:=⟨nU 8 s.h,nB 128 s.b,s.n⟩
theorem stC_nS (s:St):stC (nS s)=stC s:=by unfold stC nS hashC; simp only [cellsU_nU,cellsB_nB]
theorem nS_nS (s:St):nS (nS s)=nS s:=by unfold nS; simp only [nU_nU,nB_nB]
def hashK (v:(Nat→UInt64)→St→AVal) (t:(Nat→UInt64)→St→St) (η:Nat→Option AObj) (c:List AVal):Option (AVal × List AVal):=match η 0,η 1 with
 | some (.cells true g),none=>cond (shG g && shH c) (some (v (gU g) (hst c),stC (t (gU g) (hst c)))) none
 | _,_=>none
theorem ltH_stC (s:St) (k:Nat):ltL k (stC s)=true:=by
 unfold stC hashC
 have a:∀ (l m:List AVal),ltL k l=true→ltL k m=true→ltL k (l++m)=true:=fun l m h1 h2=>by
  induction l with
  | nil=>exact h2
  | cons x l ih =>
   simp only [ltL] at h1
   cases hx:ltS k x <;> rw [hx] at h1 <;> simp only [cond_true,cond_false] at h1
   ·cases h1
   ·simp only [List.cons_append,ltL,hx,ih h1,cond_true]
 exact a _ _ (a _ _ (ltL_U ..) (ltL_B ..)) rfl
theorem callOk_hash {cs:CS}(hcs:CSOk Tryz.prog cs){f:FuncId}{args cargs:List AVal}{m:Nat}(hcan:canL 2 [] args=some (cargs,[m])){v:(Nat→UInt64)→St→AVal}{t:(Nat→UInt64)→St→St}
  (hv:∀ g s,ltV 0 (v g s)=true)
  (h:∀ g s,nU 80 g=g→nS s=s→∃ F nn H' fr',run1 Tryz.prog cs nn F f cargs [(0,.cells true (cellsU 80 g)),(2,.cells false (stC s))] 3=some (v g s,H',fr')∧aget H' 2=some (.cells false (stC (t g s)))):CallOk Tryz.prog f args (oneE m (hashK v t)):=by
 have e1:Tryz.prog.globals.size=2:=gl
 refine callOk_one hcs (by kernel_rfl) (by rw [e1]; exact hcan) fun η c w c' hk => ?_
 unfold hashK at hk
 split at hk
 ·rename_i g0 h0 h00
  cases hb:(shG g0 && shH c) <;> rw [hb] at hk <;> simp only [cond_true,cond_false] at hk
  ·cases hk
  ·rw [Bool.and_eq_true] at hb
   simp only [Option.some.injEq,Prod.mk.injEq] at hk
   obtain ⟨rfl,rfl⟩:=hk
   have ec:=shH_ok hb.2
   have eg:=shG_ok hb.1
   have en:nU 80 (gU g0)=gU g0:=by
    have:gU g0=gU (cellsU 80 (gU g0)):=congrArg gU eg
    rw [gU_cellsU] at this
    exact this.symm
   have es:nS (hst c)=hst c:=by
    have:hst c=hst (stC (hst c)):=congrArg hst ec
    rw [hst_stC] at this
    exact this.symm
   refine ⟨by rw [ec]; exact ltH_stC ..,ltH_stC ..,hv ..,?_⟩
   obtain ⟨F,nn,H',fr',h1,h2⟩:=h (gU g0) (hst c) en es
   refine ⟨F,nn,H',fr',?_,by rw [e1]; exact h2⟩
   rw [e1]
   have hg:globA η 2 0=[(0,.cells true (cellsU 80 (gU g0)))]:=by
    have:ltL 0 g0=true:=by rw [eg]; exact ltL_U ..
    simp only [globA,h0,h00,this,cond_true]
    rw [← eg]
   rw [hg,ec]
   rw [← ec]
   rw [← ec] at h1
   exact h1
 ·cases hk
def takeS (φ:Fr) (g:Nat→UInt64) (s:St):St:=nS ⟨takeF φ g s.h s.b,s.b,s.n⟩
def k22 (φ:Fr):List AVal→Option EffA
 | [.ptr m 0]=>some (oneE m (hashK (fun _ _=>.tup []) (takeS φ)))
 | _=>none
theorem f22_at:Tryz.prog.funcs[116]? = some Tryz.f116:=by kernel_rfl
theorem f22_body:Tryz.f116.body=some (bodyOf Tryz.f116):=by kernel_rfl
theorem callOk22 (φ:Fr) (hcs:CSOk Tryz.prog (nr φ)):CSOk Tryz.prog (csOne 116 (k22 φ)):=by
 refine csOne_ok fun args e h => ?_
 unfold k22 at h
 split at h
 ·rename_i m
  cases h
  refine callOk_hash (cargs:=[.ptr 2 0]) hcs rfl (fun _ _=>rfl) fun g s hg hs => ?_
  obtain ⟨T',fr',he⟩:=ev22 φ g s.h s.b s.n 200 (by omega)
  exact ⟨200,mask 116,_,fr',run1_fin f22_at f22_body (by kernel_rfl) he (.inl rfl) rfl (by decide),by unfold takeS; rw [stC_nS]; rfl⟩
 ·cases h
end Go.Proofs.YtcjkbimdmcfppaaGreatDoor.Sha
namespace Go.Proofs.YtcjkbimdmcfppaaGreatDoor.Sha
open Go Go.Eng
set_option maxRecDepth 1000000
def n18 (φ:Fr):CS:=csAlt (nr φ) (csOne 116 (k22 φ))
noncomputable def p18:List Code:=pieces (bodyOf Tryz.f92)
def HS (g:Nat→UInt64) (c:List AVal):HL:=[(0,.cells true (cellsU 80 g)),(2,.cells false c)]
theorem s18a (φ:Fr) (g h:Nat→UInt64) (b:Nat→UInt8) (n:UInt64) (x:UInt8) (F:Nat):segO (evSO Tryz.prog noPS (n18 φ) [13,100013] Tryz.f92.ntmps (mask 92) F 3 ((p18.drop 0).take 1) ⟨startT [.ptr 2 0,.u8 x] 0,HS g (hashC h b n),3⟩ ⟨[],[],[]⟩) =
  some (⟨[(0,.ptr 2 0),(1,.u8 x)],HS g (putA (hashC h b n) ((0+8)+((n % 128).toNat:Int).toNat * 1) (cellsA (.u8 x))),91⟩,[Nat.ble (((0+8)+((n % 128).toNat:Int).toNat * 1)+(cellsA (.u8 x)).length) (hashC h b n).length,decide (0≤((n % 128).toNat:Int)) && decide (((n % 128).toNat:Int) < 128)]):=by kernel_rfl
theorem s18b (φ:Fr) (g h:Nat→UInt64) (b:Nat→UInt8) (n:UInt64) (x:UInt8) (F:Nat):evSO Tryz.prog noPS (n18 φ) [26] Tryz.f92.ntmps (mask 92) F 3 (p18.drop 1) ⟨[(0,.ptr 2 0),(1,.u8 x)],HS g (hashC h b n),91⟩ ⟨[true],[],[]⟩ =
  some (.normal,⟨[(0,.ptr 2 0),(1,.u8 x),(26,.bool true)],HS g (stC (takeS φ (gU (cellsU 80 g)) (hst (hashC h b (n+1))))),219⟩,⟨[],[],[((n+1) % 128) == 0]⟩):=by kernel_rfl
theorem s18c (φ:Fr) (g h:Nat→UInt64) (b:Nat→UInt8) (n:UInt64) (x:UInt8) (F:Nat):evSO Tryz.prog noPS (n18 φ) [26] Tryz.f92.ntmps (mask 92) F 3 (p18.drop 1) ⟨[(0,.ptr 2 0),(1,.u8 x)],HS g (hashC h b n),91⟩ ⟨[false],[],[]⟩ =
  some (.normal,⟨[(0,.ptr 2 0),(1,.u8 x),(26,.bool false)],HS g (hashC h b (n+1)),203⟩,⟨[],[],[!(((n+1) % 128) == 0)]⟩):=by kernel_rfl
theorem hashC_b {h:Nat→UInt64}{b:Nat→UInt8}{n:UInt64}{x:UInt8}{i:Nat}(hi:i < 128):(hashC h b n).set (8+i) (.u8 x)=hashC h (updF b i x) n:=by
 unfold hashC
 have l8:(cellsU 8 h).length=8:=cellsU_len
 have l128:(cellsB 128 b).length=128:=cellsB_len
 rw [List.append_assoc,List.set_append_right _ _ (by omega),l8,show 8+i - 8=i by omega,List.set_append_left _ _ (by rw [l128]; exact hi),set_cellsB b x hi,← List.append_assoc]
def add0 (s:St) (x:UInt8):St:=nS ⟨s.h,updF s.b (s.n % 128).toNat x,s.n+1⟩
def addS (φ:Fr) (g:Nat→UInt64) (s:St) (x:UInt8):St:=cond ((s.n+1) % 128 == 0) (takeS φ g (add0 s x)) (add0 s x)
def k18 (φ:Fr):List AVal→Option EffA
 | [.ptr m 0,.u8 x]=>some (oneE m (hashK (fun _ _=>.tup []) (fun g s=>addS φ g s x)))
 | _=>none
theorem f18_at:Tryz.prog.funcs[92]? = some Tryz.f92:=by kernel_rfl
theorem f18_body:Tryz.f92.body=some (bodyOf Tryz.f92):=by kernel_rfl
theorem n18_ok {φ:Fr}(hcs:CSOk Tryz.prog (nr φ)):CSOk Tryz.prog (n18 φ):=csAlt_ok hcs (callOk22 φ hcs)
theorem mod128 (n:UInt64):(n % 128).toNat < 128:=by rw [UInt64.toNat_mod]; exact Nat.mod_lt _ (by decide)
theorem stC_eq {s t:St}(h:nS s=nS t):stC s=stC t:=by rw [← stC_nS s,h,stC_nS t]
theorem nS_add0 (s:St) (x:UInt8):nS (add0 s x)=add0 s x:=nS_nS _
theorem nS_takeS (φ:Fr) (g:Nat→UInt64) (s:St):nS (takeS φ g s)=takeS φ g s:=nS_nS _
theorem nS_addS (φ:Fr) (g:Nat→UInt64) (s:St) (x:UInt8):nS (addS φ g s x)=addS φ g s x:=by
 unfold addS
 cases ((s.n+1) % 128 == 0) with
 | true=>exact nS_takeS ..
 | false=>exact nS_add0 ..
theorem callOk18 (φ:Fr) (hcs:CSOk Tryz.prog (nr φ)):CSOk Tryz.prog (csOne 92 (k18 φ)):=by
 refine csOne_ok fun args e h => ?_
 unfold k18 at h
 split at h
 ·rename_i m x
  cases h
  refine callOk_hash (cargs:=[.ptr 2 0,.u8 x]) (n18_ok hcs) rfl (fun _ _=>rfl) fun g s hg hs => ?_
  have e8:0+8+(((s.n % 128).toNat:Int).toNat * 1)=8+(s.n % 128).toNat:=by
   rw [Int.toNat_natCast]; omega
  have h128:=mod128 s.n
  have e1:putA (hashC s.h s.b s.n) (0+8+(((s.n % 128).toNat:Int).toNat * 1)) (cellsA (.u8 x))=hashC s.h (updF s.b (s.n % 128).toNat x) s.n:=by
   rw [e8,putA_set _ rfl (by rw [hashC_len]; omega),hashC_b h128]
  have r:=segO_ok (noPS_ok _) (s18a φ g s.h s.b s.n x 200) (by
   have a1:(decide (0≤((s.n % 128).toNat:Int)) && decide (((s.n % 128).toNat:Int) < 128))=true:=by
    rw [Bool.and_eq_true,decide_eq_true_eq,decide_eq_true_eq]; omega
   have a2:Nat.ble (0+8+(((s.n % 128).toNat:Int).toNat * 1)+(cellsA (.u8 x)).length) (hashC s.h s.b s.n).length=true:=by
    rw [e8,hashC_len]; simp [cellsA]; omega
   simp only [allT,a1,a2,cond_true])
  rw [List.drop_zero,e1] at r
  have hn0:stC ⟨s.h,updF s.b (s.n % 128).toNat x,s.n+1⟩=stC (add0 s x):=stC_eq (nS_nS _).symm
  cases hz:((s.n+1) % 128 == 0) with
  | true =>
   have q:=(evSO_ok (noPS_ok _) _ _ _ _ _ _ (s18b φ g s.h (updF s.b (s.n % 128).toNat x) s.n x 200) (by simp only [allT,hz,cond_true])).1
   have ev:=r.trans q
   refine ⟨200,mask 92,_,_,run1_fin f18_at f18_body (by kernel_rfl) ev (.inl rfl) rfl (by decide),?_⟩
   have:gU (cellsU 80 g)=g:=by rw [gU_cellsU,hg]
   have e2:hst (hashC s.h (updF s.b (s.n % 128).toNat x) (s.n+1))=add0 s x:=hst_stC ⟨s.h,updF s.b (s.n % 128).toNat x,s.n+1⟩
   show some (AObj.cells false (stC (takeS φ (gU (cellsU 80 g)) (hst (hashC s.h (updF s.b (s.n % 128).toNat x) (s.n+1))))))=_
   rw [this,e2]
   unfold addS
   rw [hz]; rfl
  | false =>
   have q:=(evSO_ok (noPS_ok _) _ _ _ _ _ _ (s18c φ g s.h (updF s.b (s.n % 128).toNat x) s.n x 200) (by simp only [allT,hz,Bool.not_false,cond_true])).1
   have ev:=r.trans q
   refine ⟨200,mask 92,_,_,run1_fin f18_at f18_body (by kernel_rfl) ev (.inl rfl) rfl (by decide),?_⟩
   show some (AObj.cells false (stC ⟨s.h,updF s.b (s.n % 128).toNat x,s.n+1⟩))=_
   unfold addS
   rw [hz,hn0]; rfl
 ·cases h
end Go.Proofs.YtcjkbimdmcfppaaGreatDoor.Sha
namespace Go.Proofs.YtcjkbimdmcfppaaGreatDoor.Sha
open Go Go.Eng
set_option maxRecDepth 1000000
def n14 (φ:Fr):CS:=csAlt (nr φ) (csOne 92 (k18 φ))
theorem n14_ok {φ:Fr}(hcs:CSOk Tryz.prog (nr φ)):CSOk Tryz.prog (n14 φ):=csAlt_ok hcs (callOk18 φ hcs)
noncomputable def p14:List Code:=pieces (bodyOf Tryz.f52)
def loopOf:Code→Code
 | .block _ (.loop b)=>b
 | c=>c
noncomputable def b14:Code:=loopOf (p14.getD 4 .skip)
def S14 (g:Nat→UInt64) (s:St) (l:List UInt8) (fr:Nat) (t:TL) (i:Nat):SA:=⟨[(0,.ptr 2 0),(1,.str l)]++t++[(16,.int .i64 (l.length:Int)),(17,.int .i64 (i:Int))],HS g (stC s),fr⟩
theorem p14_4:p14[4]? = some (.block 0 (.loop b14)):=by kernel_rfl
theorem s14a (φ:Fr) (g:Nat→UInt64) (s:St) (l:List UInt8) (F:Nat):segO (evSO Tryz.prog noPS (n14 φ) [] Tryz.f52.ntmps (mask 52) F 3 ((p14.drop 0).take 4) ⟨startT [.ptr 2 0,.str l] 0,HS g (stC s),3⟩ ⟨[],[],[]⟩) =
  some (S14 g s l 107 [(4,.int .i64 0),(14,.bool false)] 0,[]):=by kernel_rfl
theorem r14 (φ:Fr) (g:Nat→UInt64) (s s0:St) (l:List UInt8) (i j F:Nat):roundO2 Tryz.prog noPS (n14 φ) [18,23,200025] [true] [.int .i64 (j:Int)] Tryz.f52.ntmps (mask 52) F 3 b14 (S14 g s0 l 107 [(4,.int .i64 0),(14,.bool false)] 0) (S14 g s l 107 [(4,.int .i64 0),(14,.bool false)] i) =
  some (S14 g (addS φ (gU (cellsU 80 g)) (hst (stC s)) (l.getD (Int.toNat (i:Int)) 0)) l 107 [(4,.int .i64 0),(14,.bool false)] j,[eqS (.int .i64 (IntKind.wrap .i64 ((i:Int)+1))) (.int .i64 (j:Int)),decide (0≤(i:Int)) && decide ((i:Int) < (l.length:Int)),decide ((i:Int) < (l.length:Int))]):=by kernel_rfl
theorem x14 (φ:Fr) (g:Nat→UInt64) (s:St) (l:List UInt8) (i F:Nat):evSO Tryz.prog noPS (n14 φ) [18] Tryz.f52.ntmps (mask 52) F 3 [b14] (S14 g s l 107 [(4,.int .i64 0),(14,.bool false)] i) ⟨[false],[],[]⟩ =
  some (.exit 0,⟨(S14 g s l 107 [(4,.int .i64 0),(14,.bool false)] i).T++[(18,.bool false)],HS g (stC s),115⟩,⟨[],[],[!(decide ((i:Int) < (l.length:Int)))]⟩):=by kernel_rfl
theorem ok14 (g:Nat→UInt64) (s:St) (l:List UInt8) (i:Nat):okS Tryz.prog (S14 g s l 107 [(4,.int .i64 0),(14,.bool false)] i)=true:=by kernel_rfl
theorem z14 (φ:Fr) (g:Nat→UInt64) (s:St) (l:List UInt8) (i F:Nat):evS Tryz.prog (n14 φ) Tryz.f52.ntmps (mask 52) F 3 (p14.drop 5) ⟨(S14 g s l 107 [(4,.int .i64 0),(14,.bool false)] i).T++[(18,.bool false)],HS g (stC s),115⟩ =
  some (.ret,⟨[(0,.ptr 2 0),(1,.str l),(4,.int .i64 0),(14,.bool false),(16,.int .i64 (l.length:Int)),(17,.int .i64 (i:Int)),(18,.bool false)],HS g (stC s),123⟩):=by kernel_rfl
end Go.Proofs.YtcjkbimdmcfppaaGreatDoor.Sha
namespace Go.Proofs.YtcjkbimdmcfppaaGreatDoor.Sha
open Go Go.Eng
set_option maxRecDepth 1000000
noncomputable def p15:List Code:=pieces (bodyOf Tryz.f53)
noncomputable def b15 (k:Nat):Code:=loopOf (p15.getD k .skip)
def T15 (x:UInt64):TL:=[(0,.ptr 2 0),(2,.str []),(16,.bool false),(3,.ptr 107 0),(4,.u64 x)]
def H15 (g:Nat→UInt64) (s c:St):HL:=[(0,.cells true (cellsU 80 g)),(2,.cells false (stC s)),(107,.cells false (stC c))]
def S15A (g:Nat→UInt64) (s c:St) (x:UInt64):SA:=⟨T15 x,H15 g s c,155⟩
def S15B (g:Nat→UInt64) (s c:St) (x:UInt64) (i:Nat):SA:=⟨T15 x++[(26,.bool false),(28,.int .i64 (i:Int))],H15 g s c,195⟩
def S15C (g:Nat→UInt64) (s c:St) (x:UInt64) (i:Nat):SA:=⟨T15 x++[(26,.bool false),(28,.int .i64 ((8:Nat):Int)),(29,.bool false),(32,.int .i64 (i:Int))],H15 g s c,211⟩
def T15D (x:UInt64) (i:Nat):TL:=T15 x++[(26,.bool false),(28,.int .i64 ((8:Nat):Int)),(29,.bool false),(32,.int .i64 ((8:Nat):Int)),(33,.bool false),(6,.ptr 219 0),(45,.int .i64 (i:Int))]
def H15d (g:Nat→UInt64) (s c:St) (o:List AVal):HL:=[(0,.cells true (cellsU 80 g)),(2,.cells false (stC s)),(107,.cells false (stC c)),(219,.cells false o)]
def S15D (g:Nat→UInt64) (s c:St) (x:UInt64) (o:List AVal) (i:Nat):SA:=⟨T15D x i,H15d g s c o,235⟩
theorem p15_6:p15[6]? = some (.block 0 (.loop (b15 6))):=by kernel_rfl
theorem p15_8:p15[8]? = some (.block 2 (.loop (b15 8))):=by kernel_rfl
theorem p15_10:p15[10]? = some (.block 4 (.loop (b15 10))):=by kernel_rfl
theorem p15_13:p15[13]? = some (.block 6 (.loop (b15 13))):=by kernel_rfl
section
variable (φ:Fr) (g:Nat→UInt64) (s c c0:St) (x y:UInt64) (o:Nat→UInt8) (i j p F:Nat)
theorem s15a:segO (evSO Tryz.prog noPS (n14 φ) [] Tryz.f53.ntmps (mask 53) F 3 ((p15.drop 0).take 6) ⟨startT [.ptr 2 0] 0,HS g (stC s),3⟩ ⟨[],[],[]⟩)=some (S15A g s (addS φ (gU (cellsU 80 g)) (hst (stC s)) 128) s.n,[]):=by kernel_rfl
theorem r15A:roundO2 Tryz.prog noPS (n14 φ) [26] [true] [] Tryz.f53.ntmps (mask 53) F 3 (b15 6) (S15A g s c0 x) (S15A g s c x)=some (S15A g s (addS φ (gU (cellsU 80 g)) (hst (stC c)) 0) x,[c.n % 128 != 112]):=by kernel_rfl
theorem x15A:evSO Tryz.prog noPS (n14 φ) [26] Tryz.f53.ntmps (mask 53) F 3 [b15 6] (S15A g s c x) ⟨[false],[],[]⟩=some (.exit 0,⟨T15 x++[(26,.bool false)],H15 g s c,187⟩,⟨[],[],[!(c.n % 128 != 112)]⟩):=by kernel_rfl
theorem s15b:segO (evSO Tryz.prog noPS (n14 φ) [] Tryz.f53.ntmps (mask 53) F 3 ((p15.drop 7).take 1) ⟨T15 x++[(26,.bool false)],H15 g s c,187⟩ ⟨[],[],[]⟩)=some (S15B g s c x 0,[]):=by kernel_rfl
theorem r15B:roundO2 Tryz.prog noPS (n14 φ) [29,200031] [true] [.int .i64 (j:Int)] Tryz.f53.ntmps (mask 53) F 3 (b15 8) (S15B g s c0 x 0) (S15B g s c x i)=some (S15B g s (addS φ (gU (cellsU 80 g)) (hst (stC c)) 0) x j,[eqS (.int .i64 (IntKind.wrap .i64 ((i:Int)+1))) (.int .i64 (j:Int)),decide ((i:Int) < 8)]):=by kernel_rfl
theorem x15B:evSO Tryz.prog noPS (n14 φ) [29] Tryz.f53.ntmps (mask 53) F 3 [b15 8] (S15B g s c x i) ⟨[false],[],[]⟩=some (.exit 2,⟨T15 x++[(26,.bool false),(28,.int .i64 (i:Int)),(29,.bool false)],H15 g s c,203⟩,⟨[],[],[!(decide ((i:Int) < 8))]⟩):=by kernel_rfl
theorem s15c:segO (evSO Tryz.prog noPS (n14 φ) [] Tryz.f53.ntmps (mask 53) F 3 ((p15.drop 9).take 1) ⟨T15 x++[(26,.bool false),(28,.int .i64 ((8:Nat):Int)),(29,.bool false)],H15 g s c,203⟩ ⟨[],[],[]⟩)=some (S15C g s c x 0,[]):=by kernel_rfl
theorem r15C:roundO2 Tryz.prog noPS (n14 φ) [33,200040,200044] [true] [.u64 y,.int .i64 (j:Int)] Tryz.f53.ntmps (mask 53) F 3 (b15 10) (S15C g s c0 x 0) (S15C g s c x i) =
  some (S15C g s (addS φ (gU (cellsU 80 g)) (hst (stC c)) (shr_u64 (8 * x) y.toNat).toUInt8) x j,[eqS (.int .i64 (IntKind.wrap .i64 ((i:Int)+1))) (.int .i64 (j:Int)),eqS (.u64 (UInt64.ofInt (IntKind.wrap .i64 (56 - IntKind.wrap .i64 (8 * (i:Int)))))) (.u64 y),decide ((i:Int) < 8)]):=by kernel_rfl
theorem x15C:evSO Tryz.prog noPS (n14 φ) [33] Tryz.f53.ntmps (mask 53) F 3 [b15 10] (S15C g s c x i) ⟨[false],[],[]⟩=some (.exit 4,⟨T15 x++[(26,.bool false),(28,.int .i64 ((8:Nat):Int)),(29,.bool false),(32,.int .i64 (i:Int)),(33,.bool false)],H15 g s c,219⟩,⟨[],[],[!(decide ((i:Int) < 8))]⟩):=by kernel_rfl
theorem s15d:segO (evSO Tryz.prog noPS (n14 φ) [] Tryz.f53.ntmps (mask 53) F 3 ((p15.drop 11).take 2) ⟨T15 x++[(26,.bool false),(28,.int .i64 ((8:Nat):Int)),(29,.bool false),(32,.int .i64 ((8:Nat):Int)),(33,.bool false)],H15 g s c,219⟩ ⟨[],[],[]⟩)=some (S15D g s c x (cellsB 64 fun _=>0) 0,[]):=by kernel_rfl
theorem r15D (o0:Nat→UInt8):roundO2 Tryz.prog noPS (n14 φ) [46,200050,52,53,200058,61,100061,200062] [true] [.int .i64 (p:Int),.u64 (c.h p),.u64 y,.int .i64 (j:Int)] Tryz.f53.ntmps (mask 53) F 3 (b15 13) (S15D g s c x (cellsB 64 o0) 0) (S15D g s c x (cellsB 64 o) i) =
  some (S15D g s c x (putA (cellsB 64 o) (0+(i:Int).toNat * 1) (cellsA (.u8 (shr_u64 (c.h p) y.toNat).toUInt8))) j,
   [eqS (.int .i64 (IntKind.wrap .i64 ((i:Int)+1))) (.int .i64 (j:Int)),Nat.ble (0+(i:Int).toNat * 1+(cellsA (.u8 (shr_u64 (c.h p) y.toNat).toUInt8)).length) (cellsB 64 o).length,decide (0≤(i:Int)) && decide ((i:Int) < 64),
    eqS (.u64 (UInt64.ofInt (IntKind.wrap .i64 (56 - IntKind.wrap .i64 (Int.tmod (i:Int) 8 * 8))))) (.u64 y),isAt (stC c) (0+0+(p:Int).toNat * 1) (.u64 (c.h p)),decide (0≤(p:Int)) && decide ((p:Int) < 8),eqS (.int .i64 (IntKind.wrap .i64 (Int.tdiv (i:Int) 8))) (.int .i64 (p:Int)),decide ((i:Int) < 64)]):=by kernel_rfl
theorem x15D:evSO Tryz.prog noPS (n14 φ) [46] Tryz.f53.ntmps (mask 53) F 3 [b15 13] (S15D g s c x (cellsB 64 o) i) ⟨[false],[],[]⟩=some (.exit 6,⟨T15D x i++[(46,.bool false)],H15d g s c (cellsB 64 o),243⟩,⟨[],[],[!(decide ((i:Int) < 64))]⟩):=by kernel_rfl
theorem z15:evS Tryz.prog (n14 φ) Tryz.f53.ntmps (mask 53) F 3 (p15.drop 14) ⟨T15D x 64++[(46,.bool false)],H15d g s c (cellsB 64 o),243⟩ =
  some (.ret,⟨(0,.ptr 2 0)::(2,.str ((List.range 64).map o))::((T15D x 64).drop 2++[(46,.bool false)]),H15d g s c (cellsB 64 o),267⟩):=by kernel_rfl
theorem ok15A:okS Tryz.prog (S15A g s c x)=true:=by kernel_rfl
theorem ok15B:okS Tryz.prog (S15B g s c x i)=true:=by kernel_rfl
theorem ok15C:okS Tryz.prog (S15C g s c x i)=true:=by kernel_rfl
theorem ok15D:okS Tryz.prog (S15D g s c x (cellsB 64 o) i)=true:=by kernel_rfl
end
end Go.Proofs.YtcjkbimdmcfppaaGreatDoor.Sha
namespace Go.Proofs.YtcjkbimdmcfppaaGreatDoor.Sha
open Go Go.Eng
set_option maxRecDepth 1000000
theorem gUg {g:Nat→UInt64}(hg:nU 80 g=g):gU (cellsU 80 g)=g:=by rw [gU_cellsU,hg]
theorem hstS {s:St}(hs:nS s=s):hst (stC s)=s:=by rw [hst_stC]; exact hs
theorem plusL {i:Nat}(h:i < 1000000000):eqS (.int .i64 (IntKind.wrap .i64 ((i:Int)+1))) (.int .i64 ((i+1:Nat):Int))=true:=eqS_i64 (by rw [wrapI _ (by omega) (by omega)]; omega)
def addsN (φ:Fr) (g:Nat→UInt64) (s:St) (l:List UInt8):Nat→St
 | 0=>s
 | i+1=>addS φ g (addsN φ g s l i) (l.getD i 0)
def addsS (φ:Fr) (g:Nat→UInt64) (s:St) (l:List UInt8):St:=addsN φ g s l l.length
theorem nS_addsN {φ:Fr}{g:Nat→UInt64}{s:St}{l:List UInt8}(hs:nS s=s):∀ i,nS (addsN φ g s l i)=addsN φ g s l i
 | 0=>hs
 | i+1=>nS_addS ..
theorem end14 {φ:Fr}{sy:List Nat}{F:Nat}{b:Code}{fn:Func}{nn:Nat}{s s':SA}{id:Nat}{c:Bool}(h:evSO Tryz.prog noPS (n14 φ) sy fn.ntmps nn F 3 [b] s ⟨[false],[],[]⟩=some (.exit id,s',⟨[],[],[!c]⟩)) (hc:c=false):evC Tryz.prog (n14 φ) fn.ntmps nn F 3 b s=some (.exit id,s'):=by
 have:=(evSO_ok (noPS_ok _) _ _ _ _ _ _ h (by rw [hc]; rfl)).1
 rwa [evS_one] at this
theorem d_false {i n:Nat}{k:Int}(h:n≤i) (e:(n:Int)=k:=by rfl):decide ((i:Int) < k)=false:=by subst e; simp; omega
def k14 (φ:Fr):List AVal→Option (EffA × Bool)
 | [.ptr m 0,.str l]=>some (oneE m (hashK (fun _ _=>.int .i64 0) (fun g s=>addsS φ g s l)),Nat.ble l.length 100000000)
 | _=>none
theorem f14_at:Tryz.prog.funcs[52]? = some Tryz.f52:=by kernel_rfl
theorem f14_body:Tryz.f52.body=some (bodyOf Tryz.f52):=by kernel_rfl
theorem ev14 (φ:Fr) (g:Nat→UInt64) (s:St) (l:List UInt8) (hg:nU 80 g=g) (hs:nS s=s) (hl:l.length≤100000000):evS Tryz.prog (n14 φ) Tryz.f52.ntmps (mask 52) (l.length+1) 3 p14 ⟨startT [.ptr 2 0,.str l] 0,HS g (stC s),3⟩ =
  some (.ret,⟨[(0,.ptr 2 0),(1,.str l),(4,.int .i64 0),(14,.bool false),(16,.int .i64 (l.length:Int)),(17,.int .i64 (l.length:Int)),(18,.bool false)],HS g (stC (addsS φ g s l)),123⟩):=by
 have a1:=segO_ok (noPS_ok _) (s14a φ g s l (l.length+1)) rfl
 rw [List.drop_zero] at a1
 rw [a1]
 refine (evS_loop p14_4 (fun i=>S14 g (addsN φ g s l i) l 107 [(4,.int .i64 0),(14,.bool false)] i) l.length (fun i hi => ?_) (end14 (x14 φ g (addsN φ g s l l.length) l l.length (l.length+1)) (d_false (Nat.le_refl _))) (by omega)).trans (z14 φ g _ l _ _)
 have r:=r14 φ g (addsN φ g s l i) s l i (i+1) (l.length+1)
 rw [gUg hg,hstS (nS_addsN hs i)] at r
 refine roundO2_ok (noPS_ok _) r ?_ (ok14 ..)
 have h1:decide ((i:Int) < (l.length:Int))=true:=lt_i hi
 have h0:decide (0≤(i:Int))=true:=by simp
 simp only [allT,plusL (show i < 1000000000 by omega),h1,h0,Bool.and_self,cond_true]
theorem callOk14 (φ:Fr) (hcs:CSOk Tryz.prog (nr φ)):CSOk Tryz.prog (csP (psOne 52 (k14 φ))):=by
 refine psOne_ok fun args e h => ?_
 unfold k14 at h
 split at h
 ·rename_i m l
  simp only [Option.some.injEq,Prod.mk.injEq] at h
  obtain ⟨rfl,hc⟩:=h
  have hl:=Nat.le_of_ble_eq_true hc
  refine callOk_hash (cargs:=[.ptr 2 0,.str l]) (n14_ok hcs) rfl (fun _ _=>rfl) fun g s hg hs => ?_
  exact ⟨l.length+1,mask 52,_,_,run1_fin1 f14_at f14_body (by kernel_rfl) (ev14 φ g s l hg hs hl) (.inr rfl) rfl,rfl⟩
 ·cases h
def zer (φ:Fr) (g:Nat→UInt64) (c:St):Nat→St
 | 0=>c
 | i+1=>addS φ g (zer φ g c i) 0
def lenB (x:UInt64) (i:Nat):UInt8:=(shr_u64 (8 * x) (UInt64.ofNat (56 - 8 * i)).toNat).toUInt8
def lenA (φ:Fr) (g:Nat→UInt64) (x:UInt64) (c:St):Nat→St
 | 0=>c
 | i+1=>addS φ g (lenA φ g x c i) (lenB x i)
def outB (h:Nat→UInt64) (i:Nat):UInt8:=(shr_u64 (h (i / 8)) (UInt64.ofNat (56 - i % 8 * 8)).toNat).toUInt8
def outF (h:Nat→UInt64):Nat→Nat→UInt8
 | 0=>fun _=>0
 | i+1=>updF (outF h i) i (outB h i)
def padK (n:UInt64):Nat:=(239 - n.toNat % 128) % 128
def sumSt (φ:Fr) (g:Nat→UInt64) (s:St):St:=lenA φ g s.n (zer φ g (zer φ g (addS φ g s 128) (padK s.n)) 8) 8
def sumS (φ:Fr) (g:Nat→UInt64) (s:St):List UInt8:=(List.range 64).map (outF (sumSt φ g s).h 64)
theorem nS_zer {φ:Fr}{g:Nat→UInt64}{s:St}(hs:nS s=s):∀ i,nS (zer φ g s i)=zer φ g s i
 | 0=>hs
 | i+1=>nS_addS ..
theorem nS_lenA {φ:Fr}{g:Nat→UInt64}{x:UInt64}{s:St}(hs:nS s=s):∀ i,nS (lenA φ g x s i)=lenA φ g x s i
 | 0=>hs
 | i+1=>nS_addS ..
theorem addS_n (φ:Fr) (g:Nat→UInt64) (s:St) (x:UInt8):(addS φ g s x).n=s.n+1:=by
 unfold addS
 cases ((s.n+1) % 128 == 0) <;> rfl
theorem zer_n (φ:Fr) (g:Nat→UInt64) (s:St):∀ k,(zer φ g s k).n=s.n+UInt64.ofNat k
 | 0=>by show s.n=_; simp
 | k+1=>by
  show (addS φ g (zer φ g s k) 0).n=_
  rw [addS_n,zer_n φ g s k,UInt64.add_assoc]
  congr 1
  apply UInt64.toNat_inj.1
  rw [UInt64.toNat_add,UInt64.toNat_ofNat',UInt64.toNat_ofNat']
  have h1:(1:UInt64).toNat=1:=rfl
  rw [h1]
  omega
theorem bne_of {a b:UInt64}:(a != b)=decide (a.toNat ≠ b.toNat):=by
 by_cases h:a=b
 ·subst h; simp
 ·have:a.toNat ≠ b.toNat:=fun e=>h (UInt64.toNat_inj.1 e)
  simp [h,this]
theorem pad_step (n:UInt64) (k:Nat) (hk:k≤padK n):((n+1+UInt64.ofNat k) % 128 != 112)=decide (k < padK n):=by
 rw [bne_of]
 have e:((n+1+UInt64.ofNat k) % 128).toNat=(n.toNat+1+k) % 128:=by
  have hp:padK n < 128:=Nat.mod_lt _ (by decide)
  rw [UInt64.toNat_mod,UInt64.toNat_add,UInt64.toNat_add,UInt64.toNat_ofNat']
  have h1:(1:UInt64).toNat=1:=rfl
  have h2:(128:UInt64).toNat=128:=rfl
  rw [h1,h2]
  omega
 rw [e]
 have h3:(112:UInt64).toNat=112:=rfl
 rw [h3]
 unfold padK at hk ⊢
 apply decide_eq_decide.2
 omega
theorem sh8:∀ i:Nat,i < 8→eqS (.u64 (UInt64.ofInt (IntKind.wrap .i64 (56 - IntKind.wrap .i64 (8 * (i:Int)))))) (.u64 (UInt64.ofNat (56 - 8 * i)))=true:=by decide
theorem sh64:∀ i:Nat,i < 64→eqS (.u64 (UInt64.ofInt (IntKind.wrap .i64 (56 - IntKind.wrap .i64 (Int.tmod (i:Int) 8 * 8))))) (.u64 (UInt64.ofNat (56 - i % 8 * 8)))=true:=by decide
theorem f15_at:Tryz.prog.funcs[53]? = some Tryz.f53:=by kernel_rfl
theorem f15_body:Tryz.f53.body=some (bodyOf Tryz.f53):=by kernel_rfl
theorem stC_h {s:St}{p:Nat}(h:p < 8):isAt (stC s) (0+0+(p:Int).toNat * 1) (.u64 (s.h p))=true:=isAt_get (hashC_h h)
theorem d_true {i n:Nat}{k:Int}(h:i < n) (e:(n:Int)=k:=by rfl):decide ((i:Int) < k)=true:=lt_i h e
theorem nat0 (i:Nat):decide (0≤(i:Int))=true:=by simp
theorem ev15D (φ:Fr) (g:Nat→UInt64) (s c:St) (x:UInt64):evS Tryz.prog (n14 φ) Tryz.f53.ntmps (mask 53) 200 3 (p15.drop 13) (S15D g s c x (cellsB 64 fun _=>0) 0) =
  some (.ret,⟨(0,.ptr 2 0)::(2,.str ((List.range 64).map (outF c.h 64)))::((T15D x 64).drop 2++[(46,.bool false)]),H15d g s c (cellsB 64 (outF c.h 64)),267⟩):=by
 refine (evS_loop p15_13 (fun i=>S15D g s c x (cellsB 64 (outF c.h i)) i) 64 (fun i hi => ?_) (end14 (x15D φ g s c x (outF c.h 64) 64 200) (by decide)) (by omega)).trans (z15 φ g s c x (outF c.h 64) 200)
 have hp:i / 8 < 8:=by omega
 have r:=r15D φ g s c x (UInt64.ofNat (56 - i % 8 * 8)) (outF c.h i) i (i+1) (i / 8) 200 (fun _=>0)
 have e:putA (cellsB 64 (outF c.h i)) (0+(i:Int).toNat * 1) (cellsA (.u8 (shr_u64 (c.h (i / 8)) (UInt64.ofNat (56 - i % 8 * 8)).toNat).toUInt8))=cellsB 64 (outF c.h (i+1)):=by
  rw [off_nat,putA_set _ rfl (by rw [cellsB_len]; exact hi),set_cellsB _ _ hi]; rfl
 rw [e] at r
 refine roundO2_ok (noPS_ok _) r ?_ (ok15D ..)
 have b1:Nat.ble (0+(i:Int).toNat * 1+(cellsA (.u8 (shr_u64 (c.h (i / 8)) (UInt64.ofNat (56 - i % 8 * 8)).toNat).toUInt8)).length) (cellsB 64 (outF c.h i)).length=true:=by
  rw [cellsB_len]; exact ble_i hi
 have h0:decide (0≤(i:Int))=true:=by simp
 have h6:decide ((i:Int) < 64)=true:=d_true hi
 simp only [allT,plusL (show i < 1000000000 by omega),b1,h0,h6,sh64 i hi,stC_h hp,in_rng (k:=8) hp,quo8 (show i < 1000 by omega),Bool.and_self,cond_true]
theorem ev15C (φ:Fr) (g:Nat→UInt64) (s c:St) (x:UInt64) (hg:nU 80 g=g) (hc:nS c=c):evS Tryz.prog (n14 φ) Tryz.f53.ntmps (mask 53) 200 3 (p15.drop 10) (S15C g s c x 0) =
  some (.ret,⟨(0,.ptr 2 0)::(2,.str ((List.range 64).map (outF (lenA φ g x c 8).h 64)))::((T15D x 64).drop 2++[(46,.bool false)]),H15d g s (lenA φ g x c 8) (cellsB 64 (outF (lenA φ g x c 8).h 64)),267⟩):=by
 refine (evS_loop p15_10 (fun i=>S15C g s (lenA φ g x c i) x i) 8 (fun i hi => ?_) (end14 (x15C φ g s (lenA φ g x c 8) x 8 200) (by decide)) (by omega)).trans ?_
 ·have r:=r15C φ g s (lenA φ g x c i) c x (UInt64.ofNat (56 - 8 * i)) i (i+1) 200
  rw [gUg hg,hstS (nS_lenA hc i)] at r
  refine roundO2_ok (noPS_ok _) r ?_ (ok15C ..)
  simp only [allT,plusL (show i < 1000000000 by omega),sh8 i hi,d_true (k:=8) hi,cond_true]
 ·exact (segO_ok (noPS_ok _) (s15d φ g s (lenA φ g x c 8) x 200) rfl).trans (ev15D φ g s (lenA φ g x c 8) x)
theorem ev15B (φ:Fr) (g:Nat→UInt64) (s c:St) (x:UInt64) (hg:nU 80 g=g) (hc:nS c=c):evS Tryz.prog (n14 φ) Tryz.f53.ntmps (mask 53) 200 3 (p15.drop 8) (S15B g s c x 0) =
  some (.ret,⟨(0,.ptr 2 0)::(2,.str ((List.range 64).map (outF (lenA φ g x (zer φ g c 8) 8).h 64)))::((T15D x 64).drop 2++[(46,.bool false)]),H15d g s (lenA φ g x (zer φ g c 8) 8) (cellsB 64 (outF (lenA φ g x (zer φ g c 8) 8).h 64)),267⟩):=by
 refine (evS_loop p15_8 (fun i=>S15B g s (zer φ g c i) x i) 8 (fun i hi => ?_) (end14 (x15B φ g s (zer φ g c 8) x 8 200) (by decide)) (by omega)).trans ?_
 ·have r:=r15B φ g s (zer φ g c i) c x i (i+1) 200
  rw [gUg hg,hstS (nS_zer hc i)] at r
  refine roundO2_ok (noPS_ok _) r ?_ (ok15B ..)
  simp only [allT,plusL (show i < 1000000000 by omega),d_true (k:=8) hi,cond_true]
 ·exact (segO_ok (noPS_ok _) (s15c φ g s (zer φ g c 8) x 200) rfl).trans (ev15C φ g s (zer φ g c 8) x hg (nS_zer hc 8))
theorem ev15 (φ:Fr) (g:Nat→UInt64) (s:St) (hg:nU 80 g=g) (hs:nS s=s):evS Tryz.prog (n14 φ) Tryz.f53.ntmps (mask 53) 200 3 p15 ⟨startT [.ptr 2 0] 0,HS g (stC s),3⟩ =
  some (.ret,⟨(0,.ptr 2 0)::(2,.str (sumS φ g s))::((T15D s.n 64).drop 2++[(46,.bool false)]),H15d g s (sumSt φ g s) (cellsB 64 (outF (sumSt φ g s).h 64)),267⟩):=by
 have a1:=segO_ok (noPS_ok _) (s15a φ g s 200) rfl
 rw [List.drop_zero,gUg hg,hstS hs] at a1
 refine a1.trans ?_
 have n0:nS (addS φ g s 128)=addS φ g s 128:=nS_addS ..
 refine (evS_loop p15_6 (fun i=>S15A g s (zer φ g (addS φ g s 128) i) s.n) (padK s.n) (fun i hi => ?_) (end14 (x15A φ g s (zer φ g (addS φ g s 128) (padK s.n)) s.n 200) (by
  rw [zer_n,addS_n,pad_step _ _ (Nat.le_refl _)]; simp)) (by
  have:padK s.n < 128:=Nat.mod_lt _ (by decide)
  omega)).trans ?_
 ·have r:=r15A φ g s (zer φ g (addS φ g s 128) i) (addS φ g s 128) s.n 200
  rw [gUg hg,hstS (nS_zer n0 i)] at r
  refine roundO2_ok (noPS_ok _) r ?_ (ok15A ..)
  have:((zer φ g (addS φ g s 128) i).n % 128 != 112)=true:=by rw [zer_n,addS_n,pad_step _ _ (by omega)]; simp [hi]
  simp only [allT,this,cond_true]
 ·exact (segO_ok (noPS_ok _) (s15b φ g s (zer φ g (addS φ g s 128) (padK s.n)) s.n 200) rfl).trans (ev15B φ g s _ s.n hg (nS_zer n0 _))
def k15 (φ:Fr):List AVal→Option EffA
 | [.ptr m 0]=>some (oneE m (hashK (fun g s=>.str (sumS φ g s)) (fun _ s=>s)))
 | _=>none
theorem callOk15 (φ:Fr) (hcs:CSOk Tryz.prog (nr φ)):CSOk Tryz.prog (csOne 53 (k15 φ)):=by
 refine csOne_ok fun args e h => ?_
 unfold k15 at h
 split at h
 ·rename_i m
  cases h
  refine callOk_hash (cargs:=[.ptr 2 0]) (n14_ok hcs) rfl (fun _ _=>rfl) fun g s hg hs => ?_
  exact ⟨200,mask 53,_,_,run1_fin1 f15_at f15_body (by kernel_rfl) (ev15 φ g s hg hs) (.inr rfl) rfl,rfl⟩
 ·cases h
end Go.Proofs.YtcjkbimdmcfppaaGreatDoor.Sha
namespace Go.Eng
open Go
def newP (x:Option (AVal × HL × Nat)):Option (Nat × List AVal):=
 match x with
 | some (.ptr k 0,H',_)=>match aget H' k with
  | some (.cells false c)=>some (k,c)
  | _=>none
 | _=>none
theorem callOk_newP {P:Program}{cs:CS}(hcs:CSOk P cs) (hm:P.follows .mixedOrders=true){nn F:Nat}{f:FuncId}{args:List AVal}{k:Nat}{c:List AVal}(hcan:canL P.globals.size [] args=some (args,[]))
  (hrun:newP (run1 P cs nn F f args [] P.globals.size)=some (k,c)) (hc:ltL 0 c=true) (hg:Nat.ble P.globals.size k=true):CallOk P f args (.alloc (.cells false c) fun b=>.ptr b 0):=by
 unfold newP at hrun
 split at hrun
 ·rename_i k' H' fr hr
  split at hrun
  ·rename_i c' hk
   simp only [Option.some.injEq,Prod.mk.injEq] at hrun
   obtain ⟨rfl,rfl⟩:=hrun
   refine (callOk_viewN0 hcs hm (nn:=nn) (F:=F) (f:=f) hcan).less fun base H r hr2 => ?_
   simp only [EffA.app,Option.some.injEq] at hr2
   subst hr2
   have e1:renV k' 0 (.ptr k' 0)=some (.ptr 0 0):=by
    simp only [renV,renS,renN,Nat.beq_refl,cond_true]
   have e2:renV 0 base (.ptr 0 0)=some (.ptr base 0):=by
    simp only [renV,renS,renN,Nat.beq_refl,cond_true]
   have e3:ltV 1 (.ptr 0 0)=true:=rfl
   simp only [viewN0,EffA.app,objsA,List.length_nil,Nat.add_zero,hr,backA,newN,hk,e1,e2,e3,hc,nodupB,hg,Bool.and_self,cond_true,List.nil_append,appU]
  ·cases hrun
 ·cases hrun
def tabE (k:(Nat→Option AObj)→Option AVal):EffA:=
 .eff fun _ η=>match k η with
  | some v=>some (v,[])
  | none=>none
theorem callOk_tab {P:Program}{cs:CS}(hcs:CSOk P cs) (hm:P.follows .mixedOrders=true){f:FuncId}{args:List AVal}(hcan:canL P.globals.size [] args=some (args,[])){k:(Nat→Option AObj)→Option AVal}
  (h:∀ η v,k η=some v→ltV 0 v=true∧∃ F nn H' fr',run1 P cs nn F f args (globA η P.globals.size 0) P.globals.size=some (v,H',fr')):CallOk P f args (tabE k):=by
 intro σ args' H w base v0 H0 hl hg hH happ hfree
 unfold tabE EffA.app at happ
 simp only at happ
 cases hk:k (aget H) with
 | none=>rw [hk] at happ; cases happ
 | some v =>
  rw [hk] at happ
  simp only [Option.some.injEq,Prod.mk.injEq] at happ
  obtain ⟨rfl,rfl⟩:=happ
  obtain ⟨h3,F,nn,H',fr',h4⟩:=h (aget H) v hk
  refine callOk_view hcs hm (nn:=nn) (F:=F) hcan σ args' H w base v _ hl hg hH ?_ hfree
  unfold viewE EffA.app
  simp only [objsA,List.append_nil]
  have h4':run1 P cs nn F f args (globA (aget H) P.globals.size 0) (P.globals.size+([]:List Nat).length)=some (v,H',fr'):=h4
  rw [h4']
  simp only [backA,h3,nodupB,cond_true,Bool.and_self]
end Go.Eng
namespace Go.Eng
open Go
theorem callOk_one0 {P:Program}{cs:CS}(hcs:CSOk P cs) (hm:P.follows .mixedOrders=true){f:FuncId}{args cargs:List AVal}{n:Nat}(hcan:canL P.globals.size [] args=some (cargs,[n])){k:List AVal→Option (AVal × List AVal)}
  (h:∀ c v c',k c=some (v,c')→ltL 0 c=true∧ltL 0 c'=true∧ltV 0 v=true∧∃ F nn H' fr',run1 P cs nn F f cargs [(P.globals.size,.cells false c)] (P.globals.size+1)=some (v,H',fr')∧aget H' P.globals.size=some (.cells false c')):CallOk P f args (oneE n fun _=>k):=by
 intro σ args' H w base v0 H0 hl hg hH happ hfree
 unfold oneE EffA.app at happ
 simp only at happ
 cases hn:aget H n with
 | none=>rw [hn] at happ; cases happ
 | some ob =>
  obtain ⟨ro,c⟩:=ob
  rw [hn] at happ
  cases ro with
  | true=>cases happ
  | false =>
   simp only at happ
   cases hk:k c with
   | none=>rw [hk] at happ; cases happ
   | some r =>
    obtain ⟨v,c'⟩:=r
    rw [hk] at happ
    simp only [Option.some.injEq,Prod.mk.injEq] at happ
    obtain ⟨rfl,rfl⟩:=happ
    obtain ⟨h1,h2,h3,F,nn,H',fr',h4,h5⟩:=h c v c' hk
    refine callOk_view0 hcs hm (nn:=nn) (F:=F) hcan σ args' H w base v _ hl hg hH ?_ hfree
    unfold viewE0 EffA.app
    simp only [objsA,hn,h1,cond_true]
    have h4':run1 P cs nn F f cargs [(P.globals.size,.cells false c)] (P.globals.size+[n].length)=some (v,H',fr'):=h4
    rw [h4']
    simp only [backA,hn,h5,h2,cond_true,h3,nodupB,List.all_nil,Bool.and_self]
end Go.Eng
namespace Go.Proofs.YtcjkbimdmcfppaaGreatDoor.Sha
open Go Go.Eng
set_option maxRecDepth 1000000
def bS:St:=⟨fun i=>beginL.getD i 0,fun _=>0,0⟩
theorem nS_bS:nS bS=bS:=by
 unfold nS
 have e1:nU 8 bS.h=bS.h:=by
  funext j
  unfold nU
  by_cases hj:j < 8
  ·rw [if_pos hj]
  ·rw [if_neg hj]
   show (0:UInt64)=beginL.getD j 0
   simp only [List.getD,List.getElem?_eq_none (show beginL.length≤j by simp only [beginL,List.length_cons,List.length_nil]; omega),Option.getD_none]
 have e2:nB 128 bS.b=bS.b:=by
  funext j
  unfold nB
  by_cases hj:j < 128
  ·rw [if_pos hj]
  ·rw [if_neg hj]; rfl
 rw [e1,e2]
def k13:List AVal→Option EffA
 | []=>some (.alloc (.cells false (stC bS)) fun b=>.ptr b 0)
 | _=>none
theorem run13 (φ:Fr):newP (run1 Tryz.prog (nr φ) (mask 51) 200 51 [] [] Tryz.prog.globals.size)=some (26,stC bS):=by kernel_rfl
theorem callOk13 (φ:Fr) (hcs:CSOk Tryz.prog (nr φ)):CSOk Tryz.prog (csOne 51 k13):=by
 refine csOne_ok fun args e h => ?_
 unfold k13 at h
 split at h
 ·cases h
  exact callOk_newP hcs hmix (by kernel_rfl) (run13 φ) (ltH_stC ..) (by kernel_rfl)
 ·cases h
def kn14:List AVal→Option EffA
 | [.nilPtr,.str _]=>some (.pure (.int .i64 1))
 | _=>none
def kn15:List AVal→Option EffA
 | [.nilPtr]=>some (.pure (.str []))
 | _=>none
theorem callOkn14 (φ:Fr) (hcs:CSOk Tryz.prog (nr φ)):CSOk Tryz.prog (csOne 52 kn14):=by
 refine csOne_ok fun args e h => ?_
 unfold kn14 at h
 split at h
 ·rename_i l
  cases h
  have r:(run1 Tryz.prog (nr φ) (mask 52) 50 52 [.nilPtr,.str l] [] Tryz.prog.globals.size).map (·.1)=some (.int .i64 1):=by kernel_rfl
  exact callOk_val hcs hmix r rfl rfl
 ·cases h
theorem callOkn15 (φ:Fr) (hcs:CSOk Tryz.prog (nr φ)):CSOk Tryz.prog (csOne 53 kn15):=by
 refine csOne_ok fun args e h => ?_
 unfold kn15 at h
 split at h
 ·cases h
  have r:(run1 Tryz.prog (nr φ) (mask 53) 50 53 [.nilPtr] [] Tryz.prog.globals.size).map (·.1)=some (.str []):=by kernel_rfl
  exact callOk_val hcs hmix r rfl rfl
 ·cases h
def tabK (v:(Nat→UInt64)→Option AVal) (η:Nat→Option AObj):Option AVal:=match η 0,η 1 with
 | some (.cells true g),none=>cond (shG g) (v (gU g)) none
 | _,_=>none
theorem callOk_tabK {cs:CS}(hcs:CSOk Tryz.prog cs){f:FuncId}{args:List AVal}(hcan:canL Tryz.prog.globals.size [] args=some (args,[])){v:(Nat→UInt64)→Option AVal}
  (h:∀ g x,nU 80 g=g→v g=some x→ltV 0 x=true∧∃ F nn H' fr',run1 Tryz.prog cs nn F f args [(0,.cells true (cellsU 80 g))] 2=some (x,H',fr')):CallOk Tryz.prog f args (tabE (tabK v)):=by
 have e1:Tryz.prog.globals.size=2:=gl
 refine callOk_tab hcs (by kernel_rfl) hcan fun η x hk => ?_
 unfold tabK at hk
 split at hk
 ·rename_i g0 h0 h00
  cases hb:shG g0 <;> rw [hb] at hk <;> simp only [cond_true,cond_false] at hk
  ·cases hk
  ·have eg:=shG_ok hb
   have en:nU 80 (gU g0)=gU g0:=by
    have:gU g0=gU (cellsU 80 (gU g0)):=congrArg gU eg
    rw [gU_cellsU] at this
    exact this.symm
   obtain ⟨hx,F,nn,H',fr',hr⟩:=h (gU g0) x en hk
   refine ⟨hx,F,nn,H',fr',?_⟩
   rw [e1]
   have hg:globA η 2 0=[(0,.cells true (cellsU 80 (gU g0)))]:=by
    have:ltL 0 g0=true:=by rw [eg]; exact ltL_U ..
    simp only [globA,h0,h00,this,cond_true]
    rw [← eg]
   rw [hg]
   exact hr
 ·cases hk
def n13 (φ:Fr):CS:=csAlt (csOne 51 k13) (csAlt (csOne 53 (k15 φ)) (nr φ))
def ps14 (φ:Fr):PS:=psOne 52 (k14 φ)
def n8 (φ:Fr):CS:=csAlt (csP (ps14 φ)) (n13 φ)
end Go.Proofs.YtcjkbimdmcfppaaGreatDoor.Sha
namespace Go.Proofs.YtcjkbimdmcfppaaGreatDoor.Sha
open Go Go.Eng
set_option maxRecDepth 1000000
theorem n8_ps (φ:Fr):PSOk (ps14 φ) (n8 φ):=csP_ok
theorem n8_ok {φ:Fr}(hcs:CSOk Tryz.prog (nr φ)):CSOk Tryz.prog (n8 φ):=csAlt_ok (callOk14 φ hcs) (csAlt_ok (callOk13 φ hcs) (csAlt_ok (callOk15 φ hcs) hcs))
def ofS (φ:Fr) (g:Nat→UInt64) (l:List UInt8):List UInt8:=sumS φ g (addsS φ g bS l)
theorem run8 (φ:Fr) (g:Nat→UInt64) (l:List UInt8):ansO (run1O Tryz.prog (ps14 φ) (n8 φ) [7] [] [] (mask 41) 100 41 [.str l] [(0,.cells true (cellsU 80 g))] 2) =
  some (.str (sumS φ (gU (cellsU 80 g)) (hst (stC (addsS φ (gU (cellsU 80 g)) (hst (stC bS)) l)))),[Nat.ble l.length 100000000]):=by kernel_rfl
def k8 (φ:Fr):List AVal→Option (EffA × Bool)
 | [.str l]=>some (tabE (tabK fun g=>some (.str (ofS φ g l))),Nat.ble l.length 100000000)
 | _=>none
theorem run_of {x:Option (AVal × HL × Nat)}{v:AVal}(h:x.map (·.1)=some v):∃ H' fr',x=some (v,H',fr'):=by
 cases x with
 | none=>cases h
 | some r =>
  obtain ⟨a,b,c⟩:=r
  simp only [Option.map_some,Option.some.injEq] at h
  subst h
  exact ⟨b,c,rfl⟩
theorem callOk8 (φ:Fr) (hcs:CSOk Tryz.prog (nr φ)):CSOk Tryz.prog (csP (psOne 41 (k8 φ))):=by
 refine psOne_ok fun args e h => ?_
 unfold k8 at h
 split at h
 ·rename_i l
  simp only [Option.some.injEq,Prod.mk.injEq] at h
  obtain ⟨rfl,hc⟩:=h
  refine callOk_tabK (n8_ok hcs) rfl fun g x hg hx => ?_
  cases hx
  have e:=run8 φ g l
  rw [gUg hg,hstS nS_bS,hstS (show nS (addsS φ g bS l)=_ from nS_addsN nS_bS _)] at e
  obtain ⟨H',fr',hr⟩:=run_of (ansO_run (n8_ps φ) e (by simp only [allT,hc,cond_true]))
  exact ⟨rfl,_,_,H',fr',hr⟩
 ·cases h
structure Fw where
 add:(Nat→UInt64)→St→List UInt8→St
 sum:(Nat→UInt64)→St→List UInt8
 of:(Nat→UInt64)→List UInt8→List UInt8
 doc:List UInt8→List UInt8
 new:St
def w14 (ω:Fw):List AVal→Option (EffA × Bool)
 | [.ptr m 0,.str l]=>some (oneE m (hashK (fun _ _=>.int .i64 0) (fun g s=>ω.add g s l)),Nat.ble l.length 100000000)
 | _=>none
def w8 (ω:Fw):List AVal→Option (EffA × Bool)
 | [.str l]=>some (tabE (tabK fun g=>some (.str (ω.of g l))),Nat.ble l.length 100000000)
 | _=>none
def w9 (ω:Fw):List AVal→Option (EffA × Bool)
 | [.str l]=>some (.pure (.str (ω.doc l)),Nat.ble l.length 100000000)
 | _=>none
def w15 (ω:Fw):List AVal→Option EffA
 | [.ptr m 0]=>some (oneE m (hashK (fun g s=>.str (ω.sum g s)) (fun _ s=>s)))
 | _=>none
def w13 (ω:Fw):List AVal→Option EffA
 | []=>some (.alloc (.cells false (stC ω.new)) fun b=>.ptr b 0)
 | _=>none
def psW (ω:Fw):PS:=psAlt (psOne 41 (w8 ω)) (psAlt (psOne 52 (w14 ω)) (psOne 26 (w9 ω)))
def csW (ω:Fw):CS:=csAlt (csOne 51 (w13 ω)) (csAlt (csOne 53 (w15 ω)) (csAlt (csOne 52 kn14) (csOne 53 kn15)))
def nW (ω:Fw):CS:=csAlt (csP (psW ω)) (csW ω)
def wOf (φ:Fr) (doc:List UInt8→List UInt8):Fw:=⟨addsS φ,sumS φ,ofS φ,doc,bS⟩
theorem nW_ok {φ:Fr}(hcs:CSOk Tryz.prog (nr φ)){doc:List UInt8→List UInt8}(h9:CSOk Tryz.prog (csP (psOne 26 (w9 (wOf φ doc))))):CSOk Tryz.prog (nW (wOf φ doc)):=
 csAlt_ok (csP_alt (callOk8 φ hcs) (csP_alt (callOk14 φ hcs) h9)) (csAlt_ok (callOk13 φ hcs) (csAlt_ok (callOk15 φ hcs) (csAlt_ok (callOkn14 φ hcs) (callOkn15 φ hcs))))
end Go.Proofs.YtcjkbimdmcfppaaGreatDoor.Sha
namespace Go.Proofs.YtcjkbimdmcfppaaGreatDoor.Sha
open Go Go.Eng
set_option maxRecDepth 1000000
def rotlF (x:UInt64) (n:Int):UInt64:=shl_u64 x (UInt64.ofInt n &&& 63).toNat ||| shr_u64 x (64 - (UInt64.ofInt n &&& 63)).toNat
def rotdF (x y:UInt64):UInt64:=shr_u64 x y.toNat ||| shl_u64 x (64 - y).toNat
theorem run24 (x:UInt64) (n:Int):(run1 Tryz.prog noCS (mask 123) 100 123 [.u64 x,.int .i64 n] [] Tryz.prog.globals.size).map (·.1)=some (.u64 (rotlF x n)):=by kernel_rfl
theorem run19 (x y:UInt64):(run1 Tryz.prog noCS (mask 108) 100 108 [.u64 x,.u64 y] [] Tryz.prog.globals.size).map (·.1)=some (.u64 (rotdF x y)):=by kernel_rfl
def k24 (ρ:UInt64→Int→UInt64):List AVal→Option EffA
 | [.u64 x,.int .i64 n]=>some (.pure (.u64 (ρ x n)))
 | _=>none
theorem callOk24:CSOk Tryz.prog (csOne 123 (k24 rotlF)):=by
 refine csOne_ok fun args e h => ?_
 unfold k24 at h
 split at h
 ·rename_i x n
  cases h
  exact callOk_val (noCS_ok _) hmix (run24 x n) rfl rfl
 ·cases h
theorem run23 (ρ:UInt64→Int→UInt64) (x:UInt64) (n:Int):(run1 Tryz.prog (csOne 123 (k24 ρ)) (mask 122) 100 122 [.u64 x,.int .i64 n] [] Tryz.prog.globals.size).map (·.1)=some (.u64 (ρ x (IntKind.wrap .i64 (0 - n)))):=by kernel_rfl
def φr:Fr:=⟨fun x n=>rotlF x (IntKind.wrap .i64 (0 - n)),rotdF⟩
theorem nr_ok:CSOk Tryz.prog (nr φr):=by
 refine csAlt_ok (csOne_ok fun args e h => ?_) (csOne_ok fun args e h => ?_)
 ·unfold k23 at h
  split at h
  ·rename_i x n
   cases h
   exact callOk_val callOk24 hmix (run23 rotlF x n) rfl rfl
  ·cases h
 ·unfold k19 at h
  split at h
  ·rename_i x n
   cases h
   exact callOk_val (noCS_ok _) hmix (run19 x n) rfl rfl
  ·cases h
end Go.Proofs.YtcjkbimdmcfppaaGreatDoor.Sha
namespace Go.Proofs.YtcjkbimdmcfppaaGreatDoor.Sha
open Go Go.Eng
set_option maxRecDepth 1000000
def kF:Nat→UInt64:=fun i=>roundsL.getD i 0
def hF:Nat→UInt64:=fun i=>beginL.getD i 0
def d10 (κ:Nat→UInt64):List AVal→Option EffA
 | []=>some (.pure (.agg (cellsU 80 κ)))
 | _=>none
def d11 (η:Nat→UInt64):List AVal→Option EffA
 | []=>some (.pure (.agg (cellsU 8 η)))
 | _=>none
theorem run10:(run1 Tryz.prog noCS (mask 109) 100 109 [] [] Tryz.prog.globals.size).map (·.1)=some (.agg (cellsU 80 kF)):=by kernel_rfl
theorem run11:(run1 Tryz.prog noCS (mask 65) 100 65 [] [] Tryz.prog.globals.size).map (·.1)=some (.agg (cellsU 8 hF)):=by kernel_rfl
theorem callOk10:CSOk Tryz.prog (csOne 109 (d10 kF)):=by
 refine csOne_ok fun args e h => ?_
 unfold d10 at h
 split at h
 ·cases h
  exact callOk_val (noCS_ok _) hmix run10 rfl (by kernel_rfl)
 ·cases h
theorem callOk11:CSOk Tryz.prog (csOne 65 (d11 hF)):=by
 refine csOne_ok fun args e h => ?_
 unfold d11 at h
 split at h
 ·cases h
  exact callOk_val (noCS_ok _) hmix run11 rfl (by kernel_rfl)
 ·cases h
def n16 (φ:Fr) (κ:Nat→UInt64):CS:=csAlt (csOne 108 (k19 φ)) (csOne 109 (d10 κ))
noncomputable def p16:List Code:=pieces (bodyOf Tryz.f66)
noncomputable def b16 (k:Nat):Code:=loopOf (p16.getD k .skip)
end Go.Proofs.YtcjkbimdmcfppaaGreatDoor.Sha
