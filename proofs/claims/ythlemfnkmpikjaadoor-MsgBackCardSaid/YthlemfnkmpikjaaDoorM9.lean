/- Texts Mt9, Mu0, Mu2, Mu3, Mx1, Mx2, Mu5, Mu6, Mu7, Mu8, Mu9, Mx3, Mx4: what they show that this claim uses. -/
import Derived.Test.YthlemfnkmpikjaaDoorM8
import Derived.Test.YthlemfnkmpikjaaDoorM7
namespace Go.Num
end Go.Num
set_option maxRecDepth 100000
set_option maxHeartbeats 1000000
set_option linter.unusedVariables false
set_option linter.unusedSimpArgs false
namespace Go.Proofs.YthlemfnkmpikjaaDoor
open Go Go.Eng Go.Num Go.Msg
def letF:Msg.Fd→UInt8
 | .F=>70 | .T=>84 | .I=>73 | .P=>80 | .C=>67 | .B=>66 | .V=>86 | .X=>88 | .E=>69 | .K=>75 | .N=>78 | .D=>68 | .S=>83
def fldS (t:UInt8):List UInt8:=(fds t.toNat).map letF
noncomputable def chk20 (n:Nat):Bool:=match run1 Tryd.prog noCS (mask 20) 200 20 [.u8 (UInt8.ofNat n)] [] 4 with
 | some (.str x,_,_)=>x == fldS (UInt8.ofNat n)
 | _=>false
theorem all20:(List.range 256).all chk20=true:=by kernel_rfl
def k20:List AVal→Option EffA
 | [.u8 t]=>some (.pure (.str (fldS t)))
 | _=>none
theorem k20_ok:CSOk Tryd.prog (csOne 20 k20):=csOne_ok fun args e he=>by
 unfold k20 at he
 split at he
 ·rename_i t
  cases he
  have h:=List.all_eq_true.1 all20 t.toNat (List.mem_range.2 (by have:=t.toNat_lt; omega))
  unfold chk20 at h
  rw [UInt8.ofNat_toNat] at h
  split at h
  ·rename_i x H' fr' hr
   have hx:=eq_of_beq h
   subst hx
   rw [← gl] at hr
   exact callOk_run (noCS_ok _) hmix hr rfl rfl
  ·cases h
 ·cases he
theorem mdY (m:Ms):ansO (run1O Tryd.prog noPS (csOne 20 k20) [8] [true] [] (mask 14) 200 14 [mA m] H0 4)=some (.int .i64 150,[fldS m.ty == []]):=by kernel_rfl
theorem doc_run (m:Ms) (hno:¬ (m.ty.toNat=0 ∨ 21 < m.ty.toNat)):(run1 Tryd.prog nD (mask 14) 200 14 [mA m] H0 4).map (·.1)=some (.int .i64 (mayD m)):=by
 by_cases hx:m.ty.toNat=0 ∨ 21 < m.ty.toNat
 ·have e:=fds_none hx
  have:mayD m=150:=by unfold mayD; rw [e]; rfl
  rw [this]
  exact absurd hx hno
 ·obtain ⟨ty,fr,tt,ix,pe,co,ba,ve,tx,v6,hi,lo,po,cd,te,da,sg⟩:=m
  simp only at hx
  have ht:ty=1 ∨ ty=2 ∨ ty=3 ∨ ty=4 ∨ ty=5 ∨ ty=6 ∨ ty=7 ∨ ty=8 ∨ ty=9 ∨ ty=10 ∨ ty=11 ∨ ty=12 ∨ ty=13 ∨ ty=14 ∨ ty=15 ∨ ty=16 ∨ ty=17 ∨ ty=18 ∨ ty=19 ∨ ty=20 ∨ ty=21:=by
   have:ty.toNat=1 ∨ ty.toNat=2 ∨ ty.toNat=3 ∨ ty.toNat=4 ∨ ty.toNat=5 ∨ ty.toNat=6 ∨ ty.toNat=7 ∨ ty.toNat=8 ∨ ty.toNat=9 ∨ ty.toNat=10 ∨ ty.toNat=11 ∨ ty.toNat=12 ∨ ty.toNat=13 ∨ ty.toNat=14 ∨ ty.toNat=15 ∨ ty.toNat=16 ∨ ty.toNat=17 ∨ ty.toNat=18 ∨ ty.toNat=19 ∨ ty.toNat=20 ∨ ty.toNat=21:=by omega
   rcases this with h | h | h | h | h | h | h | h | h | h | h | h | h | h | h | h | h | h | h | h | h
   ·exact Or.inl (UInt8.toNat_inj.1 (by rw [h]; rfl))
   ·exact Or.inr (Or.inl (UInt8.toNat_inj.1 (by rw [h]; rfl)))
   ·exact Or.inr (Or.inr (Or.inl (UInt8.toNat_inj.1 (by rw [h]; rfl))))
   ·exact Or.inr (Or.inr (Or.inr (Or.inl (UInt8.toNat_inj.1 (by rw [h]; rfl)))))
   ·exact Or.inr (Or.inr (Or.inr (Or.inr (Or.inl (UInt8.toNat_inj.1 (by rw [h]; rfl))))))
   ·exact Or.inr (Or.inr (Or.inr (Or.inr (Or.inr (Or.inl (UInt8.toNat_inj.1 (by rw [h]; rfl)))))))
   ·exact Or.inr (Or.inr (Or.inr (Or.inr (Or.inr (Or.inr (Or.inl (UInt8.toNat_inj.1 (by rw [h]; rfl))))))))
   ·exact Or.inr (Or.inr (Or.inr (Or.inr (Or.inr (Or.inr (Or.inr (Or.inl (UInt8.toNat_inj.1 (by rw [h]; rfl)))))))))
   ·exact Or.inr (Or.inr (Or.inr (Or.inr (Or.inr (Or.inr (Or.inr (Or.inr (Or.inl (UInt8.toNat_inj.1 (by rw [h]; rfl))))))))))
   ·exact Or.inr (Or.inr (Or.inr (Or.inr (Or.inr (Or.inr (Or.inr (Or.inr (Or.inr (Or.inl (UInt8.toNat_inj.1 (by rw [h]; rfl)))))))))))
   ·exact Or.inr (Or.inr (Or.inr (Or.inr (Or.inr (Or.inr (Or.inr (Or.inr (Or.inr (Or.inr (Or.inl (UInt8.toNat_inj.1 (by rw [h]; rfl))))))))))))
   ·exact Or.inr (Or.inr (Or.inr (Or.inr (Or.inr (Or.inr (Or.inr (Or.inr (Or.inr (Or.inr (Or.inr (Or.inl (UInt8.toNat_inj.1 (by rw [h]; rfl)))))))))))))
   ·exact Or.inr (Or.inr (Or.inr (Or.inr (Or.inr (Or.inr (Or.inr (Or.inr (Or.inr (Or.inr (Or.inr (Or.inr (Or.inl (UInt8.toNat_inj.1 (by rw [h]; rfl))))))))))))))
   ·exact Or.inr (Or.inr (Or.inr (Or.inr (Or.inr (Or.inr (Or.inr (Or.inr (Or.inr (Or.inr (Or.inr (Or.inr (Or.inr (Or.inl (UInt8.toNat_inj.1 (by rw [h]; rfl)))))))))))))))
   ·exact Or.inr (Or.inr (Or.inr (Or.inr (Or.inr (Or.inr (Or.inr (Or.inr (Or.inr (Or.inr (Or.inr (Or.inr (Or.inr (Or.inr (Or.inl (UInt8.toNat_inj.1 (by rw [h]; rfl))))))))))))))))
   ·exact Or.inr (Or.inr (Or.inr (Or.inr (Or.inr (Or.inr (Or.inr (Or.inr (Or.inr (Or.inr (Or.inr (Or.inr (Or.inr (Or.inr (Or.inr (Or.inl (UInt8.toNat_inj.1 (by rw [h]; rfl)))))))))))))))))
   ·exact Or.inr (Or.inr (Or.inr (Or.inr (Or.inr (Or.inr (Or.inr (Or.inr (Or.inr (Or.inr (Or.inr (Or.inr (Or.inr (Or.inr (Or.inr (Or.inr (Or.inl (UInt8.toNat_inj.1 (by rw [h]; rfl))))))))))))))))))
   ·exact Or.inr (Or.inr (Or.inr (Or.inr (Or.inr (Or.inr (Or.inr (Or.inr (Or.inr (Or.inr (Or.inr (Or.inr (Or.inr (Or.inr (Or.inr (Or.inr (Or.inr (Or.inl (UInt8.toNat_inj.1 (by rw [h]; rfl)))))))))))))))))))
   ·exact Or.inr (Or.inr (Or.inr (Or.inr (Or.inr (Or.inr (Or.inr (Or.inr (Or.inr (Or.inr (Or.inr (Or.inr (Or.inr (Or.inr (Or.inr (Or.inr (Or.inr (Or.inr (Or.inl (UInt8.toNat_inj.1 (by rw [h]; rfl))))))))))))))))))))
   ·exact Or.inr (Or.inr (Or.inr (Or.inr (Or.inr (Or.inr (Or.inr (Or.inr (Or.inr (Or.inr (Or.inr (Or.inr (Or.inr (Or.inr (Or.inr (Or.inr (Or.inr (Or.inr (Or.inr (Or.inl (UInt8.toNat_inj.1 (by rw [h]; rfl)))))))))))))))))))))
   ·exact Or.inr (Or.inr (Or.inr (Or.inr (Or.inr (Or.inr (Or.inr (Or.inr (Or.inr (Or.inr (Or.inr (Or.inr (Or.inr (Or.inr (Or.inr (Or.inr (Or.inr (Or.inr (Or.inr (Or.inr ((UInt8.toNat_inj.1 (by rw [h]; rfl))))))))))))))))))))))
  rcases ht with rfl | rfl | rfl | rfl | rfl | rfl | rfl | rfl | rfl | rfl | rfl | rfl | rfl | rfl | rfl | rfl | rfl | rfl | rfl | rfl | rfl
  ·exact row_run (md1 fr tt ix pe co ba ve tx v6 hi lo po cd te da sg) rfl rfl
  ·exact row_run (md2 fr tt ix pe co ba ve tx v6 hi lo po cd te da sg) rfl rfl
  ·exact row_run (md3 fr tt ix pe co ba ve tx v6 hi lo po cd te da sg) rfl rfl
  ·exact row_run (md4 fr tt ix pe co ba ve tx v6 hi lo po cd te da sg) rfl rfl
  ·exact row_run (md5 fr tt ix pe co ba ve tx v6 hi lo po cd te da sg) rfl rfl
  ·exact row_run (md6 fr tt ix pe co ba ve tx v6 hi lo po cd te da sg) rfl rfl
  ·exact row_run (md7 fr tt ix pe co ba ve tx v6 hi lo po cd te da sg) rfl rfl
  ·exact row_run (md8 fr tt ix pe co ba ve tx v6 hi lo po cd te da sg) rfl rfl
  ·exact row_run (md9 fr tt ix pe co ba ve tx v6 hi lo po cd te da sg) rfl rfl
  ·exact row_run (md10 fr tt ix pe co ba ve tx v6 hi lo po cd te da sg) rfl rfl
  ·exact row_run (md11 fr tt ix pe co ba ve tx v6 hi lo po cd te da sg) rfl rfl
  ·exact row_run (md12 fr tt ix pe co ba ve tx v6 hi lo po cd te da sg) rfl rfl
  ·exact row_run (md13 fr tt ix pe co ba ve tx v6 hi lo po cd te da sg) rfl rfl
  ·exact row_run (md14 fr tt ix pe co ba ve tx v6 hi lo po cd te da sg) rfl rfl
  ·exact row_run (md15 fr tt ix pe co ba ve tx v6 hi lo po cd te da sg) rfl rfl
  ·exact row_run (md16 fr tt ix pe co ba ve tx v6 hi lo po cd te da sg) rfl rfl
  ·exact row_run (md17 fr tt ix pe co ba ve tx v6 hi lo po cd te da sg) rfl rfl
  ·exact row_run (md18 fr tt ix pe co ba ve tx v6 hi lo po cd te da sg) rfl rfl
  ·exact row_run (md19 fr tt ix pe co ba ve tx v6 hi lo po cd te da sg) rfl rfl
  ·exact row_run (md20 fr tt ix pe co ba ve tx v6 hi lo po cd te da sg) rfl rfl
  ·exact row_run (md21 fr tt ix pe co ba ve tx v6 hi lo po cd te da sg) rfl rfl
theorem doc_none (m:Ms) (hx:m.ty.toNat=0 ∨ 21 < m.ty.toNat):(run1 Tryd.prog (csOne 20 k20) (mask 14) 200 14 [mA m] H0 4).map (·.1)=some (.int .i64 (mayD m)):=by
 have e:=fds_none hx
 have:mayD m=150:=by unfold mayD; rw [e]; rfl
 rw [this]
 exact ansO_run (noPS_ok _) (mdY m) (allT_mk (by unfold fldS; rw [e]; rfl) rfl)
theorem k14_ok:CSOk Tryd.prog (csOne 14 (k13 mayD)):=csOne_ok fun args e he=>by
 unfold k13 at he
 split at he
 ·rename_i ty fr tt ix pe co ba ve tx0 v6 hi lo po cd te da sg
  cases he
  by_cases hx:ty.toNat=0 ∨ 21 < ty.toNat
  ·refine callOk_tL k20_ok (by kernel_rfl) fun y hy => ?_
   cases hy
   exact ⟨rfl,_,_,run_of (doc_none ⟨ty,fr,tt,ix,pe,co,ba,ve,tx0,v6,hi,lo,po,cd,te,da,sg⟩ hx)⟩
  ·refine callOk_tL nD_ok (by kernel_rfl) fun y hy => ?_
   cases hy
   exact ⟨rfl,_,_,run_of (doc_run ⟨ty,fr,tt,ix,pe,co,ba,ve,tx0,v6,hi,lo,po,cd,te,da,sg⟩ hx)⟩
 ·cases he
end Go.Proofs.YthlemfnkmpikjaaDoor
namespace Go.Proofs.YthlemfnkmpikjaaDoor
open Go Go.Eng Go.Num Go.Msg
def txW (s:List UInt8):List UInt8:=be2 (IntKind.wrap .u16 ((s.length:Nat):Int))++s
theorem r72 (s:List UInt8):ansO (run1O Tryd.prog noPS nI [6,12] [false] [] (mask 72) 200 72 [.str s] [] Tryd.prog.globals.size)=some (.tup [.str (txW s),.int .i64 0],[Nat.ble ((be2 (IntKind.wrap .u16 ((s.length:Nat):Int))).length+s.length) 9223372036854775807,!(decide ((32768:Int) < ((s.length:Nat):Int)))]):=by kernel_rfl
def p72 (tw:List UInt8→List UInt8):List AVal→Option (EffA × Bool)
 | [.str s]=>some (.pure (.tup [.str (tw s),.int .i64 0]),Nat.ble s.length 32768)
 | _=>none
theorem p72_ok:CSOk Tryd.prog (csP (psOne 72 (p72 txW))):=psOne_ok fun args e he=>by
 unfold p72 at he
 split at he
 ·rename_i s
  simp only [Option.some.injEq,Prod.mk.injEq] at he
  obtain ⟨rfl,hl⟩:=he
  have h:=Nat.le_of_ble_eq_true hl
  refine callOk_val nI_ok hmix (ansO_run (noPS_ok _) (r72 s) (allT_mk (Nat.ble_eq_true_of_le ?_) (allT_mk ?_ rfl))) rfl rfl
  ·show 2+s.length≤_
   omega
  ·rw [decide_eq_false (by omega)]
   rfl
 ·cases he
def penW (has:Int) (out:List UInt8):List AVal:=[.int .i64 has,.bool false,.nilPtr,.str out,.int .i64 0]
end Go.Proofs.YthlemfnkmpikjaaDoor
namespace Go.Proofs.YthlemfnkmpikjaaDoor
open Go Go.Eng Go.Num Go.Msg
def ps72 (tw:List UInt8→List UInt8):PS:=psOne 72 (p72 tw)
end Go.Proofs.YthlemfnkmpikjaaDoor
namespace Go.Proofs.YthlemfnkmpikjaaDoor
open Go Go.Eng Go.Num Go.Msg
set_option maxHeartbeats 4000000
noncomputable def nX (tw:List UInt8→List UInt8) (k:Nat):CS:=inlD Tryd.prog mask 200 (csP (ps72 tw)) k
theorem nX_ps (tw:List UInt8→List UInt8) (k:Nat):PSOk (ps72 tw) (nX tw (k+1)):=fun f args e h=>by
 have h1:csP (ps72 tw) f args=some e:=by
  unfold csP
  rw [h]
  rfl
 show (inlD Tryd.prog mask 200 (csP (ps72 tw)) (k+1)) f args=some e
 simp only [inlD,h1]
theorem nX_ok (k:Nat):CSOk Tryd.prog (nX txW k):=inlD_ok hmix p72_ok k
def hW (has:Int) (out:List UInt8) (m:Ms):HL:=[(4,.cells false (penW has out)),(5,.cells false (mCells m))]
theorem t63w (cs:CS) (has bit:Int) (out:List UInt8):ansM [4] (run1O Tryd.prog noPS cs [11,17] [true] [] (mask 63) 200 63 [.ptr 4 0,.int .i64 bit] [(4,.cells false (penW has out))] 5)=some (.bool true,[some (.cells false (penW has out))],[onB has bit]):=by kernel_rfl
theorem E63w (cs:CS) (has bit:Int) (out:List UInt8) (m:Ms) (hb:onB has bit=true){base:Nat}:(eR cs 63 [.ptr 4 0,.int .i64 bit]).app base (hW has out m)=some (.bool true,hW has out m):=
 inlE_run (noPS_ok _) (ns:=[4]) (t63w cs has bit out) (allT_mk hb rfl) gl rfl rfl rfl rfl rfl rfl
def wF (tw:List UInt8→List UInt8) (m:Ms):Msg.Fd→List UInt8
 | .F=>m.fr
 | .T=>m.tt
 | .I=>be4 m.ix
 | .P=>be4 m.pe
 | .C=>be8 m.co
 | .B=>be8 m.ba
 | .V=>be8 m.ve
 | .X=>m.tx
 | .E=>cond m.v6 ([6]++be8 m.hi++be8 m.lo++be2 m.po) ([4]++be4 m.lo.toUInt32++be2 m.po)
 | .K=>be2 m.cd
 | .N=>tw m.te
 | .D=>tw m.da
 | .S=>m.sg
def fitB (n k:Nat):Bool:=Nat.ble (n+k) 9223372036854775807
theorem wrF (tw:List UInt8→List UInt8) (k:Nat) (has:Int) (out:List UInt8) (m:Ms):ansM [4,5] (run1O Tryd.prog (ps72 tw) (nX tw (k+3)) [300021,15] [] [.bool true,.tup []] (mask 41) 200 41 [.ptr 4 0,.int .i64 1,.int .i64 32,.ptr 5 1] (hW has out m) 6)=some (.tup [],[some (.cells false (penW has (out++m.fr))),some (.cells false (mCells m))],[Nat.ble (out.length+(m.fr).length) 9223372036854775807,oB (eR (nX tw (k+2)) 63 [.ptr 4 0,.int .i64 1]) 22 (hW has out m) (.bool true) (hW has out m)]):=by kernel_rfl
theorem WF (tw:List UInt8→List UInt8) (k:Nat) (has:Int) (hb:onB has 1=true) (out:List UInt8) (m:Ms) (hl:fitB out.length (wF tw m .F).length=true){base:Nat}:(eR (nX tw (k+3)) 41 [.ptr 4 0,.int .i64 1,.int .i64 32,.ptr 5 1]).app base (hW has out m)=some (.tup [],hW has (out++wF tw m .F) m):=
 inlE_run (nX_ps tw (k+2)) (ns:=[4,5]) (wrF tw k has out m) (allT_mk hl (allT_mk (oB_of (E63w (nX tw (k+2)) has 1 out m hb)) rfl)) gl rfl rfl rfl rfl rfl rfl
theorem wrT (tw:List UInt8→List UInt8) (k:Nat) (has:Int) (out:List UInt8) (m:Ms):ansM [4,5] (run1O Tryd.prog (ps72 tw) (nX tw (k+3)) [300021,15] [] [.bool true,.tup []] (mask 41) 200 41 [.ptr 4 0,.int .i64 2,.int .i64 32,.ptr 5 2] (hW has out m) 6)=some (.tup [],[some (.cells false (penW has (out++m.tt))),some (.cells false (mCells m))],[Nat.ble (out.length+(m.tt).length) 9223372036854775807,oB (eR (nX tw (k+2)) 63 [.ptr 4 0,.int .i64 2]) 22 (hW has out m) (.bool true) (hW has out m)]):=by kernel_rfl
theorem WT (tw:List UInt8→List UInt8) (k:Nat) (has:Int) (hb:onB has 2=true) (out:List UInt8) (m:Ms) (hl:fitB out.length (wF tw m .T).length=true){base:Nat}:(eR (nX tw (k+3)) 41 [.ptr 4 0,.int .i64 2,.int .i64 32,.ptr 5 2]).app base (hW has out m)=some (.tup [],hW has (out++wF tw m .T) m):=
 inlE_run (nX_ps tw (k+2)) (ns:=[4,5]) (wrT tw k has out m) (allT_mk hl (allT_mk (oB_of (E63w (nX tw (k+2)) has 2 out m hb)) rfl)) gl rfl rfl rfl rfl rfl rfl
theorem wrI (tw:List UInt8→List UInt8) (k:Nat) (has:Int) (out:List UInt8) (m:Ms):ansM [4,5] (run1O Tryd.prog (ps72 tw) (nX tw (k+3)) [300025,19] [] [.bool true,.tup []] (mask 42) 200 42 [.ptr 4 0,.int .i64 4,.ptr 5 3,.mth0 43,.fn 44 []] (hW has out m) 6)=some (.tup [],[some (.cells false (penW has (out++be4 m.ix))),some (.cells false (mCells m))],[Nat.ble (out.length+(be4 m.ix).length) 9223372036854775807,oB (eR (nX tw (k+2)) 63 [.ptr 4 0,.int .i64 4]) 22 (hW has out m) (.bool true) (hW has out m)]):=by kernel_rfl
theorem WI (tw:List UInt8→List UInt8) (k:Nat) (has:Int) (hb:onB has 4=true) (out:List UInt8) (m:Ms) (hl:fitB out.length (wF tw m .I).length=true){base:Nat}:(eR (nX tw (k+3)) 42 [.ptr 4 0,.int .i64 4,.ptr 5 3,.mth0 43,.fn 44 []]).app base (hW has out m)=some (.tup [],hW has (out++wF tw m .I) m):=
 inlE_run (nX_ps tw (k+2)) (ns:=[4,5]) (wrI tw k has out m) (allT_mk hl (allT_mk (oB_of (E63w (nX tw (k+2)) has 4 out m hb)) rfl)) gl rfl rfl rfl rfl rfl rfl
theorem wrP (tw:List UInt8→List UInt8) (k:Nat) (has:Int) (out:List UInt8) (m:Ms):ansM [4,5] (run1O Tryd.prog (ps72 tw) (nX tw (k+3)) [300025,19] [] [.bool true,.tup []] (mask 42) 200 42 [.ptr 4 0,.int .i64 8,.ptr 5 4,.mth0 43,.fn 44 []] (hW has out m) 6)=some (.tup [],[some (.cells false (penW has (out++be4 m.pe))),some (.cells false (mCells m))],[Nat.ble (out.length+(be4 m.pe).length) 9223372036854775807,oB (eR (nX tw (k+2)) 63 [.ptr 4 0,.int .i64 8]) 22 (hW has out m) (.bool true) (hW has out m)]):=by kernel_rfl
theorem WP (tw:List UInt8→List UInt8) (k:Nat) (has:Int) (hb:onB has 8=true) (out:List UInt8) (m:Ms) (hl:fitB out.length (wF tw m .P).length=true){base:Nat}:(eR (nX tw (k+3)) 42 [.ptr 4 0,.int .i64 8,.ptr 5 4,.mth0 43,.fn 44 []]).app base (hW has out m)=some (.tup [],hW has (out++wF tw m .P) m):=
 inlE_run (nX_ps tw (k+2)) (ns:=[4,5]) (wrP tw k has out m) (allT_mk hl (allT_mk (oB_of (E63w (nX tw (k+2)) has 8 out m hb)) rfl)) gl rfl rfl rfl rfl rfl rfl
theorem wrC (tw:List UInt8→List UInt8) (k:Nat) (has:Int) (out:List UInt8) (m:Ms):ansM [4,5] (run1O Tryd.prog (ps72 tw) (nX tw (k+3)) [300025,19] [] [.bool true,.tup []] (mask 45) 200 45 [.ptr 4 0,.int .i64 16,.ptr 5 5,.mth0 46,.fn 47 []] (hW has out m) 6)=some (.tup [],[some (.cells false (penW has (out++be8 m.co))),some (.cells false (mCells m))],[Nat.ble (out.length+(be8 m.co).length) 9223372036854775807,oB (eR (nX tw (k+2)) 63 [.ptr 4 0,.int .i64 16]) 22 (hW has out m) (.bool true) (hW has out m)]):=by kernel_rfl
theorem WC (tw:List UInt8→List UInt8) (k:Nat) (has:Int) (hb:onB has 16=true) (out:List UInt8) (m:Ms) (hl:fitB out.length (wF tw m .C).length=true){base:Nat}:(eR (nX tw (k+3)) 45 [.ptr 4 0,.int .i64 16,.ptr 5 5,.mth0 46,.fn 47 []]).app base (hW has out m)=some (.tup [],hW has (out++wF tw m .C) m):=
 inlE_run (nX_ps tw (k+2)) (ns:=[4,5]) (wrC tw k has out m) (allT_mk hl (allT_mk (oB_of (E63w (nX tw (k+2)) has 16 out m hb)) rfl)) gl rfl rfl rfl rfl rfl rfl
theorem wrB (tw:List UInt8→List UInt8) (k:Nat) (has:Int) (out:List UInt8) (m:Ms):ansM [4,5] (run1O Tryd.prog (ps72 tw) (nX tw (k+3)) [300025,19] [] [.bool true,.tup []] (mask 45) 200 45 [.ptr 4 0,.int .i64 32,.ptr 5 6,.mth0 46,.fn 47 []] (hW has out m) 6)=some (.tup [],[some (.cells false (penW has (out++be8 m.ba))),some (.cells false (mCells m))],[Nat.ble (out.length+(be8 m.ba).length) 9223372036854775807,oB (eR (nX tw (k+2)) 63 [.ptr 4 0,.int .i64 32]) 22 (hW has out m) (.bool true) (hW has out m)]):=by kernel_rfl
theorem WB (tw:List UInt8→List UInt8) (k:Nat) (has:Int) (hb:onB has 32=true) (out:List UInt8) (m:Ms) (hl:fitB out.length (wF tw m .B).length=true){base:Nat}:(eR (nX tw (k+3)) 45 [.ptr 4 0,.int .i64 32,.ptr 5 6,.mth0 46,.fn 47 []]).app base (hW has out m)=some (.tup [],hW has (out++wF tw m .B) m):=
 inlE_run (nX_ps tw (k+2)) (ns:=[4,5]) (wrB tw k has out m) (allT_mk hl (allT_mk (oB_of (E63w (nX tw (k+2)) has 32 out m hb)) rfl)) gl rfl rfl rfl rfl rfl rfl
theorem wrV (tw:List UInt8→List UInt8) (k:Nat) (has:Int) (out:List UInt8) (m:Ms):ansM [4,5] (run1O Tryd.prog (ps72 tw) (nX tw (k+3)) [300025,19] [] [.bool true,.tup []] (mask 45) 200 45 [.ptr 4 0,.int .i64 64,.ptr 5 7,.mth0 46,.fn 47 []] (hW has out m) 6)=some (.tup [],[some (.cells false (penW has (out++be8 m.ve))),some (.cells false (mCells m))],[Nat.ble (out.length+(be8 m.ve).length) 9223372036854775807,oB (eR (nX tw (k+2)) 63 [.ptr 4 0,.int .i64 64]) 22 (hW has out m) (.bool true) (hW has out m)]):=by kernel_rfl
theorem WV (tw:List UInt8→List UInt8) (k:Nat) (has:Int) (hb:onB has 64=true) (out:List UInt8) (m:Ms) (hl:fitB out.length (wF tw m .V).length=true){base:Nat}:(eR (nX tw (k+3)) 45 [.ptr 4 0,.int .i64 64,.ptr 5 7,.mth0 46,.fn 47 []]).app base (hW has out m)=some (.tup [],hW has (out++wF tw m .V) m):=
 inlE_run (nX_ps tw (k+2)) (ns:=[4,5]) (wrV tw k has out m) (allT_mk hl (allT_mk (oB_of (E63w (nX tw (k+2)) has 64 out m hb)) rfl)) gl rfl rfl rfl rfl rfl rfl
theorem wrX (tw:List UInt8→List UInt8) (k:Nat) (has:Int) (out:List UInt8) (m:Ms):ansM [4,5] (run1O Tryd.prog (ps72 tw) (nX tw (k+3)) [300021,15] [] [.bool true,.tup []] (mask 41) 200 41 [.ptr 4 0,.int .i64 128,.int .i64 16,.ptr 5 8] (hW has out m) 6)=some (.tup [],[some (.cells false (penW has (out++m.tx))),some (.cells false (mCells m))],[Nat.ble (out.length+(m.tx).length) 9223372036854775807,oB (eR (nX tw (k+2)) 63 [.ptr 4 0,.int .i64 128]) 22 (hW has out m) (.bool true) (hW has out m)]):=by kernel_rfl
theorem WX (tw:List UInt8→List UInt8) (k:Nat) (has:Int) (hb:onB has 128=true) (out:List UInt8) (m:Ms) (hl:fitB out.length (wF tw m .X).length=true){base:Nat}:(eR (nX tw (k+3)) 41 [.ptr 4 0,.int .i64 128,.int .i64 16,.ptr 5 8]).app base (hW has out m)=some (.tup [],hW has (out++wF tw m .X) m):=
 inlE_run (nX_ps tw (k+2)) (ns:=[4,5]) (wrX tw k has out m) (allT_mk hl (allT_mk (oB_of (E63w (nX tw (k+2)) has 128 out m hb)) rfl)) gl rfl rfl rfl rfl rfl rfl
theorem wrEtrue (tw:List UInt8→List UInt8) (k:Nat) (has:Int) (out:List UInt8) (ty:UInt8) (fr tt:List UInt8) (ix pe:UInt32) (co ba ve:UInt64) (tx:List UInt8) (hi lo:UInt64) (po cd:Int) (te da sg:List UInt8):ansM [4,5] (run1O Tryd.prog (ps72 tw) (nX tw (k+3)) [300027,67,22] [] [.bool true,.tup []] (mask 48) 200 48 [.ptr 4 0,.ptr 5 9] (hW has out ⟨ty,fr,tt,ix,pe,co,ba,ve,tx,true,hi,lo,po,cd,te,da,sg⟩) 6)=some (.tup [],[some (.cells false (penW has (out++([6]++be8 hi++be8 lo++be2 po)))),some (.cells false (mCells ⟨ty,fr,tt,ix,pe,co,ba,ve,tx,true,hi,lo,po,cd,te,da,sg⟩))],[Nat.ble (out.length+([6]++be8 hi++be8 lo++be2 po).length) 9223372036854775807,oB (eR (nX tw (k+2)) 63 [.ptr 4 0,.int .i64 256]) 14 (hW has out ⟨ty,fr,tt,ix,pe,co,ba,ve,tx,true,hi,lo,po,cd,te,da,sg⟩) (.bool true) (hW has out ⟨ty,fr,tt,ix,pe,co,ba,ve,tx,true,hi,lo,po,cd,te,da,sg⟩)]):=by kernel_rfl
theorem wrEfalse (tw:List UInt8→List UInt8) (k:Nat) (has:Int) (out:List UInt8) (ty:UInt8) (fr tt:List UInt8) (ix pe:UInt32) (co ba ve:UInt64) (tx:List UInt8) (hi lo:UInt64) (po cd:Int) (te da sg:List UInt8):ansM [4,5] (run1O Tryd.prog (ps72 tw) (nX tw (k+3)) [300027,67,22] [] [.bool true,.tup []] (mask 48) 200 48 [.ptr 4 0,.ptr 5 9] (hW has out ⟨ty,fr,tt,ix,pe,co,ba,ve,tx,false,hi,lo,po,cd,te,da,sg⟩) 6)=some (.tup [],[some (.cells false (penW has (out++([4]++be4 lo.toUInt32++be2 po)))),some (.cells false (mCells ⟨ty,fr,tt,ix,pe,co,ba,ve,tx,false,hi,lo,po,cd,te,da,sg⟩))],[Nat.ble (out.length+([4]++be4 lo.toUInt32++be2 po).length) 9223372036854775807,oB (eR (nX tw (k+2)) 63 [.ptr 4 0,.int .i64 256]) 14 (hW has out ⟨ty,fr,tt,ix,pe,co,ba,ve,tx,false,hi,lo,po,cd,te,da,sg⟩) (.bool true) (hW has out ⟨ty,fr,tt,ix,pe,co,ba,ve,tx,false,hi,lo,po,cd,te,da,sg⟩)]):=by kernel_rfl
theorem WE (tw:List UInt8→List UInt8) (k:Nat) (has:Int) (hb:onB has 256=true) (out:List UInt8) (m:Ms) (hl:fitB out.length (wF tw m .E).length=true){base:Nat}:(eR (nX tw (k+3)) 48 [.ptr 4 0,.ptr 5 9]).app base (hW has out m)=some (.tup [],hW has (out++wF tw m .E) m):=by
 obtain ⟨ty,fr,tt,ix,pe,co,ba,ve,tx,v6,hi,lo,po,cd,te,da,sg⟩:=m
 cases v6 with
 | true=>exact inlE_run (nX_ps tw (k+2)) (ns:=[4,5]) (wrEtrue tw k has out ty fr tt ix pe co ba ve tx hi lo po cd te da sg) (allT_mk hl (allT_mk (oB_of (E63w (nX tw (k+2)) has 256 out _ hb)) rfl)) gl rfl rfl rfl rfl rfl rfl
 | false=>exact inlE_run (nX_ps tw (k+2)) (ns:=[4,5]) (wrEfalse tw k has out ty fr tt ix pe co ba ve tx hi lo po cd te da sg) (allT_mk hl (allT_mk (oB_of (E63w (nX tw (k+2)) has 256 out _ hb)) rfl)) gl rfl rfl rfl rfl rfl rfl
theorem wrK (tw:List UInt8→List UInt8) (k:Nat) (has:Int) (out:List UInt8) (m:Ms):ansM [4,5] (run1O Tryd.prog (ps72 tw) (nX tw (k+3)) [300025,19] [] [.bool true,.tup []] (mask 49) 200 49 [.ptr 4 0,.int .i64 512,.ptr 5 13,.mth0 50,.fn 51 []] (hW has out m) 6)=some (.tup [],[some (.cells false (penW has (out++be2 m.cd))),some (.cells false (mCells m))],[Nat.ble (out.length+(be2 m.cd).length) 9223372036854775807,oB (eR (nX tw (k+2)) 63 [.ptr 4 0,.int .i64 512]) 22 (hW has out m) (.bool true) (hW has out m)]):=by kernel_rfl
theorem WK (tw:List UInt8→List UInt8) (k:Nat) (has:Int) (hb:onB has 512=true) (out:List UInt8) (m:Ms) (hl:fitB out.length (wF tw m .K).length=true){base:Nat}:(eR (nX tw (k+3)) 49 [.ptr 4 0,.int .i64 512,.ptr 5 13,.mth0 50,.fn 51 []]).app base (hW has out m)=some (.tup [],hW has (out++wF tw m .K) m):=
 inlE_run (nX_ps tw (k+2)) (ns:=[4,5]) (wrK tw k has out m) (allT_mk hl (allT_mk (oB_of (E63w (nX tw (k+2)) has 512 out m hb)) rfl)) gl rfl rfl rfl rfl rfl rfl
theorem wrN (tw:List UInt8→List UInt8) (k:Nat) (has:Int) (out:List UInt8) (m:Ms):ansM [4,5] (run1O Tryd.prog (ps72 tw) (nX tw (k+3)) [300062,74,82] [] [.bool true,.tup []] (mask 52) 200 52 [.ptr 4 0,.int .i64 1024,.int .i64 64,.ptr 5 14] (hW has out m) 6)=some (.tup [],[some (.cells false (penW has (out++tw m.te))),some (.cells false (mCells m))],[Nat.ble (out.length+(tw m.te).length) 9223372036854775807,Nat.ble m.te.length 32768,oB (eR (nX tw (k+2)) 63 [.ptr 4 0,.int .i64 1024]) 22 (hW has out m) (.bool true) (hW has out m)]):=by kernel_rfl
theorem WN (tw:List UInt8→List UInt8) (k:Nat) (has:Int) (hb:onB has 1024=true) (out:List UInt8) (m:Ms) (hl:fitB out.length (wF tw m .N).length=true) (ht:Nat.ble m.te.length 32768=true){base:Nat}:(eR (nX tw (k+3)) 52 [.ptr 4 0,.int .i64 1024,.int .i64 64,.ptr 5 14]).app base (hW has out m)=some (.tup [],hW has (out++wF tw m .N) m):=
 inlE_run (nX_ps tw (k+2)) (ns:=[4,5]) (wrN tw k has out m) (allT_mk hl (allT_mk ht (allT_mk (oB_of (E63w (nX tw (k+2)) has 1024 out m hb)) rfl))) gl rfl rfl rfl rfl rfl rfl
theorem wrD (tw:List UInt8→List UInt8) (k:Nat) (has:Int) (out:List UInt8) (m:Ms):ansM [4,5] (run1O Tryd.prog (ps72 tw) (nX tw (k+3)) [300062,74,82] [] [.bool true,.tup []] (mask 52) 200 52 [.ptr 4 0,.int .i64 2048,.int .i64 32768,.ptr 5 15] (hW has out m) 6)=some (.tup [],[some (.cells false (penW has (out++tw m.da))),some (.cells false (mCells m))],[Nat.ble (out.length+(tw m.da).length) 9223372036854775807,Nat.ble m.da.length 32768,oB (eR (nX tw (k+2)) 63 [.ptr 4 0,.int .i64 2048]) 22 (hW has out m) (.bool true) (hW has out m)]):=by kernel_rfl
theorem WD (tw:List UInt8→List UInt8) (k:Nat) (has:Int) (hb:onB has 2048=true) (out:List UInt8) (m:Ms) (hl:fitB out.length (wF tw m .D).length=true) (ht:Nat.ble m.da.length 32768=true){base:Nat}:(eR (nX tw (k+3)) 52 [.ptr 4 0,.int .i64 2048,.int .i64 32768,.ptr 5 15]).app base (hW has out m)=some (.tup [],hW has (out++wF tw m .D) m):=
 inlE_run (nX_ps tw (k+2)) (ns:=[4,5]) (wrD tw k has out m) (allT_mk hl (allT_mk ht (allT_mk (oB_of (E63w (nX tw (k+2)) has 2048 out m hb)) rfl))) gl rfl rfl rfl rfl rfl rfl
theorem wrS (tw:List UInt8→List UInt8) (k:Nat) (has:Int) (out:List UInt8) (m:Ms):ansM [4,5] (run1O Tryd.prog (ps72 tw) (nX tw (k+3)) [300021,15] [] [.bool true,.tup []] (mask 41) 200 41 [.ptr 4 0,.int .i64 4096,.int .i64 64,.ptr 5 16] (hW has out m) 6)=some (.tup [],[some (.cells false (penW has (out++m.sg))),some (.cells false (mCells m))],[Nat.ble (out.length+(m.sg).length) 9223372036854775807,oB (eR (nX tw (k+2)) 63 [.ptr 4 0,.int .i64 4096]) 22 (hW has out m) (.bool true) (hW has out m)]):=by kernel_rfl
theorem WS (tw:List UInt8→List UInt8) (k:Nat) (has:Int) (hb:onB has 4096=true) (out:List UInt8) (m:Ms) (hl:fitB out.length (wF tw m .S).length=true){base:Nat}:(eR (nX tw (k+3)) 41 [.ptr 4 0,.int .i64 4096,.int .i64 64,.ptr 5 16]).app base (hW has out m)=some (.tup [],hW has (out++wF tw m .S) m):=
 inlE_run (nX_ps tw (k+2)) (ns:=[4,5]) (wrS tw k has out m) (allT_mk hl (allT_mk (oB_of (E63w (nX tw (k+2)) has 4096 out m hb)) rfl)) gl rfl rfl rfl rfl rfl rfl
end Go.Proofs.YthlemfnkmpikjaaDoor
namespace Go.Proofs.YthlemfnkmpikjaaDoor
open Go Go.Eng Go.Num Go.Msg
set_option maxHeartbeats 4000000
def wrG (tw:List UInt8→List UInt8) (m:Ms) (fs:List Msg.Fd) (out:List UInt8):List UInt8:=fs.foldl (fun o f=>o++wF tw m f) out
def fitW (tw:List UInt8→List UInt8) (m:Ms):List UInt8→List Msg.Fd→Prop
 | _,[]=>True
 | out,f::fs=>fitB out.length (wF tw m f).length=true∧fitW tw m (out++wF tw m f) fs
def AllW (t:UInt8) (tw:List UInt8→List UInt8) (k:Nat) (m:Ms) (out:List UInt8):Prop:=∃ (sy:List Nat) (os:List Bool) (vs:List AVal) (ob:List Bool),ansM [4,5] (run1O Tryd.prog noPS (nX tw (k+4)) sy os vs (mask 19) 200 19 [.ptr 4 0,.ptr 5 0] (hW (fieldsN t) out m) 6)=some (.tup [],[some (.cells false (penW (fieldsN t) (wrG tw m (fds t.toNat) out))),some (.cells false (mCells m))],ob)∧allT ob=true
theorem cw1 (tw:List UInt8→List UInt8) (k:Nat) (m:Ms) (o0 o1 o2 o3:List UInt8):ansM [4,5] (run1O Tryd.prog noPS (nX tw (k+4)) [300008,300013,300088] [] [.tup [],.tup [.ptr 4 0,.agg (penW (fieldsN 1) o1),.ptr 5 0,.agg (mCells m)],.tup [],.tup [.ptr 4 0,.agg (penW (fieldsN 1) o2),.ptr 5 0,.agg (mCells m)],.tup [],.tup [.ptr 4 0,.agg (penW (fieldsN 1) o3),.ptr 5 0,.agg (mCells m)]] (mask 19) 200 19 [.ptr 4 0,.ptr 5 0] (hW (fieldsN 1) o0 m) 6)=some (.tup [],[some (.cells false (penW (fieldsN 1) o3)),some (.cells false (mCells m))],[oB (eR (nX tw (k+3)) 52 [.ptr 4 0,.int .i64 1024,.int .i64 64,.ptr 5 14]) 678 (hW (fieldsN 1) o2 m) (.tup []) (hW (fieldsN 1) o3 m),oB (eR (nX tw (k+3)) 41 [.ptr 4 0,.int .i64 2,.int .i64 32,.ptr 5 2]) 78 (hW (fieldsN 1) o1 m) (.tup []) (hW (fieldsN 1) o2 m),oB (eR (nX tw (k+3)) 41 [.ptr 4 0,.int .i64 1,.int .i64 32,.ptr 5 1]) 38 (hW (fieldsN 1) o0 m) (.tup []) (hW (fieldsN 1) o1 m)]):=by kernel_rfl
theorem dw1 (tw:List UInt8→List UInt8) (k:Nat) (m:Ms) (out:List UInt8) (h1:Nat.ble m.te.length 32768=true) (h2:Nat.ble m.da.length 32768=true) (hf:fitW tw m out (fds (UInt8.toNat 1))):AllW 1 tw k m out:=by
 obtain ⟨q0,q1,q2,_⟩:=hf
 exact ⟨_,_,_,_,cw1 tw k m out (out++wF tw m .F) ((out++wF tw m .F)++wF tw m .T) (((out++wF tw m .F)++wF tw m .T)++wF tw m .N),(allT_mk (oB_of (WN tw k (fieldsN 1) rfl ((out++wF tw m .F)++wF tw m .T) m q2 h1)) (allT_mk (oB_of (WT tw k (fieldsN 1) rfl (out++wF tw m .F) m q1)) (allT_mk (oB_of (WF tw k (fieldsN 1) rfl out m q0)) rfl)))⟩
theorem cw2 (tw:List UInt8→List UInt8) (k:Nat) (m:Ms) (o0 o1 o2 o3:List UInt8):ansM [4,5] (run1O Tryd.prog noPS (nX tw (k+4)) [300008,300063,300073] [] [.tup [],.tup [.ptr 4 0,.agg (penW (fieldsN 2) o1),.ptr 5 0,.agg (mCells m)],.tup [],.tup [.ptr 4 0,.agg (penW (fieldsN 2) o2),.ptr 5 0,.agg (mCells m)],.tup [],.tup [.ptr 4 0,.agg (penW (fieldsN 2) o3),.ptr 5 0,.agg (mCells m)]] (mask 19) 200 19 [.ptr 4 0,.ptr 5 0] (hW (fieldsN 2) o0 m) 6)=some (.tup [],[some (.cells false (penW (fieldsN 2) o3)),some (.cells false (mCells m))],[oB (eR (nX tw (k+3)) 48 [.ptr 4 0,.ptr 5 9]) 558 (hW (fieldsN 2) o2 m) (.tup []) (hW (fieldsN 2) o3 m),oB (eR (nX tw (k+3)) 45 [.ptr 4 0,.int .i64 64,.ptr 5 7,.mth0 46,.fn 47 []]) 478 (hW (fieldsN 2) o1 m) (.tup []) (hW (fieldsN 2) o2 m),oB (eR (nX tw (k+3)) 41 [.ptr 4 0,.int .i64 1,.int .i64 32,.ptr 5 1]) 38 (hW (fieldsN 2) o0 m) (.tup []) (hW (fieldsN 2) o1 m)]):=by kernel_rfl
theorem dw2 (tw:List UInt8→List UInt8) (k:Nat) (m:Ms) (out:List UInt8) (h1:Nat.ble m.te.length 32768=true) (h2:Nat.ble m.da.length 32768=true) (hf:fitW tw m out (fds (UInt8.toNat 2))):AllW 2 tw k m out:=by
 obtain ⟨q0,q1,q2,_⟩:=hf
 exact ⟨_,_,_,_,cw2 tw k m out (out++wF tw m .F) ((out++wF tw m .F)++wF tw m .V) (((out++wF tw m .F)++wF tw m .V)++wF tw m .E),(allT_mk (oB_of (WE tw k (fieldsN 2) rfl ((out++wF tw m .F)++wF tw m .V) m q2)) (allT_mk (oB_of (WV tw k (fieldsN 2) rfl (out++wF tw m .F) m q1)) (allT_mk (oB_of (WF tw k (fieldsN 2) rfl out m q0)) rfl)))⟩
theorem cw3 (tw:List UInt8→List UInt8) (k:Nat) (m:Ms) (o0 o1 o2:List UInt8):ansM [4,5] (run1O Tryd.prog noPS (nX tw (k+4)) [300008,300063] [] [.tup [],.tup [.ptr 4 0,.agg (penW (fieldsN 3) o1),.ptr 5 0,.agg (mCells m)],.tup [],.tup [.ptr 4 0,.agg (penW (fieldsN 3) o2),.ptr 5 0,.agg (mCells m)]] (mask 19) 200 19 [.ptr 4 0,.ptr 5 0] (hW (fieldsN 3) o0 m) 6)=some (.tup [],[some (.cells false (penW (fieldsN 3) o2)),some (.cells false (mCells m))],[oB (eR (nX tw (k+3)) 45 [.ptr 4 0,.int .i64 64,.ptr 5 7,.mth0 46,.fn 47 []]) 478 (hW (fieldsN 3) o1 m) (.tup []) (hW (fieldsN 3) o2 m),oB (eR (nX tw (k+3)) 41 [.ptr 4 0,.int .i64 1,.int .i64 32,.ptr 5 1]) 38 (hW (fieldsN 3) o0 m) (.tup []) (hW (fieldsN 3) o1 m)]):=by kernel_rfl
theorem dw3 (tw:List UInt8→List UInt8) (k:Nat) (m:Ms) (out:List UInt8) (h1:Nat.ble m.te.length 32768=true) (h2:Nat.ble m.da.length 32768=true) (hf:fitW tw m out (fds (UInt8.toNat 3))):AllW 3 tw k m out:=by
 obtain ⟨q0,q1,_⟩:=hf
 exact ⟨_,_,_,_,cw3 tw k m out (out++wF tw m .F) ((out++wF tw m .F)++wF tw m .V),(allT_mk (oB_of (WV tw k (fieldsN 3) rfl (out++wF tw m .F) m q1)) (allT_mk (oB_of (WF tw k (fieldsN 3) rfl out m q0)) rfl))⟩
theorem cw4 (tw:List UInt8→List UInt8) (k:Nat) (m:Ms) (o0 o1 o2 o3:List UInt8):ansM [4,5] (run1O Tryd.prog noPS (nX tw (k+4)) [300063,300093,300098] [] [.tup [],.tup [.ptr 4 0,.agg (penW (fieldsN 4) o1),.ptr 5 0,.agg (mCells m)],.tup [],.tup [.ptr 4 0,.agg (penW (fieldsN 4) o2),.ptr 5 0,.agg (mCells m)],.tup [],.tup [.ptr 4 0,.agg (penW (fieldsN 4) o3),.ptr 5 0,.agg (mCells m)]] (mask 19) 200 19 [.ptr 4 0,.ptr 5 0] (hW (fieldsN 4) o0 m) 6)=some (.tup [],[some (.cells false (penW (fieldsN 4) o3)),some (.cells false (mCells m))],[oB (eR (nX tw (k+3)) 41 [.ptr 4 0,.int .i64 4096,.int .i64 64,.ptr 5 16]) 758 (hW (fieldsN 4) o2 m) (.tup []) (hW (fieldsN 4) o3 m),oB (eR (nX tw (k+3)) 52 [.ptr 4 0,.int .i64 2048,.int .i64 32768,.ptr 5 15]) 718 (hW (fieldsN 4) o1 m) (.tup []) (hW (fieldsN 4) o2 m),oB (eR (nX tw (k+3)) 45 [.ptr 4 0,.int .i64 64,.ptr 5 7,.mth0 46,.fn 47 []]) 478 (hW (fieldsN 4) o0 m) (.tup []) (hW (fieldsN 4) o1 m)]):=by kernel_rfl
theorem dw4 (tw:List UInt8→List UInt8) (k:Nat) (m:Ms) (out:List UInt8) (h1:Nat.ble m.te.length 32768=true) (h2:Nat.ble m.da.length 32768=true) (hf:fitW tw m out (fds (UInt8.toNat 4))):AllW 4 tw k m out:=by
 obtain ⟨q0,q1,q2,_⟩:=hf
 exact ⟨_,_,_,_,cw4 tw k m out (out++wF tw m .V) ((out++wF tw m .V)++wF tw m .D) (((out++wF tw m .V)++wF tw m .D)++wF tw m .S),(allT_mk (oB_of (WS tw k (fieldsN 4) rfl ((out++wF tw m .V)++wF tw m .D) m q2)) (allT_mk (oB_of (WD tw k (fieldsN 4) rfl (out++wF tw m .V) m q1 h2)) (allT_mk (oB_of (WV tw k (fieldsN 4) rfl out m q0)) rfl)))⟩
theorem cw5 (tw:List UInt8→List UInt8) (k:Nat) (m:Ms) (o0 o1 o2 o3 o4:List UInt8):ansM [4,5] (run1O Tryd.prog noPS (nX tw (k+4)) [300053,300063,300093,300098] [] [.tup [],.tup [.ptr 4 0,.agg (penW (fieldsN 5) o1),.ptr 5 0,.agg (mCells m)],.tup [],.tup [.ptr 4 0,.agg (penW (fieldsN 5) o2),.ptr 5 0,.agg (mCells m)],.tup [],.tup [.ptr 4 0,.agg (penW (fieldsN 5) o3),.ptr 5 0,.agg (mCells m)],.tup [],.tup [.ptr 4 0,.agg (penW (fieldsN 5) o4),.ptr 5 0,.agg (mCells m)]] (mask 19) 200 19 [.ptr 4 0,.ptr 5 0] (hW (fieldsN 5) o0 m) 6)=some (.tup [],[some (.cells false (penW (fieldsN 5) o4)),some (.cells false (mCells m))],[oB (eR (nX tw (k+3)) 41 [.ptr 4 0,.int .i64 4096,.int .i64 64,.ptr 5 16]) 758 (hW (fieldsN 5) o3 m) (.tup []) (hW (fieldsN 5) o4 m),oB (eR (nX tw (k+3)) 52 [.ptr 4 0,.int .i64 2048,.int .i64 32768,.ptr 5 15]) 718 (hW (fieldsN 5) o2 m) (.tup []) (hW (fieldsN 5) o3 m),oB (eR (nX tw (k+3)) 45 [.ptr 4 0,.int .i64 64,.ptr 5 7,.mth0 46,.fn 47 []]) 478 (hW (fieldsN 5) o1 m) (.tup []) (hW (fieldsN 5) o2 m),oB (eR (nX tw (k+3)) 45 [.ptr 4 0,.int .i64 32,.ptr 5 6,.mth0 46,.fn 47 []]) 398 (hW (fieldsN 5) o0 m) (.tup []) (hW (fieldsN 5) o1 m)]):=by kernel_rfl
theorem dw5 (tw:List UInt8→List UInt8) (k:Nat) (m:Ms) (out:List UInt8) (h1:Nat.ble m.te.length 32768=true) (h2:Nat.ble m.da.length 32768=true) (hf:fitW tw m out (fds (UInt8.toNat 5))):AllW 5 tw k m out:=by
 obtain ⟨q0,q1,q2,q3,_⟩:=hf
 exact ⟨_,_,_,_,cw5 tw k m out (out++wF tw m .B) ((out++wF tw m .B)++wF tw m .V) (((out++wF tw m .B)++wF tw m .V)++wF tw m .D) ((((out++wF tw m .B)++wF tw m .V)++wF tw m .D)++wF tw m .S),(allT_mk (oB_of (WS tw k (fieldsN 5) rfl (((out++wF tw m .B)++wF tw m .V)++wF tw m .D) m q3)) (allT_mk (oB_of (WD tw k (fieldsN 5) rfl ((out++wF tw m .B)++wF tw m .V) m q2 h2)) (allT_mk (oB_of (WV tw k (fieldsN 5) rfl (out++wF tw m .B) m q1)) (allT_mk (oB_of (WB tw k (fieldsN 5) rfl out m q0)) rfl))))⟩
theorem cw6 (tw:List UInt8→List UInt8) (k:Nat) (m:Ms) (o0 o1:List UInt8):ansM [4,5] (run1O Tryd.prog noPS (nX tw (k+4)) [300083] [] [.tup [],.tup [.ptr 4 0,.agg (penW (fieldsN 6) o1),.ptr 5 0,.agg (mCells m)]] (mask 19) 200 19 [.ptr 4 0,.ptr 5 0] (hW (fieldsN 6) o0 m) 6)=some (.tup [],[some (.cells false (penW (fieldsN 6) o1)),some (.cells false (mCells m))],[oB (eR (nX tw (k+3)) 49 [.ptr 4 0,.int .i64 512,.ptr 5 13,.mth0 50,.fn 51 []]) 638 (hW (fieldsN 6) o0 m) (.tup []) (hW (fieldsN 6) o1 m)]):=by kernel_rfl
theorem dw6 (tw:List UInt8→List UInt8) (k:Nat) (m:Ms) (out:List UInt8) (h1:Nat.ble m.te.length 32768=true) (h2:Nat.ble m.da.length 32768=true) (hf:fitW tw m out (fds (UInt8.toNat 6))):AllW 6 tw k m out:=by
 obtain ⟨q0,_⟩:=hf
 exact ⟨_,_,_,_,cw6 tw k m out (out++wF tw m .K),(allT_mk (oB_of (WK tw k (fieldsN 6) rfl out m q0)) rfl)⟩
theorem cw7 (tw:List UInt8→List UInt8) (k:Nat) (m:Ms) (o0 o1:List UInt8):ansM [4,5] (run1O Tryd.prog noPS (nX tw (k+4)) [300068] [] [.tup [],.tup [.ptr 4 0,.agg (penW (fieldsN 7) o1),.ptr 5 0,.agg (mCells m)]] (mask 19) 200 19 [.ptr 4 0,.ptr 5 0] (hW (fieldsN 7) o0 m) 6)=some (.tup [],[some (.cells false (penW (fieldsN 7) o1)),some (.cells false (mCells m))],[oB (eR (nX tw (k+3)) 41 [.ptr 4 0,.int .i64 128,.int .i64 16,.ptr 5 8]) 518 (hW (fieldsN 7) o0 m) (.tup []) (hW (fieldsN 7) o1 m)]):=by kernel_rfl
theorem dw7 (tw:List UInt8→List UInt8) (k:Nat) (m:Ms) (out:List UInt8) (h1:Nat.ble m.te.length 32768=true) (h2:Nat.ble m.da.length 32768=true) (hf:fitW tw m out (fds (UInt8.toNat 7))):AllW 7 tw k m out:=by
 obtain ⟨q0,_⟩:=hf
 exact ⟨_,_,_,_,cw7 tw k m out (out++wF tw m .X),(allT_mk (oB_of (WX tw k (fieldsN 7) rfl out m q0)) rfl)⟩
theorem cw8 (tw:List UInt8→List UInt8) (k:Nat) (m:Ms) (o0 o1 o2:List UInt8):ansM [4,5] (run1O Tryd.prog noPS (nX tw (k+4)) [300068,300073] [] [.tup [],.tup [.ptr 4 0,.agg (penW (fieldsN 8) o1),.ptr 5 0,.agg (mCells m)],.tup [],.tup [.ptr 4 0,.agg (penW (fieldsN 8) o2),.ptr 5 0,.agg (mCells m)]] (mask 19) 200 19 [.ptr 4 0,.ptr 5 0] (hW (fieldsN 8) o0 m) 6)=some (.tup [],[some (.cells false (penW (fieldsN 8) o2)),some (.cells false (mCells m))],[oB (eR (nX tw (k+3)) 48 [.ptr 4 0,.ptr 5 9]) 558 (hW (fieldsN 8) o1 m) (.tup []) (hW (fieldsN 8) o2 m),oB (eR (nX tw (k+3)) 41 [.ptr 4 0,.int .i64 128,.int .i64 16,.ptr 5 8]) 518 (hW (fieldsN 8) o0 m) (.tup []) (hW (fieldsN 8) o1 m)]):=by kernel_rfl
theorem dw8 (tw:List UInt8→List UInt8) (k:Nat) (m:Ms) (out:List UInt8) (h1:Nat.ble m.te.length 32768=true) (h2:Nat.ble m.da.length 32768=true) (hf:fitW tw m out (fds (UInt8.toNat 8))):AllW 8 tw k m out:=by
 obtain ⟨q0,q1,_⟩:=hf
 exact ⟨_,_,_,_,cw8 tw k m out (out++wF tw m .X) ((out++wF tw m .X)++wF tw m .E),(allT_mk (oB_of (WE tw k (fieldsN 8) rfl (out++wF tw m .X) m q1)) (allT_mk (oB_of (WX tw k (fieldsN 8) rfl out m q0)) rfl))⟩
theorem cw9 (tw:List UInt8→List UInt8) (k:Nat) (m:Ms) (o0 o1 o2:List UInt8):ansM [4,5] (run1O Tryd.prog noPS (nX tw (k+4)) [300008,300093] [] [.tup [],.tup [.ptr 4 0,.agg (penW (fieldsN 9) o1),.ptr 5 0,.agg (mCells m)],.tup [],.tup [.ptr 4 0,.agg (penW (fieldsN 9) o2),.ptr 5 0,.agg (mCells m)]] (mask 19) 200 19 [.ptr 4 0,.ptr 5 0] (hW (fieldsN 9) o0 m) 6)=some (.tup [],[some (.cells false (penW (fieldsN 9) o2)),some (.cells false (mCells m))],[oB (eR (nX tw (k+3)) 52 [.ptr 4 0,.int .i64 2048,.int .i64 32768,.ptr 5 15]) 718 (hW (fieldsN 9) o1 m) (.tup []) (hW (fieldsN 9) o2 m),oB (eR (nX tw (k+3)) 41 [.ptr 4 0,.int .i64 1,.int .i64 32,.ptr 5 1]) 38 (hW (fieldsN 9) o0 m) (.tup []) (hW (fieldsN 9) o1 m)]):=by kernel_rfl
theorem dw9 (tw:List UInt8→List UInt8) (k:Nat) (m:Ms) (out:List UInt8) (h1:Nat.ble m.te.length 32768=true) (h2:Nat.ble m.da.length 32768=true) (hf:fitW tw m out (fds (UInt8.toNat 9))):AllW 9 tw k m out:=by
 obtain ⟨q0,q1,_⟩:=hf
 exact ⟨_,_,_,_,cw9 tw k m out (out++wF tw m .F) ((out++wF tw m .F)++wF tw m .D),(allT_mk (oB_of (WD tw k (fieldsN 9) rfl (out++wF tw m .F) m q1 h2)) (allT_mk (oB_of (WF tw k (fieldsN 9) rfl out m q0)) rfl))⟩
theorem cw10 (tw:List UInt8→List UInt8) (k:Nat) (m:Ms) (o0 o1 o2:List UInt8):ansM [4,5] (run1O Tryd.prog noPS (nX tw (k+4)) [300008,300093] [] [.tup [],.tup [.ptr 4 0,.agg (penW (fieldsN 10) o1),.ptr 5 0,.agg (mCells m)],.tup [],.tup [.ptr 4 0,.agg (penW (fieldsN 10) o2),.ptr 5 0,.agg (mCells m)]] (mask 19) 200 19 [.ptr 4 0,.ptr 5 0] (hW (fieldsN 10) o0 m) 6)=some (.tup [],[some (.cells false (penW (fieldsN 10) o2)),some (.cells false (mCells m))],[oB (eR (nX tw (k+3)) 52 [.ptr 4 0,.int .i64 2048,.int .i64 32768,.ptr 5 15]) 718 (hW (fieldsN 10) o1 m) (.tup []) (hW (fieldsN 10) o2 m),oB (eR (nX tw (k+3)) 41 [.ptr 4 0,.int .i64 1,.int .i64 32,.ptr 5 1]) 38 (hW (fieldsN 10) o0 m) (.tup []) (hW (fieldsN 10) o1 m)]):=by kernel_rfl
theorem dw10 (tw:List UInt8→List UInt8) (k:Nat) (m:Ms) (out:List UInt8) (h1:Nat.ble m.te.length 32768=true) (h2:Nat.ble m.da.length 32768=true) (hf:fitW tw m out (fds (UInt8.toNat 10))):AllW 10 tw k m out:=by
 obtain ⟨q0,q1,_⟩:=hf
 exact ⟨_,_,_,_,cw10 tw k m out (out++wF tw m .F) ((out++wF tw m .F)++wF tw m .D),(allT_mk (oB_of (WD tw k (fieldsN 10) rfl (out++wF tw m .F) m q1 h2)) (allT_mk (oB_of (WF tw k (fieldsN 10) rfl out m q0)) rfl))⟩
theorem cw11 (tw:List UInt8→List UInt8) (k:Nat) (m:Ms) (o0 o1:List UInt8):ansM [4,5] (run1O Tryd.prog noPS (nX tw (k+4)) [300008] [] [.tup [],.tup [.ptr 4 0,.agg (penW (fieldsN 11) o1),.ptr 5 0,.agg (mCells m)]] (mask 19) 200 19 [.ptr 4 0,.ptr 5 0] (hW (fieldsN 11) o0 m) 6)=some (.tup [],[some (.cells false (penW (fieldsN 11) o1)),some (.cells false (mCells m))],[oB (eR (nX tw (k+3)) 41 [.ptr 4 0,.int .i64 1,.int .i64 32,.ptr 5 1]) 38 (hW (fieldsN 11) o0 m) (.tup []) (hW (fieldsN 11) o1 m)]):=by kernel_rfl
theorem dw11 (tw:List UInt8→List UInt8) (k:Nat) (m:Ms) (out:List UInt8) (h1:Nat.ble m.te.length 32768=true) (h2:Nat.ble m.da.length 32768=true) (hf:fitW tw m out (fds (UInt8.toNat 11))):AllW 11 tw k m out:=by
 obtain ⟨q0,_⟩:=hf
 exact ⟨_,_,_,_,cw11 tw k m out (out++wF tw m .F),(allT_mk (oB_of (WF tw k (fieldsN 11) rfl out m q0)) rfl)⟩
theorem cw12 (tw:List UInt8→List UInt8) (k:Nat) (m:Ms) (o0 o1 o2:List UInt8):ansM [4,5] (run1O Tryd.prog noPS (nX tw (k+4)) [300008,300068] [] [.tup [],.tup [.ptr 4 0,.agg (penW (fieldsN 12) o1),.ptr 5 0,.agg (mCells m)],.tup [],.tup [.ptr 4 0,.agg (penW (fieldsN 12) o2),.ptr 5 0,.agg (mCells m)]] (mask 19) 200 19 [.ptr 4 0,.ptr 5 0] (hW (fieldsN 12) o0 m) 6)=some (.tup [],[some (.cells false (penW (fieldsN 12) o2)),some (.cells false (mCells m))],[oB (eR (nX tw (k+3)) 41 [.ptr 4 0,.int .i64 128,.int .i64 16,.ptr 5 8]) 518 (hW (fieldsN 12) o1 m) (.tup []) (hW (fieldsN 12) o2 m),oB (eR (nX tw (k+3)) 41 [.ptr 4 0,.int .i64 1,.int .i64 32,.ptr 5 1]) 38 (hW (fieldsN 12) o0 m) (.tup []) (hW (fieldsN 12) o1 m)]):=by kernel_rfl
theorem dw12 (tw:List UInt8→List UInt8) (k:Nat) (m:Ms) (out:List UInt8) (h1:Nat.ble m.te.length 32768=true) (h2:Nat.ble m.da.length 32768=true) (hf:fitW tw m out (fds (UInt8.toNat 12))):AllW 12 tw k m out:=by
 obtain ⟨q0,q1,_⟩:=hf
 exact ⟨_,_,_,_,cw12 tw k m out (out++wF tw m .F) ((out++wF tw m .F)++wF tw m .X),(allT_mk (oB_of (WX tw k (fieldsN 12) rfl (out++wF tw m .F) m q1)) (allT_mk (oB_of (WF tw k (fieldsN 12) rfl out m q0)) rfl))⟩
theorem cw13 (tw:List UInt8→List UInt8) (k:Nat) (m:Ms) (o0 o1:List UInt8):ansM [4,5] (run1O Tryd.prog noPS (nX tw (k+4)) [300093] [] [.tup [],.tup [.ptr 4 0,.agg (penW (fieldsN 13) o1),.ptr 5 0,.agg (mCells m)]] (mask 19) 200 19 [.ptr 4 0,.ptr 5 0] (hW (fieldsN 13) o0 m) 6)=some (.tup [],[some (.cells false (penW (fieldsN 13) o1)),some (.cells false (mCells m))],[oB (eR (nX tw (k+3)) 52 [.ptr 4 0,.int .i64 2048,.int .i64 32768,.ptr 5 15]) 718 (hW (fieldsN 13) o0 m) (.tup []) (hW (fieldsN 13) o1 m)]):=by kernel_rfl
theorem dw13 (tw:List UInt8→List UInt8) (k:Nat) (m:Ms) (out:List UInt8) (h1:Nat.ble m.te.length 32768=true) (h2:Nat.ble m.da.length 32768=true) (hf:fitW tw m out (fds (UInt8.toNat 13))):AllW 13 tw k m out:=by
 obtain ⟨q0,_⟩:=hf
 exact ⟨_,_,_,_,cw13 tw k m out (out++wF tw m .D),(allT_mk (oB_of (WD tw k (fieldsN 13) rfl out m q0 h2)) rfl)⟩
theorem cw14 (tw:List UInt8→List UInt8) (k:Nat) (m:Ms) (o0 o1 o2:List UInt8):ansM [4,5] (run1O Tryd.prog noPS (nX tw (k+4)) [300013,300093] [] [.tup [],.tup [.ptr 4 0,.agg (penW (fieldsN 14) o1),.ptr 5 0,.agg (mCells m)],.tup [],.tup [.ptr 4 0,.agg (penW (fieldsN 14) o2),.ptr 5 0,.agg (mCells m)]] (mask 19) 200 19 [.ptr 4 0,.ptr 5 0] (hW (fieldsN 14) o0 m) 6)=some (.tup [],[some (.cells false (penW (fieldsN 14) o2)),some (.cells false (mCells m))],[oB (eR (nX tw (k+3)) 52 [.ptr 4 0,.int .i64 2048,.int .i64 32768,.ptr 5 15]) 718 (hW (fieldsN 14) o1 m) (.tup []) (hW (fieldsN 14) o2 m),oB (eR (nX tw (k+3)) 41 [.ptr 4 0,.int .i64 2,.int .i64 32,.ptr 5 2]) 78 (hW (fieldsN 14) o0 m) (.tup []) (hW (fieldsN 14) o1 m)]):=by kernel_rfl
theorem dw14 (tw:List UInt8→List UInt8) (k:Nat) (m:Ms) (out:List UInt8) (h1:Nat.ble m.te.length 32768=true) (h2:Nat.ble m.da.length 32768=true) (hf:fitW tw m out (fds (UInt8.toNat 14))):AllW 14 tw k m out:=by
 obtain ⟨q0,q1,_⟩:=hf
 exact ⟨_,_,_,_,cw14 tw k m out (out++wF tw m .T) ((out++wF tw m .T)++wF tw m .D),(allT_mk (oB_of (WD tw k (fieldsN 14) rfl (out++wF tw m .T) m q1 h2)) (allT_mk (oB_of (WT tw k (fieldsN 14) rfl out m q0)) rfl))⟩
theorem cw15 (tw:List UInt8→List UInt8) (k:Nat) (m:Ms) (o0 o1 o2:List UInt8):ansM [4,5] (run1O Tryd.prog noPS (nX tw (k+4)) [300008,300093] [] [.tup [],.tup [.ptr 4 0,.agg (penW (fieldsN 15) o1),.ptr 5 0,.agg (mCells m)],.tup [],.tup [.ptr 4 0,.agg (penW (fieldsN 15) o2),.ptr 5 0,.agg (mCells m)]] (mask 19) 200 19 [.ptr 4 0,.ptr 5 0] (hW (fieldsN 15) o0 m) 6)=some (.tup [],[some (.cells false (penW (fieldsN 15) o2)),some (.cells false (mCells m))],[oB (eR (nX tw (k+3)) 52 [.ptr 4 0,.int .i64 2048,.int .i64 32768,.ptr 5 15]) 718 (hW (fieldsN 15) o1 m) (.tup []) (hW (fieldsN 15) o2 m),oB (eR (nX tw (k+3)) 41 [.ptr 4 0,.int .i64 1,.int .i64 32,.ptr 5 1]) 38 (hW (fieldsN 15) o0 m) (.tup []) (hW (fieldsN 15) o1 m)]):=by kernel_rfl
theorem dw15 (tw:List UInt8→List UInt8) (k:Nat) (m:Ms) (out:List UInt8) (h1:Nat.ble m.te.length 32768=true) (h2:Nat.ble m.da.length 32768=true) (hf:fitW tw m out (fds (UInt8.toNat 15))):AllW 15 tw k m out:=by
 obtain ⟨q0,q1,_⟩:=hf
 exact ⟨_,_,_,_,cw15 tw k m out (out++wF tw m .F) ((out++wF tw m .F)++wF tw m .D),(allT_mk (oB_of (WD tw k (fieldsN 15) rfl (out++wF tw m .F) m q1 h2)) (allT_mk (oB_of (WF tw k (fieldsN 15) rfl out m q0)) rfl))⟩
theorem cw16 (tw:List UInt8→List UInt8) (k:Nat) (m:Ms) (o0 o1:List UInt8):ansM [4,5] (run1O Tryd.prog noPS (nX tw (k+4)) [300013] [] [.tup [],.tup [.ptr 4 0,.agg (penW (fieldsN 16) o1),.ptr 5 0,.agg (mCells m)]] (mask 19) 200 19 [.ptr 4 0,.ptr 5 0] (hW (fieldsN 16) o0 m) 6)=some (.tup [],[some (.cells false (penW (fieldsN 16) o1)),some (.cells false (mCells m))],[oB (eR (nX tw (k+3)) 41 [.ptr 4 0,.int .i64 2,.int .i64 32,.ptr 5 2]) 78 (hW (fieldsN 16) o0 m) (.tup []) (hW (fieldsN 16) o1 m)]):=by kernel_rfl
theorem dw16 (tw:List UInt8→List UInt8) (k:Nat) (m:Ms) (out:List UInt8) (h1:Nat.ble m.te.length 32768=true) (h2:Nat.ble m.da.length 32768=true) (hf:fitW tw m out (fds (UInt8.toNat 16))):AllW 16 tw k m out:=by
 obtain ⟨q0,_⟩:=hf
 exact ⟨_,_,_,_,cw16 tw k m out (out++wF tw m .T),(allT_mk (oB_of (WT tw k (fieldsN 16) rfl out m q0)) rfl)⟩
theorem cw17 (tw:List UInt8→List UInt8) (k:Nat) (m:Ms) (o0 o1 o2:List UInt8):ansM [4,5] (run1O Tryd.prog noPS (nX tw (k+4)) [300023,300093] [] [.tup [],.tup [.ptr 4 0,.agg (penW (fieldsN 17) o1),.ptr 5 0,.agg (mCells m)],.tup [],.tup [.ptr 4 0,.agg (penW (fieldsN 17) o2),.ptr 5 0,.agg (mCells m)]] (mask 19) 200 19 [.ptr 4 0,.ptr 5 0] (hW (fieldsN 17) o0 m) 6)=some (.tup [],[some (.cells false (penW (fieldsN 17) o2)),some (.cells false (mCells m))],[oB (eR (nX tw (k+3)) 52 [.ptr 4 0,.int .i64 2048,.int .i64 32768,.ptr 5 15]) 718 (hW (fieldsN 17) o1 m) (.tup []) (hW (fieldsN 17) o2 m),oB (eR (nX tw (k+3)) 42 [.ptr 4 0,.int .i64 4,.ptr 5 3,.mth0 43,.fn 44 []]) 158 (hW (fieldsN 17) o0 m) (.tup []) (hW (fieldsN 17) o1 m)]):=by kernel_rfl
theorem dw17 (tw:List UInt8→List UInt8) (k:Nat) (m:Ms) (out:List UInt8) (h1:Nat.ble m.te.length 32768=true) (h2:Nat.ble m.da.length 32768=true) (hf:fitW tw m out (fds (UInt8.toNat 17))):AllW 17 tw k m out:=by
 obtain ⟨q0,q1,_⟩:=hf
 exact ⟨_,_,_,_,cw17 tw k m out (out++wF tw m .I) ((out++wF tw m .I)++wF tw m .D),(allT_mk (oB_of (WD tw k (fieldsN 17) rfl (out++wF tw m .I) m q1 h2)) (allT_mk (oB_of (WI tw k (fieldsN 17) rfl out m q0)) rfl))⟩
theorem cw18 (tw:List UInt8→List UInt8) (k:Nat) (m:Ms) (o0 o1 o2 o3:List UInt8):ansM [4,5] (run1O Tryd.prog noPS (nX tw (k+4)) [300023,300033,300093] [] [.tup [],.tup [.ptr 4 0,.agg (penW (fieldsN 18) o1),.ptr 5 0,.agg (mCells m)],.tup [],.tup [.ptr 4 0,.agg (penW (fieldsN 18) o2),.ptr 5 0,.agg (mCells m)],.tup [],.tup [.ptr 4 0,.agg (penW (fieldsN 18) o3),.ptr 5 0,.agg (mCells m)]] (mask 19) 200 19 [.ptr 4 0,.ptr 5 0] (hW (fieldsN 18) o0 m) 6)=some (.tup [],[some (.cells false (penW (fieldsN 18) o3)),some (.cells false (mCells m))],[oB (eR (nX tw (k+3)) 52 [.ptr 4 0,.int .i64 2048,.int .i64 32768,.ptr 5 15]) 718 (hW (fieldsN 18) o2 m) (.tup []) (hW (fieldsN 18) o3 m),oB (eR (nX tw (k+3)) 42 [.ptr 4 0,.int .i64 8,.ptr 5 4,.mth0 43,.fn 44 []]) 238 (hW (fieldsN 18) o1 m) (.tup []) (hW (fieldsN 18) o2 m),oB (eR (nX tw (k+3)) 42 [.ptr 4 0,.int .i64 4,.ptr 5 3,.mth0 43,.fn 44 []]) 158 (hW (fieldsN 18) o0 m) (.tup []) (hW (fieldsN 18) o1 m)]):=by kernel_rfl
theorem dw18 (tw:List UInt8→List UInt8) (k:Nat) (m:Ms) (out:List UInt8) (h1:Nat.ble m.te.length 32768=true) (h2:Nat.ble m.da.length 32768=true) (hf:fitW tw m out (fds (UInt8.toNat 18))):AllW 18 tw k m out:=by
 obtain ⟨q0,q1,q2,_⟩:=hf
 exact ⟨_,_,_,_,cw18 tw k m out (out++wF tw m .I) ((out++wF tw m .I)++wF tw m .P) (((out++wF tw m .I)++wF tw m .P)++wF tw m .D),(allT_mk (oB_of (WD tw k (fieldsN 18) rfl ((out++wF tw m .I)++wF tw m .P) m q2 h2)) (allT_mk (oB_of (WP tw k (fieldsN 18) rfl (out++wF tw m .I) m q1)) (allT_mk (oB_of (WI tw k (fieldsN 18) rfl out m q0)) rfl)))⟩
theorem cw19 (tw:List UInt8→List UInt8) (k:Nat) (m:Ms) (o0 o1 o2 o3:List UInt8):ansM [4,5] (run1O Tryd.prog noPS (nX tw (k+4)) [300033,300043,300093] [] [.tup [],.tup [.ptr 4 0,.agg (penW (fieldsN 19) o1),.ptr 5 0,.agg (mCells m)],.tup [],.tup [.ptr 4 0,.agg (penW (fieldsN 19) o2),.ptr 5 0,.agg (mCells m)],.tup [],.tup [.ptr 4 0,.agg (penW (fieldsN 19) o3),.ptr 5 0,.agg (mCells m)]] (mask 19) 200 19 [.ptr 4 0,.ptr 5 0] (hW (fieldsN 19) o0 m) 6)=some (.tup [],[some (.cells false (penW (fieldsN 19) o3)),some (.cells false (mCells m))],[oB (eR (nX tw (k+3)) 52 [.ptr 4 0,.int .i64 2048,.int .i64 32768,.ptr 5 15]) 718 (hW (fieldsN 19) o2 m) (.tup []) (hW (fieldsN 19) o3 m),oB (eR (nX tw (k+3)) 45 [.ptr 4 0,.int .i64 16,.ptr 5 5,.mth0 46,.fn 47 []]) 318 (hW (fieldsN 19) o1 m) (.tup []) (hW (fieldsN 19) o2 m),oB (eR (nX tw (k+3)) 42 [.ptr 4 0,.int .i64 8,.ptr 5 4,.mth0 43,.fn 44 []]) 238 (hW (fieldsN 19) o0 m) (.tup []) (hW (fieldsN 19) o1 m)]):=by kernel_rfl
theorem dw19 (tw:List UInt8→List UInt8) (k:Nat) (m:Ms) (out:List UInt8) (h1:Nat.ble m.te.length 32768=true) (h2:Nat.ble m.da.length 32768=true) (hf:fitW tw m out (fds (UInt8.toNat 19))):AllW 19 tw k m out:=by
 obtain ⟨q0,q1,q2,_⟩:=hf
 exact ⟨_,_,_,_,cw19 tw k m out (out++wF tw m .P) ((out++wF tw m .P)++wF tw m .C) (((out++wF tw m .P)++wF tw m .C)++wF tw m .D),(allT_mk (oB_of (WD tw k (fieldsN 19) rfl ((out++wF tw m .P)++wF tw m .C) m q2 h2)) (allT_mk (oB_of (WC tw k (fieldsN 19) rfl (out++wF tw m .P) m q1)) (allT_mk (oB_of (WP tw k (fieldsN 19) rfl out m q0)) rfl)))⟩
theorem cw20 (tw:List UInt8→List UInt8) (k:Nat) (m:Ms) (o0 o1 o2:List UInt8):ansM [4,5] (run1O Tryd.prog noPS (nX tw (k+4)) [300008,300068] [] [.tup [],.tup [.ptr 4 0,.agg (penW (fieldsN 20) o1),.ptr 5 0,.agg (mCells m)],.tup [],.tup [.ptr 4 0,.agg (penW (fieldsN 20) o2),.ptr 5 0,.agg (mCells m)]] (mask 19) 200 19 [.ptr 4 0,.ptr 5 0] (hW (fieldsN 20) o0 m) 6)=some (.tup [],[some (.cells false (penW (fieldsN 20) o2)),some (.cells false (mCells m))],[oB (eR (nX tw (k+3)) 41 [.ptr 4 0,.int .i64 128,.int .i64 16,.ptr 5 8]) 518 (hW (fieldsN 20) o1 m) (.tup []) (hW (fieldsN 20) o2 m),oB (eR (nX tw (k+3)) 41 [.ptr 4 0,.int .i64 1,.int .i64 32,.ptr 5 1]) 38 (hW (fieldsN 20) o0 m) (.tup []) (hW (fieldsN 20) o1 m)]):=by kernel_rfl
theorem dw20 (tw:List UInt8→List UInt8) (k:Nat) (m:Ms) (out:List UInt8) (h1:Nat.ble m.te.length 32768=true) (h2:Nat.ble m.da.length 32768=true) (hf:fitW tw m out (fds (UInt8.toNat 20))):AllW 20 tw k m out:=by
 obtain ⟨q0,q1,_⟩:=hf
 exact ⟨_,_,_,_,cw20 tw k m out (out++wF tw m .F) ((out++wF tw m .F)++wF tw m .X),(allT_mk (oB_of (WX tw k (fieldsN 20) rfl (out++wF tw m .F) m q1)) (allT_mk (oB_of (WF tw k (fieldsN 20) rfl out m q0)) rfl))⟩
theorem cw21 (tw:List UInt8→List UInt8) (k:Nat) (m:Ms) (o0 o1 o2:List UInt8):ansM [4,5] (run1O Tryd.prog noPS (nX tw (k+4)) [300068,300073] [] [.tup [],.tup [.ptr 4 0,.agg (penW (fieldsN 21) o1),.ptr 5 0,.agg (mCells m)],.tup [],.tup [.ptr 4 0,.agg (penW (fieldsN 21) o2),.ptr 5 0,.agg (mCells m)]] (mask 19) 200 19 [.ptr 4 0,.ptr 5 0] (hW (fieldsN 21) o0 m) 6)=some (.tup [],[some (.cells false (penW (fieldsN 21) o2)),some (.cells false (mCells m))],[oB (eR (nX tw (k+3)) 48 [.ptr 4 0,.ptr 5 9]) 558 (hW (fieldsN 21) o1 m) (.tup []) (hW (fieldsN 21) o2 m),oB (eR (nX tw (k+3)) 41 [.ptr 4 0,.int .i64 128,.int .i64 16,.ptr 5 8]) 518 (hW (fieldsN 21) o0 m) (.tup []) (hW (fieldsN 21) o1 m)]):=by kernel_rfl
theorem dw21 (tw:List UInt8→List UInt8) (k:Nat) (m:Ms) (out:List UInt8) (h1:Nat.ble m.te.length 32768=true) (h2:Nat.ble m.da.length 32768=true) (hf:fitW tw m out (fds (UInt8.toNat 21))):AllW 21 tw k m out:=by
 obtain ⟨q0,q1,_⟩:=hf
 exact ⟨_,_,_,_,cw21 tw k m out (out++wF tw m .X) ((out++wF tw m .X)++wF tw m .E),(allT_mk (oB_of (WE tw k (fieldsN 21) rfl (out++wF tw m .X) m q1)) (allT_mk (oB_of (WX tw k (fieldsN 21) rfl out m q0)) rfl))⟩
theorem all_write (t:UInt8) (tw:List UInt8→List UInt8) (k:Nat) (m:Ms) (out:List UInt8) (hne:(fds t.toNat).isEmpty=false) (h1:Nat.ble m.te.length 32768=true) (h2:Nat.ble m.da.length 32768=true) (hf:fitW tw m out (fds t.toNat)):AllW t tw k m out:=by
 have h:∀ n,(fds n).isEmpty=false→n < 256→fitW tw m out (fds (UInt8.ofNat n).toNat)→AllW (UInt8.ofNat n) tw k m out:=fun n hn _ hf=>by
  unfold fds at hn
  split at hn
  ·exact dw1 tw k m out h1 h2 hf
  ·exact dw2 tw k m out h1 h2 hf
  ·exact dw3 tw k m out h1 h2 hf
  ·exact dw4 tw k m out h1 h2 hf
  ·exact dw5 tw k m out h1 h2 hf
  ·exact dw6 tw k m out h1 h2 hf
  ·exact dw7 tw k m out h1 h2 hf
  ·exact dw8 tw k m out h1 h2 hf
  ·exact dw9 tw k m out h1 h2 hf
  ·exact dw10 tw k m out h1 h2 hf
  ·exact dw11 tw k m out h1 h2 hf
  ·exact dw12 tw k m out h1 h2 hf
  ·exact dw13 tw k m out h1 h2 hf
  ·exact dw14 tw k m out h1 h2 hf
  ·exact dw15 tw k m out h1 h2 hf
  ·exact dw16 tw k m out h1 h2 hf
  ·exact dw17 tw k m out h1 h2 hf
  ·exact dw18 tw k m out h1 h2 hf
  ·exact dw19 tw k m out h1 h2 hf
  ·exact dw20 tw k m out h1 h2 hf
  ·exact dw21 tw k m out h1 h2 hf
  ·cases hn
 have:=h t.toNat hne t.toNat_lt
 rw [UInt8.ofNat_toNat] at this
 exact this hf
end Go.Proofs.YthlemfnkmpikjaaDoor
namespace Go.Proofs.YthlemfnkmpikjaaDoor
open Go Go.Eng Go.Num Go.Msg
def sh8 (x:UInt64):UInt64:=shr_u64 x 8
theorem run53_2 (x:UInt64):(run1 Tryd.prog nI (mask 53) 200 53 [.u64 x,.int .i64 2] [] Tryd.prog.globals.size).map (·.1)=some (.str [(sh8 x).toUInt8,x.toUInt8]):=by kernel_rfl
theorem run53_4 (x:UInt64):(run1 Tryd.prog nI (mask 53) 200 53 [.u64 x,.int .i64 4] [] Tryd.prog.globals.size).map (·.1)=some (.str [(sh8 (sh8 (sh8 x))).toUInt8,(sh8 (sh8 x)).toUInt8,(sh8 x).toUInt8,x.toUInt8]):=by kernel_rfl
theorem run53_8 (x:UInt64):(run1 Tryd.prog nI (mask 53) 200 53 [.u64 x,.int .i64 8] [] Tryd.prog.globals.size).map (·.1)=some (.str [(sh8 (sh8 (sh8 (sh8 (sh8 (sh8 (sh8 x))))))).toUInt8,(sh8 (sh8 (sh8 (sh8 (sh8 (sh8 x)))))).toUInt8,(sh8 (sh8 (sh8 (sh8 (sh8 x))))).toUInt8,(sh8 (sh8 (sh8 (sh8 x)))).toUInt8,(sh8 (sh8 (sh8 x))).toUInt8,(sh8 (sh8 x)).toUInt8,(sh8 x).toUInt8,x.toUInt8]):=by kernel_rfl
theorem sh8_val (x:UInt64):(sh8 x).toNat=x.toNat / 256:=shr_nat x 8 (by omega)
theorem u8_eq {x y:UInt64}{k:Nat}(hk:k < 64) (h:y.toNat=x.toNat / 2 ^ k):y.toUInt8=by8 x k:=UInt8.toNat_inj.1 (by rw [by8_val x k hk,UInt64.toNat_toUInt8,h])
theorem num2 (x:UInt64):[(sh8 x).toUInt8,x.toUInt8]=[by8 x 8,by8 x 0]:=by
 rw [u8_eq (x:=x) (k:=8) (by omega) (sh8_val x),u8_eq (x:=x) (y:=x) (k:=0) (by omega) (by omega)]
theorem num4 (x:UInt64):[(sh8 (sh8 (sh8 x))).toUInt8,(sh8 (sh8 x)).toUInt8,(sh8 x).toUInt8,x.toUInt8]=[by8 x 24,by8 x 16,by8 x 8,by8 x 0]:=by
 rw [u8_eq (x:=x) (y:=sh8 (sh8 (sh8 x))) (k:=24) (by omega) (by rw [sh8_val,sh8_val,sh8_val]; omega),u8_eq (x:=x) (y:=sh8 (sh8 x)) (k:=16) (by omega) (by rw [sh8_val,sh8_val]; omega),u8_eq (x:=x) (k:=8) (by omega) (sh8_val x),u8_eq (x:=x) (y:=x) (k:=0) (by omega) (by omega)]
theorem num8 (x:UInt64):[(sh8 (sh8 (sh8 (sh8 (sh8 (sh8 (sh8 x))))))).toUInt8,(sh8 (sh8 (sh8 (sh8 (sh8 (sh8 x)))))).toUInt8,(sh8 (sh8 (sh8 (sh8 (sh8 x))))).toUInt8,(sh8 (sh8 (sh8 (sh8 x)))).toUInt8,(sh8 (sh8 (sh8 x))).toUInt8,(sh8 (sh8 x)).toUInt8,(sh8 x).toUInt8,x.toUInt8]=be8 x:=by
 unfold be8
 rw [u8_eq (x:=x) (y:=sh8 (sh8 (sh8 (sh8 (sh8 (sh8 (sh8 x))))))) (k:=56) (by omega) (by simp only [sh8_val]; omega),u8_eq (x:=x) (y:=sh8 (sh8 (sh8 (sh8 (sh8 (sh8 x)))))) (k:=48) (by omega) (by simp only [sh8_val]; omega),u8_eq (x:=x) (y:=sh8 (sh8 (sh8 (sh8 (sh8 x))))) (k:=40) (by omega) (by simp only [sh8_val]; omega),
  u8_eq (x:=x) (y:=sh8 (sh8 (sh8 (sh8 x)))) (k:=32) (by omega) (by simp only [sh8_val]; omega),u8_eq (x:=x) (y:=sh8 (sh8 (sh8 x))) (k:=24) (by omega) (by simp only [sh8_val]; omega),u8_eq (x:=x) (y:=sh8 (sh8 x)) (k:=16) (by omega) (by simp only [sh8_val]; omega),u8_eq (x:=x) (k:=8) (by omega) (sh8_val x),u8_eq (x:=x) (y:=x) (k:=0) (by omega) (by omega)]
def numB (x:UInt64) (k:Int):List UInt8:=cond (decide (k=2)) [by8 x 8,by8 x 0] (cond (decide (k=4)) [by8 x 24,by8 x 16,by8 x 8,by8 x 0] (be8 x))
def k53 (nb:UInt64→Int→List UInt8):List AVal→Option EffA
 | [.u64 x,.int .i64 k]=>cond (decide (k=2) || (decide (k=4) || decide (k=8))) (some (.pure (.str (nb x k)))) none
 | _=>none
theorem k53_ok:CSOk Tryd.prog (csOne 53 (k53 numB)):=csOne_ok fun args e he=>by
 unfold k53 at he
 split at he
 ·rename_i x k
  by_cases h2:k=2
  ·subst h2
   cases he
   have:=run53_2 x
   rw [num2] at this
   exact callOk_val nI_ok hmix this rfl rfl
  ·by_cases h4:k=4
   ·subst h4
    cases he
    have:=run53_4 x
    rw [num4] at this
    exact callOk_val nI_ok hmix this rfl rfl
   ·by_cases h8:k=8
    ·subst h8
     cases he
     have:=run53_8 x
     rw [num8] at this
     exact callOk_val nI_ok hmix this rfl rfl
    ·rw [decide_eq_false h2,decide_eq_false h4,decide_eq_false h8] at he
     cases he
 ·cases he
end Go.Proofs.YthlemfnkmpikjaaDoor
namespace Go.Proofs.YthlemfnkmpikjaaDoor
open Go Go.Eng Go.Num Go.Msg
noncomputable def nF:CS:=inlW Tryd.prog mask 200 (csOne 53 (k53 numB)) 4
theorem nF_ok:CSOk Tryd.prog nF:=inlW_ok hmix k53_ok 4
def txB (s:List UInt8):List UInt8:=be2 ((s.length:Nat):Int)++s
theorem r55 (s:List UInt8):ansO (run1O Tryd.prog noPS nF [6,12] [false] [] (mask 55) 200 55 [.str s] [] Tryd.prog.globals.size)=some (.tup [.str (txB s),.int .i64 0],[Nat.ble ((be2 ((s.length:Nat):Int)).length+s.length) 9223372036854775807,!(decide ((32768:Int) < ((s.length:Nat):Int)))]):=by kernel_rfl
theorem p55_ok:CSOk Tryd.prog (csP (psOne 55 (p72 txB))):=psOne_ok fun args e he=>by
 unfold p72 at he
 split at he
 ·rename_i s
  simp only [Option.some.injEq,Prod.mk.injEq] at he
  obtain ⟨rfl,hl⟩:=he
  have h:=Nat.le_of_ble_eq_true hl
  refine callOk_val nF_ok hmix (ansO_run (noPS_ok _) (r55 s) (allT_mk (Nat.ble_eq_true_of_le ?_) (allT_mk ?_ rfl))) rfl rfl
  ·show 2+s.length≤_
   omega
  ·rw [decide_eq_false (by omega)]
   rfl
 ·cases he
def ps55 (tw:List UInt8→List UInt8):PS:=psOne 55 (p72 tw)
noncomputable def nG (tw:List UInt8→List UInt8):CS:=csAlt (csP (ps55 tw)) nF
theorem nG_ps (tw:List UInt8→List UInt8):PSOk (ps55 tw) (nG tw):=csP_ok
theorem nG_ok:CSOk Tryd.prog (nG txB):=csAlt_ok p55_ok nF_ok
theorem b21F (tw:List UInt8→List UInt8) (m:Ms):ansO (run1O Tryd.prog (ps55 tw) (nG tw) [79,88] [] [] (mask 21) 200 21 [mA m,.u8 70] [] Tryd.prog.globals.size)=some (.str (m.fr),[]):=by kernel_rfl
theorem b21T (tw:List UInt8→List UInt8) (m:Ms):ansO (run1O Tryd.prog (ps55 tw) (nG tw) [79,88] [] [] (mask 21) 200 21 [mA m,.u8 84] [] Tryd.prog.globals.size)=some (.str (m.tt),[]):=by kernel_rfl
theorem b21I (tw:List UInt8→List UInt8) (m:Ms):ansO (run1O Tryd.prog (ps55 tw) (nG tw) [79,88] [] [] (mask 21) 200 21 [mA m,.u8 73] [] Tryd.prog.globals.size)=some (.str (be4 m.ix),[]):=by kernel_rfl
theorem b21P (tw:List UInt8→List UInt8) (m:Ms):ansO (run1O Tryd.prog (ps55 tw) (nG tw) [79,88] [] [] (mask 21) 200 21 [mA m,.u8 80] [] Tryd.prog.globals.size)=some (.str (be4 m.pe),[]):=by kernel_rfl
theorem b21C (tw:List UInt8→List UInt8) (m:Ms):ansO (run1O Tryd.prog (ps55 tw) (nG tw) [79,88] [] [] (mask 21) 200 21 [mA m,.u8 67] [] Tryd.prog.globals.size)=some (.str (be8 m.co),[]):=by kernel_rfl
theorem b21B (tw:List UInt8→List UInt8) (m:Ms):ansO (run1O Tryd.prog (ps55 tw) (nG tw) [79,88] [] [] (mask 21) 200 21 [mA m,.u8 66] [] Tryd.prog.globals.size)=some (.str (be8 m.ba),[]):=by kernel_rfl
theorem b21V (tw:List UInt8→List UInt8) (m:Ms):ansO (run1O Tryd.prog (ps55 tw) (nG tw) [79,88] [] [] (mask 21) 200 21 [mA m,.u8 86] [] Tryd.prog.globals.size)=some (.str (be8 m.ve),[]):=by kernel_rfl
theorem b21X (tw:List UInt8→List UInt8) (m:Ms):ansO (run1O Tryd.prog (ps55 tw) (nG tw) [79,88] [] [] (mask 21) 200 21 [mA m,.u8 88] [] Tryd.prog.globals.size)=some (.str (m.tx),[]):=by kernel_rfl
theorem b21K (tw:List UInt8→List UInt8) (m:Ms):ansO (run1O Tryd.prog (ps55 tw) (nG tw) [79,88] [] [] (mask 21) 200 21 [mA m,.u8 75] [] Tryd.prog.globals.size)=some (.str (be2 m.cd),[]):=by kernel_rfl
theorem b21N (tw:List UInt8→List UInt8) (m:Ms):ansO (run1O Tryd.prog (ps55 tw) (nG tw) [79,88] [] [] (mask 21) 200 21 [mA m,.u8 78] [] Tryd.prog.globals.size)=some (.str (tw m.te),[Nat.ble m.te.length 32768]):=by kernel_rfl
theorem b21D (tw:List UInt8→List UInt8) (m:Ms):ansO (run1O Tryd.prog (ps55 tw) (nG tw) [79,88] [] [] (mask 21) 200 21 [mA m,.u8 68] [] Tryd.prog.globals.size)=some (.str (tw m.da),[Nat.ble m.da.length 32768]):=by kernel_rfl
theorem b21S (tw:List UInt8→List UInt8) (m:Ms):ansO (run1O Tryd.prog (ps55 tw) (nG tw) [79,88] [] [] (mask 21) 200 21 [mA m,.u8 83] [] Tryd.prog.globals.size)=some (.str (m.sg),[]):=by kernel_rfl
theorem b21Etrue (tw:List UInt8→List UInt8) (ty:UInt8) (fr tt:List UInt8) (ix pe:UInt32) (co ba ve:UInt64) (tx:List UInt8) (hi lo:UInt64) (po cd:Int) (te da sg:List UInt8):ansO (run1O Tryd.prog (ps55 tw) (nG tw) [79,88] [] [] (mask 21) 200 21 [mA ⟨ty,fr,tt,ix,pe,co,ba,ve,tx,true,hi,lo,po,cd,te,da,sg⟩,.u8 69] [] Tryd.prog.globals.size)=some (.str (([6]++(be8 hi++be8 lo))++be2 po),[]):=by kernel_rfl
theorem b21Efalse (tw:List UInt8→List UInt8) (ty:UInt8) (fr tt:List UInt8) (ix pe:UInt32) (co ba ve:UInt64) (tx:List UInt8) (hi lo:UInt64) (po cd:Int) (te da sg:List UInt8):ansO (run1O Tryd.prog (ps55 tw) (nG tw) [79,88] [] [] (mask 21) 200 21 [mA ⟨ty,fr,tt,ix,pe,co,ba,ve,tx,false,hi,lo,po,cd,te,da,sg⟩,.u8 69] [] Tryd.prog.globals.size)=some (.str (([4]++[by8 lo 24,by8 lo 16,by8 lo 8,by8 lo 0])++be2 po),[]):=by kernel_rfl
end Go.Proofs.YthlemfnkmpikjaaDoor
namespace Go.Proofs.YthlemfnkmpikjaaDoor
open Go Go.Eng Go.Num Go.Msg
def letters:List UInt8:=[70,84,73,80,67,66,86,88,69,75,78,68,83]
def isLet (c:UInt8):Bool:=letters.any fun x=>x == c
def fdOf (c:UInt8):Msg.Fd:=match c.toNat with
 | 70=>.F
 | 84=>.T
 | 73=>.I
 | 80=>.P
 | 67=>.C
 | 66=>.B
 | 86=>.V
 | 88=>.X
 | 69=>.E
 | 75=>.K
 | 78=>.N
 | 68=>.D
 | _=>.S
def dB (m:Ms) (c:UInt8):List UInt8:=encF cdR m (fdOf c)
def p21 (eb:Ms→UInt8→List UInt8):List AVal→Option (EffA × Bool)
 | [.agg [.u8 ty,.str fr,.str tt,.u32 ix,.u32 pe,.u64 co,.u64 ba,.u64 ve,.str tx,.bool v6,.u64 hi,.u64 lo,.int .u16 po,.int .u16 cd,.str te,.str da,.str sg],.u8 c]=>some (.pure (.str (eb ⟨ty,fr,tt,ix,pe,co,ba,ve,tx,v6,hi,lo,po,cd,te,da,sg⟩ c)),isLet c && (Nat.ble te.length 32768 && Nat.ble da.length 32768))
 | _=>none
theorem by8_lo (lo:UInt64){k:Nat}(hk:k≤24):by8 lo.toUInt32.toUInt64 k=by8 lo k:=by
 apply UInt8.toNat_inj.1
 rw [by8_val _ k (by omega),by8_val _ k (by omega),UInt32.toNat_toUInt64,UInt64.toNat_toUInt32]
 have:k=0 ∨ k=8 ∨ k=16 ∨ k=24 ∨ (k ≠ 0∧k ≠ 8∧k ≠ 16∧k ≠ 24):=by omega
 have e:2 ^ 32=2 ^ k * 2 ^ (32 - k):=by rw [← Nat.pow_add]; congr 1; omega
 have e2:(256:Nat) ∣ 2 ^ (32 - k):=by
  rw [show (256:Nat)=2 ^ 8 from rfl]
  exact Nat.pow_dvd_pow 2 (by omega)
 rw [e,Nat.mod_mul_right_div_self,Nat.mod_mod_of_dvd _ e2]
theorem be4_lo (lo:UInt64):be4 lo.toUInt32=[by8 lo 24,by8 lo 16,by8 lo 8,by8 lo 0]:=by
 unfold be4
 rw [by8_lo lo (k:=24) (by omega),by8_lo lo (k:=16) (by omega),by8_lo lo (k:=8) (by omega),by8_lo lo (k:=0) (by omega)]
theorem p21_ok:CSOk Tryd.prog (csP (psOne 21 (p21 dB))):=psOne_ok fun args e he=>by
 unfold p21 at he
 split at he
 ·rename_i ty fr tt ix pe co ba ve tx0 v6 hi lo po cd te da sg c
  simp only [Option.some.injEq,Prod.mk.injEq,Bool.and_eq_true] at he
  obtain ⟨rfl,hl,h1,h2⟩:=he
  have hc:c=70 ∨ c=84 ∨ c=73 ∨ c=80 ∨ c=67 ∨ c=66 ∨ c=86 ∨ c=88 ∨ c=69 ∨ c=75 ∨ c=78 ∨ c=68 ∨ c=83:=by
   unfold isLet at hl
   obtain ⟨x,hx,e⟩:=List.any_eq_true.1 hl
   have:=eq_of_beq e
   subst this
   simpa [letters] using hx
  rcases hc with rfl | rfl | rfl | rfl | rfl | rfl | rfl | rfl | rfl | rfl | rfl | rfl | rfl
  ·exact callOk_val nG_ok hmix (ansO_run (nG_ps _) (b21F txB ⟨ty,fr,tt,ix,pe,co,ba,ve,tx0,v6,hi,lo,po,cd,te,da,sg⟩) rfl) rfl rfl
  ·exact callOk_val nG_ok hmix (ansO_run (nG_ps _) (b21T txB ⟨ty,fr,tt,ix,pe,co,ba,ve,tx0,v6,hi,lo,po,cd,te,da,sg⟩) rfl) rfl rfl
  ·exact callOk_val nG_ok hmix (ansO_run (nG_ps _) (b21I txB ⟨ty,fr,tt,ix,pe,co,ba,ve,tx0,v6,hi,lo,po,cd,te,da,sg⟩) rfl) rfl rfl
  ·exact callOk_val nG_ok hmix (ansO_run (nG_ps _) (b21P txB ⟨ty,fr,tt,ix,pe,co,ba,ve,tx0,v6,hi,lo,po,cd,te,da,sg⟩) rfl) rfl rfl
  ·exact callOk_val nG_ok hmix (ansO_run (nG_ps _) (b21C txB ⟨ty,fr,tt,ix,pe,co,ba,ve,tx0,v6,hi,lo,po,cd,te,da,sg⟩) rfl) rfl rfl
  ·exact callOk_val nG_ok hmix (ansO_run (nG_ps _) (b21B txB ⟨ty,fr,tt,ix,pe,co,ba,ve,tx0,v6,hi,lo,po,cd,te,da,sg⟩) rfl) rfl rfl
  ·exact callOk_val nG_ok hmix (ansO_run (nG_ps _) (b21V txB ⟨ty,fr,tt,ix,pe,co,ba,ve,tx0,v6,hi,lo,po,cd,te,da,sg⟩) rfl) rfl rfl
  ·exact callOk_val nG_ok hmix (ansO_run (nG_ps _) (b21X txB ⟨ty,fr,tt,ix,pe,co,ba,ve,tx0,v6,hi,lo,po,cd,te,da,sg⟩) rfl) rfl rfl
  ·cases v6 with
   | true =>
    have e:dB ⟨ty,fr,tt,ix,pe,co,ba,ve,tx0,true,hi,lo,po,cd,te,da,sg⟩ 69=(([6]++(be8 hi++be8 lo))++be2 po):=rfl
    rw [e]
    exact callOk_val nG_ok hmix (ansO_run (nG_ps _) (b21Etrue txB ty fr tt ix pe co ba ve tx0 hi lo po cd te da sg) rfl) rfl rfl
   | false =>
    have e:dB ⟨ty,fr,tt,ix,pe,co,ba,ve,tx0,false,hi,lo,po,cd,te,da,sg⟩ 69=(([4]++[by8 lo 24,by8 lo 16,by8 lo 8,by8 lo 0])++be2 po):=by
     rw [← be4_lo]
     rfl
    rw [e]
    exact callOk_val nG_ok hmix (ansO_run (nG_ps _) (b21Efalse txB ty fr tt ix pe co ba ve tx0 hi lo po cd te da sg) rfl) rfl rfl
  ·exact callOk_val nG_ok hmix (ansO_run (nG_ps _) (b21K txB ⟨ty,fr,tt,ix,pe,co,ba,ve,tx0,v6,hi,lo,po,cd,te,da,sg⟩) rfl) rfl rfl
  ·exact callOk_val nG_ok hmix (ansO_run (nG_ps _) (b21N txB ⟨ty,fr,tt,ix,pe,co,ba,ve,tx0,v6,hi,lo,po,cd,te,da,sg⟩) (allT_mk h1 rfl)) rfl rfl
  ·exact callOk_val nG_ok hmix (ansO_run (nG_ps _) (b21D txB ⟨ty,fr,tt,ix,pe,co,ba,ve,tx0,v6,hi,lo,po,cd,te,da,sg⟩) (allT_mk h2 rfl)) rfl rfl
  ·exact callOk_val nG_ok hmix (ansO_run (nG_ps _) (b21S txB ⟨ty,fr,tt,ix,pe,co,ba,ve,tx0,v6,hi,lo,po,cd,te,da,sg⟩) rfl) rfl rfl
 ·cases he
end Go.Proofs.YthlemfnkmpikjaaDoor
namespace Go.Proofs.YthlemfnkmpikjaaDoor
open Go Go.Eng Go.Num Go.Msg
def ps21 (eb:Ms→UInt8→List UInt8):PS:=psOne 21 (p21 eb)
def nH (mv:Ms→Int) (eb:Ms→UInt8→List UInt8):CS:=csAlt (csP (ps21 eb)) (csAlt (csOne 14 (k13 mv)) (csOne 20 k20))
theorem nH_ps (mv:Ms→Int) (eb:Ms→UInt8→List UInt8):PSOk (ps21 eb) (nH mv eb):=csP_ok
theorem nH_ok:CSOk Tryd.prog (nH mayD dB):=csAlt_ok p21_ok (csAlt_ok k14_ok k20_ok)
def outF (eb:Ms→UInt8→List UInt8) (m:Ms):List UInt8→List UInt8→List UInt8
 | s,[]=>s
 | s,c::l=>outF eb m (s++eb m c) l
def obO (eb:Ms→UInt8→List UInt8) (m:Ms):List UInt8→List UInt8→List Bool
 | _,[]=>[]
 | s,c::l=>(isLet c && (Nat.ble m.te.length 32768 && Nat.ble m.da.length 32768))::Nat.ble (s.length+(eb m c).length) 9223372036854775807::obO eb m (s++eb m c) l
theorem d10x (mv:Ms→Int) (eb:Ms→UInt8→List UInt8) (m:Ms):ansO (run1O Tryd.prog (ps21 eb) (nH mv eb) [11,31,32] [true] [] (mask 10) 200 10 [mA m] H0 4)=some (.tup [.str [],.int .i64 (mv m)],[mv m != 0]):=by kernel_rfl
theorem d10_1 (mv:Ms→Int) (eb:Ms→UInt8→List UInt8) (fr tt:List UInt8) (ix pe:UInt32) (co ba ve:UInt64) (tx:List UInt8) (v6:Bool) (hi lo:UInt64) (po cd:Int) (te da sg:List UInt8):ansO (run1O Tryd.prog (ps21 eb) (nH mv eb) [11,31,32] [false] [] (mask 10) 200 10 [mA ⟨1,fr,tt,ix,pe,co,ba,ve,tx,v6,hi,lo,po,cd,te,da,sg⟩] H0 4)=some (.tup [.str (outF eb ⟨1,fr,tt,ix,pe,co,ba,ve,tx,v6,hi,lo,po,cd,te,da,sg⟩ [1] [70,84,78]),.int .i64 0],((!(mv ⟨1,fr,tt,ix,pe,co,ba,ve,tx,v6,hi,lo,po,cd,te,da,sg⟩ != 0))::obO eb ⟨1,fr,tt,ix,pe,co,ba,ve,tx,v6,hi,lo,po,cd,te,da,sg⟩ [1] [70,84,78]).reverse):=by kernel_rfl
theorem d10_2 (mv:Ms→Int) (eb:Ms→UInt8→List UInt8) (fr tt:List UInt8) (ix pe:UInt32) (co ba ve:UInt64) (tx:List UInt8) (v6:Bool) (hi lo:UInt64) (po cd:Int) (te da sg:List UInt8):ansO (run1O Tryd.prog (ps21 eb) (nH mv eb) [11,31,32] [false] [] (mask 10) 200 10 [mA ⟨2,fr,tt,ix,pe,co,ba,ve,tx,v6,hi,lo,po,cd,te,da,sg⟩] H0 4)=some (.tup [.str (outF eb ⟨2,fr,tt,ix,pe,co,ba,ve,tx,v6,hi,lo,po,cd,te,da,sg⟩ [2] [70,86,69]),.int .i64 0],((!(mv ⟨2,fr,tt,ix,pe,co,ba,ve,tx,v6,hi,lo,po,cd,te,da,sg⟩ != 0))::obO eb ⟨2,fr,tt,ix,pe,co,ba,ve,tx,v6,hi,lo,po,cd,te,da,sg⟩ [2] [70,86,69]).reverse):=by kernel_rfl
theorem d10_3 (mv:Ms→Int) (eb:Ms→UInt8→List UInt8) (fr tt:List UInt8) (ix pe:UInt32) (co ba ve:UInt64) (tx:List UInt8) (v6:Bool) (hi lo:UInt64) (po cd:Int) (te da sg:List UInt8):ansO (run1O Tryd.prog (ps21 eb) (nH mv eb) [11,31,32] [false] [] (mask 10) 200 10 [mA ⟨3,fr,tt,ix,pe,co,ba,ve,tx,v6,hi,lo,po,cd,te,da,sg⟩] H0 4)=some (.tup [.str (outF eb ⟨3,fr,tt,ix,pe,co,ba,ve,tx,v6,hi,lo,po,cd,te,da,sg⟩ [3] [70,86]),.int .i64 0],((!(mv ⟨3,fr,tt,ix,pe,co,ba,ve,tx,v6,hi,lo,po,cd,te,da,sg⟩ != 0))::obO eb ⟨3,fr,tt,ix,pe,co,ba,ve,tx,v6,hi,lo,po,cd,te,da,sg⟩ [3] [70,86]).reverse):=by kernel_rfl
theorem d10_4 (mv:Ms→Int) (eb:Ms→UInt8→List UInt8) (fr tt:List UInt8) (ix pe:UInt32) (co ba ve:UInt64) (tx:List UInt8) (v6:Bool) (hi lo:UInt64) (po cd:Int) (te da sg:List UInt8):ansO (run1O Tryd.prog (ps21 eb) (nH mv eb) [11,31,32] [false] [] (mask 10) 200 10 [mA ⟨4,fr,tt,ix,pe,co,ba,ve,tx,v6,hi,lo,po,cd,te,da,sg⟩] H0 4)=some (.tup [.str (outF eb ⟨4,fr,tt,ix,pe,co,ba,ve,tx,v6,hi,lo,po,cd,te,da,sg⟩ [4] [86,68,83]),.int .i64 0],((!(mv ⟨4,fr,tt,ix,pe,co,ba,ve,tx,v6,hi,lo,po,cd,te,da,sg⟩ != 0))::obO eb ⟨4,fr,tt,ix,pe,co,ba,ve,tx,v6,hi,lo,po,cd,te,da,sg⟩ [4] [86,68,83]).reverse):=by kernel_rfl
theorem d10_5 (mv:Ms→Int) (eb:Ms→UInt8→List UInt8) (fr tt:List UInt8) (ix pe:UInt32) (co ba ve:UInt64) (tx:List UInt8) (v6:Bool) (hi lo:UInt64) (po cd:Int) (te da sg:List UInt8):ansO (run1O Tryd.prog (ps21 eb) (nH mv eb) [11,31,32] [false] [] (mask 10) 200 10 [mA ⟨5,fr,tt,ix,pe,co,ba,ve,tx,v6,hi,lo,po,cd,te,da,sg⟩] H0 4)=some (.tup [.str (outF eb ⟨5,fr,tt,ix,pe,co,ba,ve,tx,v6,hi,lo,po,cd,te,da,sg⟩ [5] [66,86,68,83]),.int .i64 0],((!(mv ⟨5,fr,tt,ix,pe,co,ba,ve,tx,v6,hi,lo,po,cd,te,da,sg⟩ != 0))::obO eb ⟨5,fr,tt,ix,pe,co,ba,ve,tx,v6,hi,lo,po,cd,te,da,sg⟩ [5] [66,86,68,83]).reverse):=by kernel_rfl
theorem d10_6 (mv:Ms→Int) (eb:Ms→UInt8→List UInt8) (fr tt:List UInt8) (ix pe:UInt32) (co ba ve:UInt64) (tx:List UInt8) (v6:Bool) (hi lo:UInt64) (po cd:Int) (te da sg:List UInt8):ansO (run1O Tryd.prog (ps21 eb) (nH mv eb) [11,31,32] [false] [] (mask 10) 200 10 [mA ⟨6,fr,tt,ix,pe,co,ba,ve,tx,v6,hi,lo,po,cd,te,da,sg⟩] H0 4)=some (.tup [.str (outF eb ⟨6,fr,tt,ix,pe,co,ba,ve,tx,v6,hi,lo,po,cd,te,da,sg⟩ [6] [75]),.int .i64 0],((!(mv ⟨6,fr,tt,ix,pe,co,ba,ve,tx,v6,hi,lo,po,cd,te,da,sg⟩ != 0))::obO eb ⟨6,fr,tt,ix,pe,co,ba,ve,tx,v6,hi,lo,po,cd,te,da,sg⟩ [6] [75]).reverse):=by kernel_rfl
theorem d10_7 (mv:Ms→Int) (eb:Ms→UInt8→List UInt8) (fr tt:List UInt8) (ix pe:UInt32) (co ba ve:UInt64) (tx:List UInt8) (v6:Bool) (hi lo:UInt64) (po cd:Int) (te da sg:List UInt8):ansO (run1O Tryd.prog (ps21 eb) (nH mv eb) [11,31,32] [false] [] (mask 10) 200 10 [mA ⟨7,fr,tt,ix,pe,co,ba,ve,tx,v6,hi,lo,po,cd,te,da,sg⟩] H0 4)=some (.tup [.str (outF eb ⟨7,fr,tt,ix,pe,co,ba,ve,tx,v6,hi,lo,po,cd,te,da,sg⟩ [7] [88]),.int .i64 0],((!(mv ⟨7,fr,tt,ix,pe,co,ba,ve,tx,v6,hi,lo,po,cd,te,da,sg⟩ != 0))::obO eb ⟨7,fr,tt,ix,pe,co,ba,ve,tx,v6,hi,lo,po,cd,te,da,sg⟩ [7] [88]).reverse):=by kernel_rfl
theorem d10_8 (mv:Ms→Int) (eb:Ms→UInt8→List UInt8) (fr tt:List UInt8) (ix pe:UInt32) (co ba ve:UInt64) (tx:List UInt8) (v6:Bool) (hi lo:UInt64) (po cd:Int) (te da sg:List UInt8):ansO (run1O Tryd.prog (ps21 eb) (nH mv eb) [11,31,32] [false] [] (mask 10) 200 10 [mA ⟨8,fr,tt,ix,pe,co,ba,ve,tx,v6,hi,lo,po,cd,te,da,sg⟩] H0 4)=some (.tup [.str (outF eb ⟨8,fr,tt,ix,pe,co,ba,ve,tx,v6,hi,lo,po,cd,te,da,sg⟩ [8] [88,69]),.int .i64 0],((!(mv ⟨8,fr,tt,ix,pe,co,ba,ve,tx,v6,hi,lo,po,cd,te,da,sg⟩ != 0))::obO eb ⟨8,fr,tt,ix,pe,co,ba,ve,tx,v6,hi,lo,po,cd,te,da,sg⟩ [8] [88,69]).reverse):=by kernel_rfl
theorem d10_9 (mv:Ms→Int) (eb:Ms→UInt8→List UInt8) (fr tt:List UInt8) (ix pe:UInt32) (co ba ve:UInt64) (tx:List UInt8) (v6:Bool) (hi lo:UInt64) (po cd:Int) (te da sg:List UInt8):ansO (run1O Tryd.prog (ps21 eb) (nH mv eb) [11,31,32] [false] [] (mask 10) 200 10 [mA ⟨9,fr,tt,ix,pe,co,ba,ve,tx,v6,hi,lo,po,cd,te,da,sg⟩] H0 4)=some (.tup [.str (outF eb ⟨9,fr,tt,ix,pe,co,ba,ve,tx,v6,hi,lo,po,cd,te,da,sg⟩ [9] [70,68]),.int .i64 0],((!(mv ⟨9,fr,tt,ix,pe,co,ba,ve,tx,v6,hi,lo,po,cd,te,da,sg⟩ != 0))::obO eb ⟨9,fr,tt,ix,pe,co,ba,ve,tx,v6,hi,lo,po,cd,te,da,sg⟩ [9] [70,68]).reverse):=by kernel_rfl
theorem d10_10 (mv:Ms→Int) (eb:Ms→UInt8→List UInt8) (fr tt:List UInt8) (ix pe:UInt32) (co ba ve:UInt64) (tx:List UInt8) (v6:Bool) (hi lo:UInt64) (po cd:Int) (te da sg:List UInt8):ansO (run1O Tryd.prog (ps21 eb) (nH mv eb) [11,31,32] [false] [] (mask 10) 200 10 [mA ⟨10,fr,tt,ix,pe,co,ba,ve,tx,v6,hi,lo,po,cd,te,da,sg⟩] H0 4)=some (.tup [.str (outF eb ⟨10,fr,tt,ix,pe,co,ba,ve,tx,v6,hi,lo,po,cd,te,da,sg⟩ [10] [70,68]),.int .i64 0],((!(mv ⟨10,fr,tt,ix,pe,co,ba,ve,tx,v6,hi,lo,po,cd,te,da,sg⟩ != 0))::obO eb ⟨10,fr,tt,ix,pe,co,ba,ve,tx,v6,hi,lo,po,cd,te,da,sg⟩ [10] [70,68]).reverse):=by kernel_rfl
theorem d10_11 (mv:Ms→Int) (eb:Ms→UInt8→List UInt8) (fr tt:List UInt8) (ix pe:UInt32) (co ba ve:UInt64) (tx:List UInt8) (v6:Bool) (hi lo:UInt64) (po cd:Int) (te da sg:List UInt8):ansO (run1O Tryd.prog (ps21 eb) (nH mv eb) [11,31,32] [false] [] (mask 10) 200 10 [mA ⟨11,fr,tt,ix,pe,co,ba,ve,tx,v6,hi,lo,po,cd,te,da,sg⟩] H0 4)=some (.tup [.str (outF eb ⟨11,fr,tt,ix,pe,co,ba,ve,tx,v6,hi,lo,po,cd,te,da,sg⟩ [11] [70]),.int .i64 0],((!(mv ⟨11,fr,tt,ix,pe,co,ba,ve,tx,v6,hi,lo,po,cd,te,da,sg⟩ != 0))::obO eb ⟨11,fr,tt,ix,pe,co,ba,ve,tx,v6,hi,lo,po,cd,te,da,sg⟩ [11] [70]).reverse):=by kernel_rfl
theorem d10_12 (mv:Ms→Int) (eb:Ms→UInt8→List UInt8) (fr tt:List UInt8) (ix pe:UInt32) (co ba ve:UInt64) (tx:List UInt8) (v6:Bool) (hi lo:UInt64) (po cd:Int) (te da sg:List UInt8):ansO (run1O Tryd.prog (ps21 eb) (nH mv eb) [11,31,32] [false] [] (mask 10) 200 10 [mA ⟨12,fr,tt,ix,pe,co,ba,ve,tx,v6,hi,lo,po,cd,te,da,sg⟩] H0 4)=some (.tup [.str (outF eb ⟨12,fr,tt,ix,pe,co,ba,ve,tx,v6,hi,lo,po,cd,te,da,sg⟩ [12] [70,88]),.int .i64 0],((!(mv ⟨12,fr,tt,ix,pe,co,ba,ve,tx,v6,hi,lo,po,cd,te,da,sg⟩ != 0))::obO eb ⟨12,fr,tt,ix,pe,co,ba,ve,tx,v6,hi,lo,po,cd,te,da,sg⟩ [12] [70,88]).reverse):=by kernel_rfl
theorem d10_13 (mv:Ms→Int) (eb:Ms→UInt8→List UInt8) (fr tt:List UInt8) (ix pe:UInt32) (co ba ve:UInt64) (tx:List UInt8) (v6:Bool) (hi lo:UInt64) (po cd:Int) (te da sg:List UInt8):ansO (run1O Tryd.prog (ps21 eb) (nH mv eb) [11,31,32] [false] [] (mask 10) 200 10 [mA ⟨13,fr,tt,ix,pe,co,ba,ve,tx,v6,hi,lo,po,cd,te,da,sg⟩] H0 4)=some (.tup [.str (outF eb ⟨13,fr,tt,ix,pe,co,ba,ve,tx,v6,hi,lo,po,cd,te,da,sg⟩ [13] [68]),.int .i64 0],((!(mv ⟨13,fr,tt,ix,pe,co,ba,ve,tx,v6,hi,lo,po,cd,te,da,sg⟩ != 0))::obO eb ⟨13,fr,tt,ix,pe,co,ba,ve,tx,v6,hi,lo,po,cd,te,da,sg⟩ [13] [68]).reverse):=by kernel_rfl
theorem d10_14 (mv:Ms→Int) (eb:Ms→UInt8→List UInt8) (fr tt:List UInt8) (ix pe:UInt32) (co ba ve:UInt64) (tx:List UInt8) (v6:Bool) (hi lo:UInt64) (po cd:Int) (te da sg:List UInt8):ansO (run1O Tryd.prog (ps21 eb) (nH mv eb) [11,31,32] [false] [] (mask 10) 200 10 [mA ⟨14,fr,tt,ix,pe,co,ba,ve,tx,v6,hi,lo,po,cd,te,da,sg⟩] H0 4)=some (.tup [.str (outF eb ⟨14,fr,tt,ix,pe,co,ba,ve,tx,v6,hi,lo,po,cd,te,da,sg⟩ [14] [84,68]),.int .i64 0],((!(mv ⟨14,fr,tt,ix,pe,co,ba,ve,tx,v6,hi,lo,po,cd,te,da,sg⟩ != 0))::obO eb ⟨14,fr,tt,ix,pe,co,ba,ve,tx,v6,hi,lo,po,cd,te,da,sg⟩ [14] [84,68]).reverse):=by kernel_rfl
theorem d10_15 (mv:Ms→Int) (eb:Ms→UInt8→List UInt8) (fr tt:List UInt8) (ix pe:UInt32) (co ba ve:UInt64) (tx:List UInt8) (v6:Bool) (hi lo:UInt64) (po cd:Int) (te da sg:List UInt8):ansO (run1O Tryd.prog (ps21 eb) (nH mv eb) [11,31,32] [false] [] (mask 10) 200 10 [mA ⟨15,fr,tt,ix,pe,co,ba,ve,tx,v6,hi,lo,po,cd,te,da,sg⟩] H0 4)=some (.tup [.str (outF eb ⟨15,fr,tt,ix,pe,co,ba,ve,tx,v6,hi,lo,po,cd,te,da,sg⟩ [15] [70,68]),.int .i64 0],((!(mv ⟨15,fr,tt,ix,pe,co,ba,ve,tx,v6,hi,lo,po,cd,te,da,sg⟩ != 0))::obO eb ⟨15,fr,tt,ix,pe,co,ba,ve,tx,v6,hi,lo,po,cd,te,da,sg⟩ [15] [70,68]).reverse):=by kernel_rfl
theorem d10_16 (mv:Ms→Int) (eb:Ms→UInt8→List UInt8) (fr tt:List UInt8) (ix pe:UInt32) (co ba ve:UInt64) (tx:List UInt8) (v6:Bool) (hi lo:UInt64) (po cd:Int) (te da sg:List UInt8):ansO (run1O Tryd.prog (ps21 eb) (nH mv eb) [11,31,32] [false] [] (mask 10) 200 10 [mA ⟨16,fr,tt,ix,pe,co,ba,ve,tx,v6,hi,lo,po,cd,te,da,sg⟩] H0 4)=some (.tup [.str (outF eb ⟨16,fr,tt,ix,pe,co,ba,ve,tx,v6,hi,lo,po,cd,te,da,sg⟩ [16] [84]),.int .i64 0],((!(mv ⟨16,fr,tt,ix,pe,co,ba,ve,tx,v6,hi,lo,po,cd,te,da,sg⟩ != 0))::obO eb ⟨16,fr,tt,ix,pe,co,ba,ve,tx,v6,hi,lo,po,cd,te,da,sg⟩ [16] [84]).reverse):=by kernel_rfl
theorem d10_17 (mv:Ms→Int) (eb:Ms→UInt8→List UInt8) (fr tt:List UInt8) (ix pe:UInt32) (co ba ve:UInt64) (tx:List UInt8) (v6:Bool) (hi lo:UInt64) (po cd:Int) (te da sg:List UInt8):ansO (run1O Tryd.prog (ps21 eb) (nH mv eb) [11,31,32] [false] [] (mask 10) 200 10 [mA ⟨17,fr,tt,ix,pe,co,ba,ve,tx,v6,hi,lo,po,cd,te,da,sg⟩] H0 4)=some (.tup [.str (outF eb ⟨17,fr,tt,ix,pe,co,ba,ve,tx,v6,hi,lo,po,cd,te,da,sg⟩ [17] [73,68]),.int .i64 0],((!(mv ⟨17,fr,tt,ix,pe,co,ba,ve,tx,v6,hi,lo,po,cd,te,da,sg⟩ != 0))::obO eb ⟨17,fr,tt,ix,pe,co,ba,ve,tx,v6,hi,lo,po,cd,te,da,sg⟩ [17] [73,68]).reverse):=by kernel_rfl
theorem d10_18 (mv:Ms→Int) (eb:Ms→UInt8→List UInt8) (fr tt:List UInt8) (ix pe:UInt32) (co ba ve:UInt64) (tx:List UInt8) (v6:Bool) (hi lo:UInt64) (po cd:Int) (te da sg:List UInt8):ansO (run1O Tryd.prog (ps21 eb) (nH mv eb) [11,31,32] [false] [] (mask 10) 200 10 [mA ⟨18,fr,tt,ix,pe,co,ba,ve,tx,v6,hi,lo,po,cd,te,da,sg⟩] H0 4)=some (.tup [.str (outF eb ⟨18,fr,tt,ix,pe,co,ba,ve,tx,v6,hi,lo,po,cd,te,da,sg⟩ [18] [73,80,68]),.int .i64 0],((!(mv ⟨18,fr,tt,ix,pe,co,ba,ve,tx,v6,hi,lo,po,cd,te,da,sg⟩ != 0))::obO eb ⟨18,fr,tt,ix,pe,co,ba,ve,tx,v6,hi,lo,po,cd,te,da,sg⟩ [18] [73,80,68]).reverse):=by kernel_rfl
theorem d10_19 (mv:Ms→Int) (eb:Ms→UInt8→List UInt8) (fr tt:List UInt8) (ix pe:UInt32) (co ba ve:UInt64) (tx:List UInt8) (v6:Bool) (hi lo:UInt64) (po cd:Int) (te da sg:List UInt8):ansO (run1O Tryd.prog (ps21 eb) (nH mv eb) [11,31,32] [false] [] (mask 10) 200 10 [mA ⟨19,fr,tt,ix,pe,co,ba,ve,tx,v6,hi,lo,po,cd,te,da,sg⟩] H0 4)=some (.tup [.str (outF eb ⟨19,fr,tt,ix,pe,co,ba,ve,tx,v6,hi,lo,po,cd,te,da,sg⟩ [19] [80,67,68]),.int .i64 0],((!(mv ⟨19,fr,tt,ix,pe,co,ba,ve,tx,v6,hi,lo,po,cd,te,da,sg⟩ != 0))::obO eb ⟨19,fr,tt,ix,pe,co,ba,ve,tx,v6,hi,lo,po,cd,te,da,sg⟩ [19] [80,67,68]).reverse):=by kernel_rfl
theorem d10_20 (mv:Ms→Int) (eb:Ms→UInt8→List UInt8) (fr tt:List UInt8) (ix pe:UInt32) (co ba ve:UInt64) (tx:List UInt8) (v6:Bool) (hi lo:UInt64) (po cd:Int) (te da sg:List UInt8):ansO (run1O Tryd.prog (ps21 eb) (nH mv eb) [11,31,32] [false] [] (mask 10) 200 10 [mA ⟨20,fr,tt,ix,pe,co,ba,ve,tx,v6,hi,lo,po,cd,te,da,sg⟩] H0 4)=some (.tup [.str (outF eb ⟨20,fr,tt,ix,pe,co,ba,ve,tx,v6,hi,lo,po,cd,te,da,sg⟩ [20] [70,88]),.int .i64 0],((!(mv ⟨20,fr,tt,ix,pe,co,ba,ve,tx,v6,hi,lo,po,cd,te,da,sg⟩ != 0))::obO eb ⟨20,fr,tt,ix,pe,co,ba,ve,tx,v6,hi,lo,po,cd,te,da,sg⟩ [20] [70,88]).reverse):=by kernel_rfl
theorem d10_21 (mv:Ms→Int) (eb:Ms→UInt8→List UInt8) (fr tt:List UInt8) (ix pe:UInt32) (co ba ve:UInt64) (tx:List UInt8) (v6:Bool) (hi lo:UInt64) (po cd:Int) (te da sg:List UInt8):ansO (run1O Tryd.prog (ps21 eb) (nH mv eb) [11,31,32] [false] [] (mask 10) 200 10 [mA ⟨21,fr,tt,ix,pe,co,ba,ve,tx,v6,hi,lo,po,cd,te,da,sg⟩] H0 4)=some (.tup [.str (outF eb ⟨21,fr,tt,ix,pe,co,ba,ve,tx,v6,hi,lo,po,cd,te,da,sg⟩ [21] [88,69]),.int .i64 0],((!(mv ⟨21,fr,tt,ix,pe,co,ba,ve,tx,v6,hi,lo,po,cd,te,da,sg⟩ != 0))::obO eb ⟨21,fr,tt,ix,pe,co,ba,ve,tx,v6,hi,lo,po,cd,te,da,sg⟩ [21] [88,69]).reverse):=by kernel_rfl
end Go.Proofs.YthlemfnkmpikjaaDoor
namespace Go.Proofs.YthlemfnkmpikjaaDoor
open Go Go.Eng Go.Num Go.Msg
theorem let_ok (f:Msg.Fd):isLet (letF f)=true∧fdOf (letF f)=f:=by cases f <;> exact ⟨rfl,rfl⟩
theorem dB_let (m:Ms) (f:Msg.Fd):dB m (letF f)=encF cdR m f:=by unfold dB; rw [(let_ok f).2]
theorem outF_eq (m:Ms):∀ (l:List Msg.Fd) (s:List UInt8),outF dB m s (l.map letF)=s++l.flatMap (encF cdR m)
 | [],s=>by simp [outF]
 | f::l,s=>by
  simp only [List.map_cons,outF,dB_let,List.flatMap_cons]
  rw [outF_eq m l,List.append_assoc]
theorem enc_len1 {m:Ms}{f:Msg.Fd}(h:good m f):(encF cdR m f).length≤40000:=by
 cases f
 case E =>
  cases hv:m.v6 <;> simp only [encF,hv,cond_true,cond_false,List.length_append,List.length_cons,cdR_ok.l8,cdR_ok.l4,cdR_ok.l2] <;> omega
 all_goals
  simp only [good] at h
  simp only [encF,List.length_append,cdR_ok.l8,cdR_ok.l4,cdR_ok.l2]
  omega
theorem obO_ok {m:Ms}(h1:m.te.length≤32768) (h2:m.da.length≤32768):∀ (l:List Msg.Fd) (s:List UInt8),(∀ f ∈ l,good m f)→s.length+40000 * l.length≤1000000000→allT (obO dB m s (l.map letF))=true
 | [],s,_,_=>rfl
 | f::l,s,hg,hl=>by
  have hf:=enc_len1 (hg f (List.mem_cons_self ..))
  rw [List.length_cons] at hl
  simp only [List.map_cons,obO,dB_let]
  refine allT_mk ?_ (allT_mk (Nat.ble_eq_true_of_le (by omega)) (obO_ok h1 h2 l _ (fun f hf=>hg f (List.mem_cons_of_mem _ hf)) (by rw [List.length_append]; omega)))
  rw [(let_ok f).1,Nat.ble_eq_true_of_le h1,Nat.ble_eq_true_of_le h2]
  rfl
theorem may_short {m:Ms}(h:mayS m=0):m.te.length≤32768∧m.da.length≤32768:=by
 unfold mayS at h
 cases he:(fds m.ty.toNat).isEmpty with
 | true=>rw [he,cond_true] at h; exact absurd h (by decide)
 | false =>
  rw [he,cond_false] at h
  cases ho:okS (hasL (fds m.ty.toNat)) m with
  | false=>rw [ho,cond_false] at h; exact absurd h (by decide)
  | true =>
   rw [ho,cond_true] at h
   cases hl:(lT m || lD m) with
   | true=>rw [hl,cond_true] at h; exact absurd h (by decide)
   | false =>
    obtain ⟨l1,l2⟩:lT m=false∧lD m=false:=by simpa using hl
    unfold lT lenI at l1
    unfold lD lenI at l2
    have l1':=of_decide_eq_false l1
    have l2':=of_decide_eq_false l2
    omega
def encS (m:Ms):List UInt8:=cond (decide (mayS m=0)) (enc cdR m) []
def rngB (m:Ms):Bool:=(decide (0≤m.po) && decide (m.po < 65536)) && (decide (0≤m.cd) && decide (m.cd < 65536))
theorem rng_of {m:Ms}(h:rngB m=true):rngM m:=by
 unfold rngB at h
 simp only [Bool.and_eq_true,decide_eq_true_eq] at h
 exact h
theorem enc_type {cs:CS}{ps:PS}{sy:List Nat}{nn F:Nat}{f:FuncId}{H:HL}{fr:Nat}{m:Ms}{t:UInt8}{L:List UInt8}(hps:PSOk ps cs) (ht:m.ty=t) (hL:L=(fds t.toNat).map letF) (hm:mayS m=0) (hr:rngM m){b:Bool}(hb:b=true)
  (h:ansO (run1O Tryd.prog ps cs sy [false] [] nn F f [mA m] H fr)=some (.tup [.str (outF dB m [t] L),.int .i64 0],(b::obO dB m [t] L).reverse)) (hlen:L.length≤10) :
  (run1 Tryd.prog cs nn F f [mA m] H fr).map (·.1)=some (.tup [.str (encS m),.int .i64 (mayS m)]):=by
 subst ht
 obtain ⟨s1,s2⟩:=may_short hm
 obtain ⟨g1,g2,g3⟩:=may_good hr hm
 have e:encS m=outF dB m [m.ty] L:=by
  unfold encS
  rw [decide_eq_true hm,cond_true,hL,outF_eq]
  rfl
 rw [e,hm]
 refine ansO_run hps h (allT_rev (allT_mk hb ?_))
 have hlen':(fds m.ty.toNat).length≤10:=by rw [hL,List.length_map] at hlen; exact hlen
 rw [hL]
 exact obO_ok s1 s2 _ _ g2 (by rw [List.length_cons,List.length_nil]; omega)
theorem doc_enc (m:Ms) (hr:rngM m):(run1 Tryd.prog (nH mayD dB) (mask 10) 200 10 [mA m] H0 4).map (·.1)=some (.tup [.str (encS m),.int .i64 (mayS m)]):=by
 have hD:=mayD_eq m
 by_cases h0:mayS m=0
 case neg =>
  have e:encS m=[]:=by unfold encS; rw [decide_eq_false h0]; rfl
  have x:=d10x mayD dB m
  rw [hD] at x
  rw [e]
  exact ansO_run (nH_ps _ _) x (allT_mk (by simp only [bne_iff_ne,ne_eq]; exact h0) rfl)
 case pos =>
  have hb:(!(mayD m != 0))=true:=by rw [hD,h0]; rfl
  have hno:¬ (m.ty.toNat=0 ∨ 21 < m.ty.toNat):=fun hx=>by
   have e:=fds_none hx
   unfold mayS at h0
   rw [e,List.isEmpty_nil,cond_true] at h0
   exact absurd h0 (by decide)
  obtain ⟨ty,fr,tt,ix,pe,co,ba,ve,tx,v6,hi,lo,po,cd,te,da,sg⟩:=m
  simp only at hno
  have ht:ty=1 ∨ ty=2 ∨ ty=3 ∨ ty=4 ∨ ty=5 ∨ ty=6 ∨ ty=7 ∨ ty=8 ∨ ty=9 ∨ ty=10 ∨ ty=11 ∨ ty=12 ∨ ty=13 ∨ ty=14 ∨ ty=15 ∨ ty=16 ∨ ty=17 ∨ ty=18 ∨ ty=19 ∨ ty=20 ∨ ty=21:=by
   have:ty.toNat=1 ∨ ty.toNat=2 ∨ ty.toNat=3 ∨ ty.toNat=4 ∨ ty.toNat=5 ∨ ty.toNat=6 ∨ ty.toNat=7 ∨ ty.toNat=8 ∨ ty.toNat=9 ∨ ty.toNat=10 ∨ ty.toNat=11 ∨ ty.toNat=12 ∨ ty.toNat=13 ∨ ty.toNat=14 ∨ ty.toNat=15 ∨ ty.toNat=16 ∨ ty.toNat=17 ∨ ty.toNat=18 ∨ ty.toNat=19 ∨ ty.toNat=20 ∨ ty.toNat=21:=by omega
   rcases this with h | h | h | h | h | h | h | h | h | h | h | h | h | h | h | h | h | h | h | h | h
   ·exact Or.inl (UInt8.toNat_inj.1 (by rw [h]; rfl))
   ·exact Or.inr (Or.inl (UInt8.toNat_inj.1 (by rw [h]; rfl)))
   ·exact Or.inr (Or.inr (Or.inl (UInt8.toNat_inj.1 (by rw [h]; rfl))))
   ·exact Or.inr (Or.inr (Or.inr (Or.inl (UInt8.toNat_inj.1 (by rw [h]; rfl)))))
   ·exact Or.inr (Or.inr (Or.inr (Or.inr (Or.inl (UInt8.toNat_inj.1 (by rw [h]; rfl))))))
   ·exact Or.inr (Or.inr (Or.inr (Or.inr (Or.inr (Or.inl (UInt8.toNat_inj.1 (by rw [h]; rfl)))))))
   ·exact Or.inr (Or.inr (Or.inr (Or.inr (Or.inr (Or.inr (Or.inl (UInt8.toNat_inj.1 (by rw [h]; rfl))))))))
   ·exact Or.inr (Or.inr (Or.inr (Or.inr (Or.inr (Or.inr (Or.inr (Or.inl (UInt8.toNat_inj.1 (by rw [h]; rfl)))))))))
   ·exact Or.inr (Or.inr (Or.inr (Or.inr (Or.inr (Or.inr (Or.inr (Or.inr (Or.inl (UInt8.toNat_inj.1 (by rw [h]; rfl))))))))))
   ·exact Or.inr (Or.inr (Or.inr (Or.inr (Or.inr (Or.inr (Or.inr (Or.inr (Or.inr (Or.inl (UInt8.toNat_inj.1 (by rw [h]; rfl)))))))))))
   ·exact Or.inr (Or.inr (Or.inr (Or.inr (Or.inr (Or.inr (Or.inr (Or.inr (Or.inr (Or.inr (Or.inl (UInt8.toNat_inj.1 (by rw [h]; rfl))))))))))))
   ·exact Or.inr (Or.inr (Or.inr (Or.inr (Or.inr (Or.inr (Or.inr (Or.inr (Or.inr (Or.inr (Or.inr (Or.inl (UInt8.toNat_inj.1 (by rw [h]; rfl)))))))))))))
   ·exact Or.inr (Or.inr (Or.inr (Or.inr (Or.inr (Or.inr (Or.inr (Or.inr (Or.inr (Or.inr (Or.inr (Or.inr (Or.inl (UInt8.toNat_inj.1 (by rw [h]; rfl))))))))))))))
   ·exact Or.inr (Or.inr (Or.inr (Or.inr (Or.inr (Or.inr (Or.inr (Or.inr (Or.inr (Or.inr (Or.inr (Or.inr (Or.inr (Or.inl (UInt8.toNat_inj.1 (by rw [h]; rfl)))))))))))))))
   ·exact Or.inr (Or.inr (Or.inr (Or.inr (Or.inr (Or.inr (Or.inr (Or.inr (Or.inr (Or.inr (Or.inr (Or.inr (Or.inr (Or.inr (Or.inl (UInt8.toNat_inj.1 (by rw [h]; rfl))))))))))))))))
   ·exact Or.inr (Or.inr (Or.inr (Or.inr (Or.inr (Or.inr (Or.inr (Or.inr (Or.inr (Or.inr (Or.inr (Or.inr (Or.inr (Or.inr (Or.inr (Or.inl (UInt8.toNat_inj.1 (by rw [h]; rfl)))))))))))))))))
   ·exact Or.inr (Or.inr (Or.inr (Or.inr (Or.inr (Or.inr (Or.inr (Or.inr (Or.inr (Or.inr (Or.inr (Or.inr (Or.inr (Or.inr (Or.inr (Or.inr (Or.inl (UInt8.toNat_inj.1 (by rw [h]; rfl))))))))))))))))))
   ·exact Or.inr (Or.inr (Or.inr (Or.inr (Or.inr (Or.inr (Or.inr (Or.inr (Or.inr (Or.inr (Or.inr (Or.inr (Or.inr (Or.inr (Or.inr (Or.inr (Or.inr (Or.inl (UInt8.toNat_inj.1 (by rw [h]; rfl)))))))))))))))))))
   ·exact Or.inr (Or.inr (Or.inr (Or.inr (Or.inr (Or.inr (Or.inr (Or.inr (Or.inr (Or.inr (Or.inr (Or.inr (Or.inr (Or.inr (Or.inr (Or.inr (Or.inr (Or.inr (Or.inl (UInt8.toNat_inj.1 (by rw [h]; rfl))))))))))))))))))))
   ·exact Or.inr (Or.inr (Or.inr (Or.inr (Or.inr (Or.inr (Or.inr (Or.inr (Or.inr (Or.inr (Or.inr (Or.inr (Or.inr (Or.inr (Or.inr (Or.inr (Or.inr (Or.inr (Or.inr (Or.inl (UInt8.toNat_inj.1 (by rw [h]; rfl)))))))))))))))))))))
   ·exact Or.inr (Or.inr (Or.inr (Or.inr (Or.inr (Or.inr (Or.inr (Or.inr (Or.inr (Or.inr (Or.inr (Or.inr (Or.inr (Or.inr (Or.inr (Or.inr (Or.inr (Or.inr (Or.inr (Or.inr ((UInt8.toNat_inj.1 (by rw [h]; rfl))))))))))))))))))))))
  rcases ht with rfl | rfl | rfl | rfl | rfl | rfl | rfl | rfl | rfl | rfl | rfl | rfl | rfl | rfl | rfl | rfl | rfl | rfl | rfl | rfl | rfl
  ·exact enc_type (t:=1) (nH_ps mayD dB) rfl rfl h0 hr hb (d10_1 mayD dB fr tt ix pe co ba ve tx v6 hi lo po cd te da sg) (by decide)
  ·exact enc_type (t:=2) (nH_ps mayD dB) rfl rfl h0 hr hb (d10_2 mayD dB fr tt ix pe co ba ve tx v6 hi lo po cd te da sg) (by decide)
  ·exact enc_type (t:=3) (nH_ps mayD dB) rfl rfl h0 hr hb (d10_3 mayD dB fr tt ix pe co ba ve tx v6 hi lo po cd te da sg) (by decide)
  ·exact enc_type (t:=4) (nH_ps mayD dB) rfl rfl h0 hr hb (d10_4 mayD dB fr tt ix pe co ba ve tx v6 hi lo po cd te da sg) (by decide)
  ·exact enc_type (t:=5) (nH_ps mayD dB) rfl rfl h0 hr hb (d10_5 mayD dB fr tt ix pe co ba ve tx v6 hi lo po cd te da sg) (by decide)
  ·exact enc_type (t:=6) (nH_ps mayD dB) rfl rfl h0 hr hb (d10_6 mayD dB fr tt ix pe co ba ve tx v6 hi lo po cd te da sg) (by decide)
  ·exact enc_type (t:=7) (nH_ps mayD dB) rfl rfl h0 hr hb (d10_7 mayD dB fr tt ix pe co ba ve tx v6 hi lo po cd te da sg) (by decide)
  ·exact enc_type (t:=8) (nH_ps mayD dB) rfl rfl h0 hr hb (d10_8 mayD dB fr tt ix pe co ba ve tx v6 hi lo po cd te da sg) (by decide)
  ·exact enc_type (t:=9) (nH_ps mayD dB) rfl rfl h0 hr hb (d10_9 mayD dB fr tt ix pe co ba ve tx v6 hi lo po cd te da sg) (by decide)
  ·exact enc_type (t:=10) (nH_ps mayD dB) rfl rfl h0 hr hb (d10_10 mayD dB fr tt ix pe co ba ve tx v6 hi lo po cd te da sg) (by decide)
  ·exact enc_type (t:=11) (nH_ps mayD dB) rfl rfl h0 hr hb (d10_11 mayD dB fr tt ix pe co ba ve tx v6 hi lo po cd te da sg) (by decide)
  ·exact enc_type (t:=12) (nH_ps mayD dB) rfl rfl h0 hr hb (d10_12 mayD dB fr tt ix pe co ba ve tx v6 hi lo po cd te da sg) (by decide)
  ·exact enc_type (t:=13) (nH_ps mayD dB) rfl rfl h0 hr hb (d10_13 mayD dB fr tt ix pe co ba ve tx v6 hi lo po cd te da sg) (by decide)
  ·exact enc_type (t:=14) (nH_ps mayD dB) rfl rfl h0 hr hb (d10_14 mayD dB fr tt ix pe co ba ve tx v6 hi lo po cd te da sg) (by decide)
  ·exact enc_type (t:=15) (nH_ps mayD dB) rfl rfl h0 hr hb (d10_15 mayD dB fr tt ix pe co ba ve tx v6 hi lo po cd te da sg) (by decide)
  ·exact enc_type (t:=16) (nH_ps mayD dB) rfl rfl h0 hr hb (d10_16 mayD dB fr tt ix pe co ba ve tx v6 hi lo po cd te da sg) (by decide)
  ·exact enc_type (t:=17) (nH_ps mayD dB) rfl rfl h0 hr hb (d10_17 mayD dB fr tt ix pe co ba ve tx v6 hi lo po cd te da sg) (by decide)
  ·exact enc_type (t:=18) (nH_ps mayD dB) rfl rfl h0 hr hb (d10_18 mayD dB fr tt ix pe co ba ve tx v6 hi lo po cd te da sg) (by decide)
  ·exact enc_type (t:=19) (nH_ps mayD dB) rfl rfl h0 hr hb (d10_19 mayD dB fr tt ix pe co ba ve tx v6 hi lo po cd te da sg) (by decide)
  ·exact enc_type (t:=20) (nH_ps mayD dB) rfl rfl h0 hr hb (d10_20 mayD dB fr tt ix pe co ba ve tx v6 hi lo po cd te da sg) (by decide)
  ·exact enc_type (t:=21) (nH_ps mayD dB) rfl rfl h0 hr hb (d10_21 mayD dB fr tt ix pe co ba ve tx v6 hi lo po cd te da sg) (by decide)
def pEnc (ev:Ms→List UInt8) (mv:Ms→Int):List AVal→Option (EffA × Bool)
 | [.agg [.u8 ty,.str fr,.str tt,.u32 ix,.u32 pe,.u64 co,.u64 ba,.u64 ve,.str tx,.bool v6,.u64 hi,.u64 lo,.int .u16 po,.int .u16 cd,.str te,.str da,.str sg]]=>some (tL (some (.tup [.str (ev ⟨ty,fr,tt,ix,pe,co,ba,ve,tx,v6,hi,lo,po,cd,te,da,sg⟩),.int .i64 (mv ⟨ty,fr,tt,ix,pe,co,ba,ve,tx,v6,hi,lo,po,cd,te,da,sg⟩)])),rngB ⟨ty,fr,tt,ix,pe,co,ba,ve,tx,v6,hi,lo,po,cd,te,da,sg⟩)
 | _=>none
theorem p10_ok:CSOk Tryd.prog (csP (psOne 10 (pEnc encS mayS))):=psOne_ok fun args e he=>by
 unfold pEnc at he
 split at he
 ·rename_i ty fr tt ix pe co ba ve tx0 v6 hi lo po cd te da sg
  simp only [Option.some.injEq,Prod.mk.injEq] at he
  obtain ⟨rfl,hl⟩:=he
  refine callOk_tL nH_ok (by kernel_rfl) fun y hy => ?_
  cases hy
  exact ⟨rfl,_,_,run_of (doc_enc ⟨ty,fr,tt,ix,pe,co,ba,ve,tx0,v6,hi,lo,po,cd,te,da,sg⟩ (rng_of hl))⟩
 ·cases he
end Go.Proofs.YthlemfnkmpikjaaDoor
namespace Go.Proofs.YthlemfnkmpikjaaDoor
open Go Go.Eng Go.Num Go.Msg
noncomputable def n9 (mv:Ms→Int) (tw:List UInt8→List UInt8) (k:Nat):CS:=csAlt (csAlt (csOne 13 (k13 mv)) (csOne 18 k18)) (nX tw (k+5))
theorem n9_ok (k:Nat):CSOk Tryd.prog (n9 (mayC (tx far)) txW k):=csAlt_ok (csAlt_ok k13_ok k18_ok) (nX_ok _)
end Go.Proofs.YthlemfnkmpikjaaDoor
namespace Go.Proofs.YthlemfnkmpikjaaDoor
open Go Go.Eng Go.Num Go.Msg
theorem txW_eq {s:List UInt8}(h:s.length≤32768):txW s=cdR.be2 (s.length:Int)++s:=by
 unfold txW
 rw [u16_wrap,Nat.mod_eq_of_lt (by omega)]
 rfl
theorem wF_eq {m:Ms}(h1:m.te.length≤32768) (h2:m.da.length≤32768) (f:Msg.Fd):wF txW m f=encF cdR m f:=by
 cases f
 case N=>exact txW_eq h1
 case D=>exact txW_eq h2
 case E =>
  unfold wF encF
  cases m.v6 <;> rfl
 all_goals rfl
theorem wrG_eq {m:Ms}(h1:m.te.length≤32768) (h2:m.da.length≤32768):∀ (l:List Msg.Fd) (s:List UInt8),wrG txW m l s=s++l.flatMap (encF cdR m)
 | [],s=>by simp [wrG]
 | f::l,s=>by
  show wrG txW m l (s++wF txW m f)=_
  rw [wF_eq h1 h2,wrG_eq h1 h2 l,List.flatMap_cons,List.append_assoc]
theorem fit_ok {m:Ms}(h1:m.te.length≤32768) (h2:m.da.length≤32768):∀ (l:List Msg.Fd) (s:List UInt8),(∀ f ∈ l,good m f)→s.length+40000 * l.length≤1000000000→fitW txW m s l
 | [],s,_,_=>trivial
 | f::l,s,hg,hl=>by
  have hf:=enc_len1 (hg f (List.mem_cons_self ..))
  rw [List.length_cons] at hl
  refine ⟨?_,?_⟩
  ·rw [wF_eq h1 h2]
   exact Nat.ble_eq_true_of_le (by omega)
  ·rw [wF_eq h1 h2]
   exact fit_ok h1 h2 l _ (fun f hf=>hg f (List.mem_cons_of_mem _ hf)) (by rw [List.length_append]; omega)
def H9 (m:Ms) (o:List UInt8):HL:=H0++[(4,.cells false (mCells m)),(108,.cells false [.u8 m.ty]),(132,.cells false (penW (fieldsN m.ty) o))]
theorem c9a (mv:Ms→Int) (tw:List UInt8→List UInt8) (k:Nat) (m:Ms):ansO (run1O Tryd.prog noPS (n9 mv tw k) [9,300021] [true] [] (mask 9) 200 9 [mA m] H0 4)=some (.tup [.str [],.int .i64 (mv m)],[mv m != 0]):=by kernel_rfl
theorem c9b (mv:Ms→Int) (tw:List UInt8→List UInt8) (k:Nat) (m:Ms) (o:List UInt8):ansO (run1O Tryd.prog noPS (n9 mv tw k) [9,300021] [false] [.tup [],.tup [.ptr 132 0,.agg (penW (fieldsN m.ty) o),.ptr 4 0,.agg (mCells m)]] (mask 9) 200 9 [mA m] H0 4)=some (.tup [.str o,.int .i64 0],[oB (eR (nX tw (k+4)) 19 [.ptr 132 0,.ptr 4 0]) 156 (H9 m [m.ty]) (.tup []) (H9 m o),!(mv m != 0)]):=by kernel_rfl
theorem E19w (k:Nat) (m:Ms) (hne:(fds m.ty.toNat).isEmpty=false) (h1:Nat.ble m.te.length 32768=true) (h2:Nat.ble m.da.length 32768=true) (hf:fitW txW m [m.ty] (fds m.ty.toNat)){base:Nat}:(eR (nX txW (k+4)) 19 [.ptr 132 0,.ptr 4 0]).app base (H9 m [m.ty])=some (.tup [],H9 m (wrG txW m (fds m.ty.toNat) [m.ty])):=by
 obtain ⟨sy,os,vs,ob,hr,ha⟩:=all_write m.ty txW k m [m.ty] hne h1 h2 hf
 exact inlE_run (noPS_ok _) (ns:=[132,4]) hr ha gl rfl rfl rfl rfl rfl rfl
theorem code_enc (m:Ms) (hr:rngM m):(run1 Tryd.prog (n9 (mayC (tx far)) txW 0) (mask 9) 200 9 [mA m] H0 4).map (·.1)=some (.tup [.str (encS m),.int .i64 (mayS m)]):=by
 have e:mayC (tx far)=mayS:=funext mayC_eq
 rw [e]
 by_cases h0:mayS m=0
 ·obtain ⟨s1,s2⟩:=may_short h0
  obtain ⟨g1,g2,g3⟩:=may_good hr h0
  have hlen:(fds m.ty.toNat).length≤10:=by
   generalize m.ty.toNat=n
   unfold fds
   split <;> decide
  have hne:(fds m.ty.toNat).isEmpty=false:=by
   cases he:(fds m.ty.toNat).isEmpty with
   | false=>rfl
   | true =>
    unfold mayS at h0
    rw [he,cond_true] at h0
    exact absurd h0 (by decide)
  have hE:=fun base=>E19w 0 m hne (Nat.ble_eq_true_of_le s1) (Nat.ble_eq_true_of_le s2) (fit_ok s1 s2 _ _ g2 (by rw [List.length_cons,List.length_nil]; omega)) (base:=base)
  have he:encS m=wrG txW m (fds m.ty.toNat) [m.ty]:=by
   unfold encS
   rw [decide_eq_true h0,cond_true,wrG_eq s1 s2]
   rfl
  rw [he,h0]
  generalize wrG txW m (fds m.ty.toNat) [m.ty]=o at hE ⊢
  exact ansO_run (noPS_ok _) (c9b mayS txW 0 m o) (allT_mk (oB_of (hE _)) (allT_mk (by rw [h0]; rfl) rfl))
 ·have he:encS m=[]:=by
   unfold encS
   rw [decide_eq_false h0]
   rfl
  rw [he]
  exact ansO_run (noPS_ok _) (c9a mayS txW 0 m) (allT_mk (bne_iff_ne.2 h0) rfl)
theorem p9_ok:CSOk Tryd.prog (csP (psOne 9 (pEnc encS mayS))):=psOne_ok fun args e he=>by
 unfold pEnc at he
 split at he
 ·rename_i ty fr tt ix pe co ba ve tx0 v6 hi lo po cd te da sg
  simp only [Option.some.injEq,Prod.mk.injEq] at he
  obtain ⟨rfl,hl⟩:=he
  refine callOk_tL (n9_ok 0) (by kernel_rfl) fun y hy => ?_
  cases hy
  exact ⟨rfl,_,_,run_of (code_enc ⟨ty,fr,tt,ix,pe,co,ba,ve,tx0,v6,hi,lo,po,cd,te,da,sg⟩ (rng_of hl))⟩
 ·cases he
end Go.Proofs.YthlemfnkmpikjaaDoor
