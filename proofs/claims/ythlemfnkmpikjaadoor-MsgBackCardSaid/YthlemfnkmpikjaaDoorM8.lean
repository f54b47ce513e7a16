/- Texts Mw2, Mt3, Mt4, Mt5, Mt6, Mt8, Mu1, Mt7: what they show that this claim uses. -/
import Derived.Test.YthlemfnkmpikjaaDoorM7
namespace Go.Num
end Go.Num
set_option maxRecDepth 100000
set_option maxHeartbeats 1000000
set_option linter.unusedVariables false
set_option linter.unusedSimpArgs false
namespace Go.Proofs.YthlemfnkmpikjaaDoor
open Go Go.Eng Go.Num Go.Msg
structure Rs where
 e:Int
 m:Ms
 s:List UInt8
 er:Int
def hR (has:Int) (st:Rs):HL:=[(4,.cells false (penR has st.e 6)),(5,.cells false (mCells st.m)),(6,.cells false (rdr st.s st.er))]
def onB (has bit:Int):Bool:=(IntKind.wrap .i64 ((BitVec.ofInt (IntKind.bits .i64) has &&& BitVec.ofInt (IntKind.bits .i64) bit).toNat:Int)) != 0
theorem t63y (cs:CS) (has bit e:Int) (s:List UInt8) (er:Int):ansM [4,5] (run1O Tryd.prog noPS cs [11,17] [true] [] (mask 63) 200 63 [.ptr 4 0,.int .i64 bit] [(4,.cells false (penR has e 5)),(5,.cells false (rdr s er))] 6)=some (.bool (e == 0),[some (.cells false (penR has e 5)),some (.cells false (rdr s er))],[onB has bit]):=by kernel_rfl
theorem E63 (cs:CS) (has bit:Int) (e:Int) (m:Ms) (s:List UInt8) (er:Int) (hb:onB has bit=true){base:Nat}:(eR cs 63 [.ptr 4 0,.int .i64 bit]).app base (hR has ⟨e,m,s,er⟩)=some (.bool (e == 0),hR has ⟨e,m,s,er⟩):=
 inlE_run (noPS_ok _) (ns:=[4,6]) (t63y cs has bit e s er) (allT_mk hb rfl) gl rfl rfl rfl rfl rfl rfl
def tkS (n:Nat) (g:List UInt8→Ms) (st:Rs):Rs:=cond (st.e == 0) ⟨(takeR n st.s st.er).2.2.2,g (takeR n st.s st.er).1,(takeR n st.s st.er).2.2.1,(takeR n st.s st.er).2.2.2⟩ st
def txS (most:Int) (g:List UInt8→Ms) (st:Rs):Rs:=
 cond (st.e == 0) (cond ((takeR 2 st.s st.er).2.2.2 == 0)
  (cond (decide (most < rd2 (takeR 2 st.s st.er).1)) ⟨4,st.m,(takeR 2 st.s st.er).2.2.1,(takeR 2 st.s st.er).2.2.2⟩
   ⟨(takeR (rd2 (takeR 2 st.s st.er).1).toNat (takeR 2 st.s st.er).2.2.1 (takeR 2 st.s st.er).2.2.2).2.2.2,g (takeR (rd2 (takeR 2 st.s st.er).1).toNat (takeR 2 st.s st.er).2.2.1 (takeR 2 st.s st.er).2.2.2).1,(takeR (rd2 (takeR 2 st.s st.er).1).toNat (takeR 2 st.s st.er).2.2.1 (takeR 2 st.s st.er).2.2.2).2.2.1,(takeR (rd2 (takeR 2 st.s st.er).1).toNat (takeR 2 st.s st.er).2.2.1 (takeR 2 st.s st.er).2.2.2).2.2.2⟩)
  ⟨(takeR 2 st.s st.er).2.2.2,st.m,(takeR 2 st.s st.er).2.2.1,(takeR 2 st.s st.er).2.2.2⟩) st
def lo4 (m:Ms) (y:UInt32) (l:Int):Ms:={ m with lo:=y.toUInt64,po:=l }
def lo6 (m:Ms) (y z:UInt64) (l:Int):Ms:={ m with v6:=true,hi:=y,lo:=z,po:=l }
def rdE1 (m:Ms) (v:UInt8) (s:List UInt8) (e:Int):Rs:=
 cond (e != 0) ⟨e,m,s,e⟩ (cond (v == 4)
  ⟨(takeR 2 (takeR 4 s e).2.2.1 (takeR 4 s e).2.2.2).2.2.2,lo4 m (rd4 (takeR 4 s e).1) (rd2 (takeR 2 (takeR 4 s e).2.2.1 (takeR 4 s e).2.2.2).1),(takeR 2 (takeR 4 s e).2.2.1 (takeR 4 s e).2.2.2).2.2.1,(takeR 2 (takeR 4 s e).2.2.1 (takeR 4 s e).2.2.2).2.2.2⟩
  (cond (v == 6) (((fun a b c=>(⟨c.2.2.2,lo6 m (rd8 a.1) (rd8 b.1) (rd2 c.1),c.2.2.1,c.2.2.2⟩:Rs)) (takeR 8 s e) (takeR 8 (takeR 8 s e).2.2.1 (takeR 8 s e).2.2.2) (takeR 2 (takeR 8 (takeR 8 s e).2.2.1 (takeR 8 s e).2.2.2).2.2.1 (takeR 8 (takeR 8 s e).2.2.1 (takeR 8 s e).2.2.2).2.2.2)))
   ⟨8,m,s,e⟩))
def endS (st:Rs):Rs:=cond (st.e == 0) (rdE1 st.m (rdB (takeR 1 st.s st.er).1) (takeR 1 st.s st.er).2.2.1 (takeR 1 st.s st.er).2.2.2) st
def fdS:Msg.Fd→Rs→Rs
 | .F,st=>tkS 32 (fun l => { st.m with fr:=l }) st
 | .T,st=>tkS 32 (fun l => { st.m with tt:=l }) st
 | .I,st=>tkS 4 (fun l => { st.m with ix:=rd4 l }) st
 | .P,st=>tkS 4 (fun l => { st.m with pe:=rd4 l }) st
 | .C,st=>tkS 8 (fun l => { st.m with co:=rd8 l }) st
 | .B,st=>tkS 8 (fun l => { st.m with ba:=rd8 l }) st
 | .V,st=>tkS 8 (fun l => { st.m with ve:=rd8 l }) st
 | .X,st=>tkS 16 (fun l => { st.m with tx:=l }) st
 | .E,st=>endS st
 | .K,st=>tkS 2 (fun l => { st.m with cd:=rd2 l }) st
 | .N,st=>txS 64 (fun l => { st.m with te:=l }) st
 | .D,st=>txS 32768 (fun l => { st.m with da:=l }) st
 | .S,st=>tkS 64 (fun l => { st.m with sg:=l }) st
theorem rd2_in (s:List UInt8) (e:Int):0≤rd2 (takeR 2 s e).1∧rd2 (takeR 2 s e).1 < 65536:=by
 rcases takeR_x 2 s e with h | h
 ·rw [h]
  decide
 ·exact (cdc2.2 _ h).2
theorem wrap_in {l:Int}(h0:0≤l) (h1:l < 65536):IntKind.wrap .i64 l=l:=wrap_i64 l (by omega) (by omega)
theorem E64b (k:Nat) (l:Int) (h0:0≤l) (s:List UInt8) (e:Int){H:HL}{r base:Nat}(h:aget H r=some (.cells false (rdr s e))):(eR (nR (k+1)) 64 [.ptr r 0,.int .i64 l]).app base H=some (.str (takeR l.toNat s e).1,aset H r (.cells false (rdr (takeR l.toNat s e).2.2.1 (takeR l.toNat s e).2.2.2))):=by
 have x:=E64 k l.toNat s e (base:=base) h
 rw [Int.toNat_of_nonneg h0] at x
 exact x
theorem rFy (k:Nat) (has e er e1:Int) (s s1:List UInt8) (m:Ms) (x:List UInt8):ansM [4,5,6] (run1O Tryd.prog noPS (nR (k+4)) [300021,300034] [] [.bool true,.tup [],.str x,.tup [.ptr 6 0,.agg (rdr s1 e1)]] (mask 41) 200 41 [.ptr 4 0,.int .i64 1,.int .i64 32,.ptr 5 1] (hR has ⟨e,m,s,er⟩) 7)=some (.tup [],[some (.cells false (penR has e1 6)),some (.cells false (mCells { m with fr:=x })),some (.cells false (rdr s1 e1))],[oB (eR (nR (k+3)) 64 [.ptr 6 0,.int .i64 32]) 135 (hR has ⟨e,m,s,er⟩) (.str x) (hR has ⟨e,m,s1,e1⟩),oB (eR (nR (k+3)) 63 [.ptr 4 0,.int .i64 1]) 23 (hR has ⟨e,m,s,er⟩) (.bool true) (hR has ⟨e,m,s,er⟩)]):=by kernel_rfl
theorem rFn (k:Nat) (has e er:Int) (s:List UInt8) (m:Ms):ansM [4,5,6] (run1O Tryd.prog noPS (nR (k+4)) [300021,300034] [] [.bool false,.tup []] (mask 41) 200 41 [.ptr 4 0,.int .i64 1,.int .i64 32,.ptr 5 1] (hR has ⟨e,m,s,er⟩) 7)=some (.tup [],[some (.cells false (penR has e 6)),some (.cells false (mCells m)),some (.cells false (rdr s er))],[oB (eR (nR (k+3)) 63 [.ptr 4 0,.int .i64 1]) 23 (hR has ⟨e,m,s,er⟩) (.bool false) (hR has ⟨e,m,s,er⟩)]):=by kernel_rfl
theorem RF (k:Nat) (has:Int) (hb:onB has 1=true) (st:Rs){base:Nat}:(eR (nR (k+4)) 41 [.ptr 4 0,.int .i64 1,.int .i64 32,.ptr 5 1]).app base (hR has st)=some (.tup [],hR has (fdS .F st)):=by
 obtain ⟨e,m,s,er⟩:=st
 have h63:=fun base=>E63 (nR (k+3)) has 1 e m s er hb (base:=base)
 simp only [fdS,tkS]
 cases he:(e == 0) with
 | false =>
  rw [he] at h63
  simp only [cond_false]
  exact inlE_run (noPS_ok _) (ns:=[4,5,6]) (rFn k has e er s m) (allT_mk (oB_of (h63 _)) rfl) gl rfl rfl rfl rfl rfl rfl
 | true =>
  rw [he] at h63
  simp only [cond_true]
  exact inlE_run (noPS_ok _) (ns:=[4,5,6]) (rFy k has e er (takeR 32 s er).2.2.2 s (takeR 32 s er).2.2.1 m (takeR 32 s er).1) (allT_mk (oB_of (E64 (k+2) 32 s er rfl)) (allT_mk (oB_of (h63 _)) rfl)) gl rfl rfl rfl rfl rfl rfl
theorem rTy (k:Nat) (has e er e1:Int) (s s1:List UInt8) (m:Ms) (x:List UInt8):ansM [4,5,6] (run1O Tryd.prog noPS (nR (k+4)) [300021,300034] [] [.bool true,.tup [],.str x,.tup [.ptr 6 0,.agg (rdr s1 e1)]] (mask 41) 200 41 [.ptr 4 0,.int .i64 2,.int .i64 32,.ptr 5 2] (hR has ⟨e,m,s,er⟩) 7)=some (.tup [],[some (.cells false (penR has e1 6)),some (.cells false (mCells { m with tt:=x })),some (.cells false (rdr s1 e1))],[oB (eR (nR (k+3)) 64 [.ptr 6 0,.int .i64 32]) 135 (hR has ⟨e,m,s,er⟩) (.str x) (hR has ⟨e,m,s1,e1⟩),oB (eR (nR (k+3)) 63 [.ptr 4 0,.int .i64 2]) 23 (hR has ⟨e,m,s,er⟩) (.bool true) (hR has ⟨e,m,s,er⟩)]):=by kernel_rfl
theorem rTn (k:Nat) (has e er:Int) (s:List UInt8) (m:Ms):ansM [4,5,6] (run1O Tryd.prog noPS (nR (k+4)) [300021,300034] [] [.bool false,.tup []] (mask 41) 200 41 [.ptr 4 0,.int .i64 2,.int .i64 32,.ptr 5 2] (hR has ⟨e,m,s,er⟩) 7)=some (.tup [],[some (.cells false (penR has e 6)),some (.cells false (mCells m)),some (.cells false (rdr s er))],[oB (eR (nR (k+3)) 63 [.ptr 4 0,.int .i64 2]) 23 (hR has ⟨e,m,s,er⟩) (.bool false) (hR has ⟨e,m,s,er⟩)]):=by kernel_rfl
theorem RT (k:Nat) (has:Int) (hb:onB has 2=true) (st:Rs){base:Nat}:(eR (nR (k+4)) 41 [.ptr 4 0,.int .i64 2,.int .i64 32,.ptr 5 2]).app base (hR has st)=some (.tup [],hR has (fdS .T st)):=by
 obtain ⟨e,m,s,er⟩:=st
 have h63:=fun base=>E63 (nR (k+3)) has 2 e m s er hb (base:=base)
 simp only [fdS,tkS]
 cases he:(e == 0) with
 | false =>
  rw [he] at h63
  simp only [cond_false]
  exact inlE_run (noPS_ok _) (ns:=[4,5,6]) (rTn k has e er s m) (allT_mk (oB_of (h63 _)) rfl) gl rfl rfl rfl rfl rfl rfl
 | true =>
  rw [he] at h63
  simp only [cond_true]
  exact inlE_run (noPS_ok _) (ns:=[4,5,6]) (rTy k has e er (takeR 32 s er).2.2.2 s (takeR 32 s er).2.2.1 m (takeR 32 s er).1) (allT_mk (oB_of (E64 (k+2) 32 s er rfl)) (allT_mk (oB_of (h63 _)) rfl)) gl rfl rfl rfl rfl rfl rfl
theorem rXy (k:Nat) (has e er e1:Int) (s s1:List UInt8) (m:Ms) (x:List UInt8):ansM [4,5,6] (run1O Tryd.prog noPS (nR (k+4)) [300021,300034] [] [.bool true,.tup [],.str x,.tup [.ptr 6 0,.agg (rdr s1 e1)]] (mask 41) 200 41 [.ptr 4 0,.int .i64 128,.int .i64 16,.ptr 5 8] (hR has ⟨e,m,s,er⟩) 7)=some (.tup [],[some (.cells false (penR has e1 6)),some (.cells false (mCells { m with tx:=x })),some (.cells false (rdr s1 e1))],[oB (eR (nR (k+3)) 64 [.ptr 6 0,.int .i64 16]) 135 (hR has ⟨e,m,s,er⟩) (.str x) (hR has ⟨e,m,s1,e1⟩),oB (eR (nR (k+3)) 63 [.ptr 4 0,.int .i64 128]) 23 (hR has ⟨e,m,s,er⟩) (.bool true) (hR has ⟨e,m,s,er⟩)]):=by kernel_rfl
theorem rXn (k:Nat) (has e er:Int) (s:List UInt8) (m:Ms):ansM [4,5,6] (run1O Tryd.prog noPS (nR (k+4)) [300021,300034] [] [.bool false,.tup []] (mask 41) 200 41 [.ptr 4 0,.int .i64 128,.int .i64 16,.ptr 5 8] (hR has ⟨e,m,s,er⟩) 7)=some (.tup [],[some (.cells false (penR has e 6)),some (.cells false (mCells m)),some (.cells false (rdr s er))],[oB (eR (nR (k+3)) 63 [.ptr 4 0,.int .i64 128]) 23 (hR has ⟨e,m,s,er⟩) (.bool false) (hR has ⟨e,m,s,er⟩)]):=by kernel_rfl
theorem RX (k:Nat) (has:Int) (hb:onB has 128=true) (st:Rs){base:Nat}:(eR (nR (k+4)) 41 [.ptr 4 0,.int .i64 128,.int .i64 16,.ptr 5 8]).app base (hR has st)=some (.tup [],hR has (fdS .X st)):=by
 obtain ⟨e,m,s,er⟩:=st
 have h63:=fun base=>E63 (nR (k+3)) has 128 e m s er hb (base:=base)
 simp only [fdS,tkS]
 cases he:(e == 0) with
 | false =>
  rw [he] at h63
  simp only [cond_false]
  exact inlE_run (noPS_ok _) (ns:=[4,5,6]) (rXn k has e er s m) (allT_mk (oB_of (h63 _)) rfl) gl rfl rfl rfl rfl rfl rfl
 | true =>
  rw [he] at h63
  simp only [cond_true]
  exact inlE_run (noPS_ok _) (ns:=[4,5,6]) (rXy k has e er (takeR 16 s er).2.2.2 s (takeR 16 s er).2.2.1 m (takeR 16 s er).1) (allT_mk (oB_of (E64 (k+2) 16 s er rfl)) (allT_mk (oB_of (h63 _)) rfl)) gl rfl rfl rfl rfl rfl rfl
theorem rSy (k:Nat) (has e er e1:Int) (s s1:List UInt8) (m:Ms) (x:List UInt8):ansM [4,5,6] (run1O Tryd.prog noPS (nR (k+4)) [300021,300034] [] [.bool true,.tup [],.str x,.tup [.ptr 6 0,.agg (rdr s1 e1)]] (mask 41) 200 41 [.ptr 4 0,.int .i64 4096,.int .i64 64,.ptr 5 16] (hR has ⟨e,m,s,er⟩) 7)=some (.tup [],[some (.cells false (penR has e1 6)),some (.cells false (mCells { m with sg:=x })),some (.cells false (rdr s1 e1))],[oB (eR (nR (k+3)) 64 [.ptr 6 0,.int .i64 64]) 135 (hR has ⟨e,m,s,er⟩) (.str x) (hR has ⟨e,m,s1,e1⟩),oB (eR (nR (k+3)) 63 [.ptr 4 0,.int .i64 4096]) 23 (hR has ⟨e,m,s,er⟩) (.bool true) (hR has ⟨e,m,s,er⟩)]):=by kernel_rfl
theorem rSn (k:Nat) (has e er:Int) (s:List UInt8) (m:Ms):ansM [4,5,6] (run1O Tryd.prog noPS (nR (k+4)) [300021,300034] [] [.bool false,.tup []] (mask 41) 200 41 [.ptr 4 0,.int .i64 4096,.int .i64 64,.ptr 5 16] (hR has ⟨e,m,s,er⟩) 7)=some (.tup [],[some (.cells false (penR has e 6)),some (.cells false (mCells m)),some (.cells false (rdr s er))],[oB (eR (nR (k+3)) 63 [.ptr 4 0,.int .i64 4096]) 23 (hR has ⟨e,m,s,er⟩) (.bool false) (hR has ⟨e,m,s,er⟩)]):=by kernel_rfl
theorem RS (k:Nat) (has:Int) (hb:onB has 4096=true) (st:Rs){base:Nat}:(eR (nR (k+4)) 41 [.ptr 4 0,.int .i64 4096,.int .i64 64,.ptr 5 16]).app base (hR has st)=some (.tup [],hR has (fdS .S st)):=by
 obtain ⟨e,m,s,er⟩:=st
 have h63:=fun base=>E63 (nR (k+3)) has 4096 e m s er hb (base:=base)
 simp only [fdS,tkS]
 cases he:(e == 0) with
 | false =>
  rw [he] at h63
  simp only [cond_false]
  exact inlE_run (noPS_ok _) (ns:=[4,5,6]) (rSn k has e er s m) (allT_mk (oB_of (h63 _)) rfl) gl rfl rfl rfl rfl rfl rfl
 | true =>
  rw [he] at h63
  simp only [cond_true]
  exact inlE_run (noPS_ok _) (ns:=[4,5,6]) (rSy k has e er (takeR 64 s er).2.2.2 s (takeR 64 s er).2.2.1 m (takeR 64 s er).1) (allT_mk (oB_of (E64 (k+2) 64 s er rfl)) (allT_mk (oB_of (h63 _)) rfl)) gl rfl rfl rfl rfl rfl rfl
theorem rIy (k:Nat) (has e er e1:Int) (s s1:List UInt8) (m:Ms) (y:UInt32):ansM [4,5,6] (run1O Tryd.prog noPS (nR (k+4)) [300025,300034] [] [.bool true,.tup [],.u32 y,.tup [.ptr 6 0,.agg (rdr s1 e1)]] (mask 42) 200 42 [.ptr 4 0,.int .i64 4,.ptr 5 3,.mth 43 6 0,.fn 44 []] (hR has ⟨e,m,s,er⟩) 7)=some (.tup [],[some (.cells false (penR has e1 6)),some (.cells false (mCells { m with ix:=y })),some (.cells false (rdr s1 e1))],[oB (eR (nR (k+3)) 43 [.ptr 6 0]) 103 (hR has ⟨e,m,s,er⟩) (.u32 y) (hR has ⟨e,m,s1,e1⟩),oB (eR (nR (k+3)) 63 [.ptr 4 0,.int .i64 4]) 23 (hR has ⟨e,m,s,er⟩) (.bool true) (hR has ⟨e,m,s,er⟩)]):=by kernel_rfl
theorem rIn (k:Nat) (has e er:Int) (s:List UInt8) (m:Ms):ansM [4,5,6] (run1O Tryd.prog noPS (nR (k+4)) [300025,300034] [] [.bool false,.tup []] (mask 42) 200 42 [.ptr 4 0,.int .i64 4,.ptr 5 3,.mth 43 6 0,.fn 44 []] (hR has ⟨e,m,s,er⟩) 7)=some (.tup [],[some (.cells false (penR has e 6)),some (.cells false (mCells m)),some (.cells false (rdr s er))],[oB (eR (nR (k+3)) 63 [.ptr 4 0,.int .i64 4]) 23 (hR has ⟨e,m,s,er⟩) (.bool false) (hR has ⟨e,m,s,er⟩)]):=by kernel_rfl
theorem RI (k:Nat) (has:Int) (hb:onB has 4=true) (st:Rs){base:Nat}:(eR (nR (k+4)) 42 [.ptr 4 0,.int .i64 4,.ptr 5 3,.mth 43 6 0,.fn 44 []]).app base (hR has st)=some (.tup [],hR has (fdS .I st)):=by
 obtain ⟨e,m,s,er⟩:=st
 have h63:=fun base=>E63 (nR (k+3)) has 4 e m s er hb (base:=base)
 simp only [fdS,tkS]
 cases he:(e == 0) with
 | false =>
  rw [he] at h63
  simp only [cond_false]
  exact inlE_run (noPS_ok _) (ns:=[4,5,6]) (rIn k has e er s m) (allT_mk (oB_of (h63 _)) rfl) gl rfl rfl rfl rfl rfl rfl
 | true =>
  rw [he] at h63
  simp only [cond_true]
  exact inlE_run (noPS_ok _) (ns:=[4,5,6]) (rIy k has e er (takeR 4 s er).2.2.2 s (takeR 4 s er).2.2.1 m (rd4 (takeR 4 s er).1)) (allT_mk (oB_of (E43 (k+1) s er rfl)) (allT_mk (oB_of (h63 _)) rfl)) gl rfl rfl rfl rfl rfl rfl
theorem rPy (k:Nat) (has e er e1:Int) (s s1:List UInt8) (m:Ms) (y:UInt32):ansM [4,5,6] (run1O Tryd.prog noPS (nR (k+4)) [300025,300034] [] [.bool true,.tup [],.u32 y,.tup [.ptr 6 0,.agg (rdr s1 e1)]] (mask 42) 200 42 [.ptr 4 0,.int .i64 8,.ptr 5 4,.mth 43 6 0,.fn 44 []] (hR has ⟨e,m,s,er⟩) 7)=some (.tup [],[some (.cells false (penR has e1 6)),some (.cells false (mCells { m with pe:=y })),some (.cells false (rdr s1 e1))],[oB (eR (nR (k+3)) 43 [.ptr 6 0]) 103 (hR has ⟨e,m,s,er⟩) (.u32 y) (hR has ⟨e,m,s1,e1⟩),oB (eR (nR (k+3)) 63 [.ptr 4 0,.int .i64 8]) 23 (hR has ⟨e,m,s,er⟩) (.bool true) (hR has ⟨e,m,s,er⟩)]):=by kernel_rfl
theorem rPn (k:Nat) (has e er:Int) (s:List UInt8) (m:Ms):ansM [4,5,6] (run1O Tryd.prog noPS (nR (k+4)) [300025,300034] [] [.bool false,.tup []] (mask 42) 200 42 [.ptr 4 0,.int .i64 8,.ptr 5 4,.mth 43 6 0,.fn 44 []] (hR has ⟨e,m,s,er⟩) 7)=some (.tup [],[some (.cells false (penR has e 6)),some (.cells false (mCells m)),some (.cells false (rdr s er))],[oB (eR (nR (k+3)) 63 [.ptr 4 0,.int .i64 8]) 23 (hR has ⟨e,m,s,er⟩) (.bool false) (hR has ⟨e,m,s,er⟩)]):=by kernel_rfl
theorem RP (k:Nat) (has:Int) (hb:onB has 8=true) (st:Rs){base:Nat}:(eR (nR (k+4)) 42 [.ptr 4 0,.int .i64 8,.ptr 5 4,.mth 43 6 0,.fn 44 []]).app base (hR has st)=some (.tup [],hR has (fdS .P st)):=by
 obtain ⟨e,m,s,er⟩:=st
 have h63:=fun base=>E63 (nR (k+3)) has 8 e m s er hb (base:=base)
 simp only [fdS,tkS]
 cases he:(e == 0) with
 | false =>
  rw [he] at h63
  simp only [cond_false]
  exact inlE_run (noPS_ok _) (ns:=[4,5,6]) (rPn k has e er s m) (allT_mk (oB_of (h63 _)) rfl) gl rfl rfl rfl rfl rfl rfl
 | true =>
  rw [he] at h63
  simp only [cond_true]
  exact inlE_run (noPS_ok _) (ns:=[4,5,6]) (rPy k has e er (takeR 4 s er).2.2.2 s (takeR 4 s er).2.2.1 m (rd4 (takeR 4 s er).1)) (allT_mk (oB_of (E43 (k+1) s er rfl)) (allT_mk (oB_of (h63 _)) rfl)) gl rfl rfl rfl rfl rfl rfl
theorem rCy (k:Nat) (has e er e1:Int) (s s1:List UInt8) (m:Ms) (y:UInt64):ansM [4,5,6] (run1O Tryd.prog noPS (nR (k+4)) [300025,300034] [] [.bool true,.tup [],.u64 y,.tup [.ptr 6 0,.agg (rdr s1 e1)]] (mask 45) 200 45 [.ptr 4 0,.int .i64 16,.ptr 5 5,.mth 46 6 0,.fn 47 []] (hR has ⟨e,m,s,er⟩) 7)=some (.tup [],[some (.cells false (penR has e1 6)),some (.cells false (mCells { m with co:=y })),some (.cells false (rdr s1 e1))],[oB (inlE1 Tryd.prog (nR (k+3)) (mask 46) 200 46 [.ptr 6 0]) 103 (hR has ⟨e,m,s,er⟩) (.u64 y) (hR has ⟨e,m,s1,e1⟩),oB (eR (nR (k+3)) 63 [.ptr 4 0,.int .i64 16]) 23 (hR has ⟨e,m,s,er⟩) (.bool true) (hR has ⟨e,m,s,er⟩)]):=by kernel_rfl
theorem rCn (k:Nat) (has e er:Int) (s:List UInt8) (m:Ms):ansM [4,5,6] (run1O Tryd.prog noPS (nR (k+4)) [300025,300034] [] [.bool false,.tup []] (mask 45) 200 45 [.ptr 4 0,.int .i64 16,.ptr 5 5,.mth 46 6 0,.fn 47 []] (hR has ⟨e,m,s,er⟩) 7)=some (.tup [],[some (.cells false (penR has e 6)),some (.cells false (mCells m)),some (.cells false (rdr s er))],[oB (eR (nR (k+3)) 63 [.ptr 4 0,.int .i64 16]) 23 (hR has ⟨e,m,s,er⟩) (.bool false) (hR has ⟨e,m,s,er⟩)]):=by kernel_rfl
theorem RC (k:Nat) (has:Int) (hb:onB has 16=true) (st:Rs){base:Nat}:(eR (nR (k+4)) 45 [.ptr 4 0,.int .i64 16,.ptr 5 5,.mth 46 6 0,.fn 47 []]).app base (hR has st)=some (.tup [],hR has (fdS .C st)):=by
 obtain ⟨e,m,s,er⟩:=st
 have h63:=fun base=>E63 (nR (k+3)) has 16 e m s er hb (base:=base)
 simp only [fdS,tkS]
 cases he:(e == 0) with
 | false =>
  rw [he] at h63
  simp only [cond_false]
  exact inlE_run (noPS_ok _) (ns:=[4,5,6]) (rCn k has e er s m) (allT_mk (oB_of (h63 _)) rfl) gl rfl rfl rfl rfl rfl rfl
 | true =>
  rw [he] at h63
  simp only [cond_true]
  exact inlE_run (noPS_ok _) (ns:=[4,5,6]) (rCy k has e er (takeR 8 s er).2.2.2 s (takeR 8 s er).2.2.1 m (rd8 (takeR 8 s er).1)) (allT_mk (oB_of (E46o (k+1) s er rfl)) (allT_mk (oB_of (h63 _)) rfl)) gl rfl rfl rfl rfl rfl rfl
theorem rBy (k:Nat) (has e er e1:Int) (s s1:List UInt8) (m:Ms) (y:UInt64):ansM [4,5,6] (run1O Tryd.prog noPS (nR (k+4)) [300025,300034] [] [.bool true,.tup [],.u64 y,.tup [.ptr 6 0,.agg (rdr s1 e1)]] (mask 45) 200 45 [.ptr 4 0,.int .i64 32,.ptr 5 6,.mth 46 6 0,.fn 47 []] (hR has ⟨e,m,s,er⟩) 7)=some (.tup [],[some (.cells false (penR has e1 6)),some (.cells false (mCells { m with ba:=y })),some (.cells false (rdr s1 e1))],[oB (inlE1 Tryd.prog (nR (k+3)) (mask 46) 200 46 [.ptr 6 0]) 103 (hR has ⟨e,m,s,er⟩) (.u64 y) (hR has ⟨e,m,s1,e1⟩),oB (eR (nR (k+3)) 63 [.ptr 4 0,.int .i64 32]) 23 (hR has ⟨e,m,s,er⟩) (.bool true) (hR has ⟨e,m,s,er⟩)]):=by kernel_rfl
theorem rBn (k:Nat) (has e er:Int) (s:List UInt8) (m:Ms):ansM [4,5,6] (run1O Tryd.prog noPS (nR (k+4)) [300025,300034] [] [.bool false,.tup []] (mask 45) 200 45 [.ptr 4 0,.int .i64 32,.ptr 5 6,.mth 46 6 0,.fn 47 []] (hR has ⟨e,m,s,er⟩) 7)=some (.tup [],[some (.cells false (penR has e 6)),some (.cells false (mCells m)),some (.cells false (rdr s er))],[oB (eR (nR (k+3)) 63 [.ptr 4 0,.int .i64 32]) 23 (hR has ⟨e,m,s,er⟩) (.bool false) (hR has ⟨e,m,s,er⟩)]):=by kernel_rfl
theorem RB (k:Nat) (has:Int) (hb:onB has 32=true) (st:Rs){base:Nat}:(eR (nR (k+4)) 45 [.ptr 4 0,.int .i64 32,.ptr 5 6,.mth 46 6 0,.fn 47 []]).app base (hR has st)=some (.tup [],hR has (fdS .B st)):=by
 obtain ⟨e,m,s,er⟩:=st
 have h63:=fun base=>E63 (nR (k+3)) has 32 e m s er hb (base:=base)
 simp only [fdS,tkS]
 cases he:(e == 0) with
 | false =>
  rw [he] at h63
  simp only [cond_false]
  exact inlE_run (noPS_ok _) (ns:=[4,5,6]) (rBn k has e er s m) (allT_mk (oB_of (h63 _)) rfl) gl rfl rfl rfl rfl rfl rfl
 | true =>
  rw [he] at h63
  simp only [cond_true]
  exact inlE_run (noPS_ok _) (ns:=[4,5,6]) (rBy k has e er (takeR 8 s er).2.2.2 s (takeR 8 s er).2.2.1 m (rd8 (takeR 8 s er).1)) (allT_mk (oB_of (E46o (k+1) s er rfl)) (allT_mk (oB_of (h63 _)) rfl)) gl rfl rfl rfl rfl rfl rfl
theorem rVy (k:Nat) (has e er e1:Int) (s s1:List UInt8) (m:Ms) (y:UInt64):ansM [4,5,6] (run1O Tryd.prog noPS (nR (k+4)) [300025,300034] [] [.bool true,.tup [],.u64 y,.tup [.ptr 6 0,.agg (rdr s1 e1)]] (mask 45) 200 45 [.ptr 4 0,.int .i64 64,.ptr 5 7,.mth 46 6 0,.fn 47 []] (hR has ⟨e,m,s,er⟩) 7)=some (.tup [],[some (.cells false (penR has e1 6)),some (.cells false (mCells { m with ve:=y })),some (.cells false (rdr s1 e1))],[oB (inlE1 Tryd.prog (nR (k+3)) (mask 46) 200 46 [.ptr 6 0]) 103 (hR has ⟨e,m,s,er⟩) (.u64 y) (hR has ⟨e,m,s1,e1⟩),oB (eR (nR (k+3)) 63 [.ptr 4 0,.int .i64 64]) 23 (hR has ⟨e,m,s,er⟩) (.bool true) (hR has ⟨e,m,s,er⟩)]):=by kernel_rfl
theorem rVn (k:Nat) (has e er:Int) (s:List UInt8) (m:Ms):ansM [4,5,6] (run1O Tryd.prog noPS (nR (k+4)) [300025,300034] [] [.bool false,.tup []] (mask 45) 200 45 [.ptr 4 0,.int .i64 64,.ptr 5 7,.mth 46 6 0,.fn 47 []] (hR has ⟨e,m,s,er⟩) 7)=some (.tup [],[some (.cells false (penR has e 6)),some (.cells false (mCells m)),some (.cells false (rdr s er))],[oB (eR (nR (k+3)) 63 [.ptr 4 0,.int .i64 64]) 23 (hR has ⟨e,m,s,er⟩) (.bool false) (hR has ⟨e,m,s,er⟩)]):=by kernel_rfl
theorem RV (k:Nat) (has:Int) (hb:onB has 64=true) (st:Rs){base:Nat}:(eR (nR (k+4)) 45 [.ptr 4 0,.int .i64 64,.ptr 5 7,.mth 46 6 0,.fn 47 []]).app base (hR has st)=some (.tup [],hR has (fdS .V st)):=by
 obtain ⟨e,m,s,er⟩:=st
 have h63:=fun base=>E63 (nR (k+3)) has 64 e m s er hb (base:=base)
 simp only [fdS,tkS]
 cases he:(e == 0) with
 | false =>
  rw [he] at h63
  simp only [cond_false]
  exact inlE_run (noPS_ok _) (ns:=[4,5,6]) (rVn k has e er s m) (allT_mk (oB_of (h63 _)) rfl) gl rfl rfl rfl rfl rfl rfl
 | true =>
  rw [he] at h63
  simp only [cond_true]
  exact inlE_run (noPS_ok _) (ns:=[4,5,6]) (rVy k has e er (takeR 8 s er).2.2.2 s (takeR 8 s er).2.2.1 m (rd8 (takeR 8 s er).1)) (allT_mk (oB_of (E46o (k+1) s er rfl)) (allT_mk (oB_of (h63 _)) rfl)) gl rfl rfl rfl rfl rfl rfl
theorem rKy (k:Nat) (has e er e1:Int) (s s1:List UInt8) (m:Ms) (y:Int):ansM [4,5,6] (run1O Tryd.prog noPS (nR (k+4)) [300025,300034] [] [.bool true,.tup [],.int .u16 y,.tup [.ptr 6 0,.agg (rdr s1 e1)]] (mask 49) 200 49 [.ptr 4 0,.int .i64 512,.ptr 5 13,.mth 50 6 0,.fn 51 []] (hR has ⟨e,m,s,er⟩) 7)=some (.tup [],[some (.cells false (penR has e1 6)),some (.cells false (mCells { m with cd:=y })),some (.cells false (rdr s1 e1))],[oB (eR (nR (k+3)) 50 [.ptr 6 0]) 103 (hR has ⟨e,m,s,er⟩) (.int .u16 y) (hR has ⟨e,m,s1,e1⟩),oB (eR (nR (k+3)) 63 [.ptr 4 0,.int .i64 512]) 23 (hR has ⟨e,m,s,er⟩) (.bool true) (hR has ⟨e,m,s,er⟩)]):=by kernel_rfl
theorem rKn (k:Nat) (has e er:Int) (s:List UInt8) (m:Ms):ansM [4,5,6] (run1O Tryd.prog noPS (nR (k+4)) [300025,300034] [] [.bool false,.tup []] (mask 49) 200 49 [.ptr 4 0,.int .i64 512,.ptr 5 13,.mth 50 6 0,.fn 51 []] (hR has ⟨e,m,s,er⟩) 7)=some (.tup [],[some (.cells false (penR has e 6)),some (.cells false (mCells m)),some (.cells false (rdr s er))],[oB (eR (nR (k+3)) 63 [.ptr 4 0,.int .i64 512]) 23 (hR has ⟨e,m,s,er⟩) (.bool false) (hR has ⟨e,m,s,er⟩)]):=by kernel_rfl
theorem RK (k:Nat) (has:Int) (hb:onB has 512=true) (st:Rs){base:Nat}:(eR (nR (k+4)) 49 [.ptr 4 0,.int .i64 512,.ptr 5 13,.mth 50 6 0,.fn 51 []]).app base (hR has st)=some (.tup [],hR has (fdS .K st)):=by
 obtain ⟨e,m,s,er⟩:=st
 have h63:=fun base=>E63 (nR (k+3)) has 512 e m s er hb (base:=base)
 simp only [fdS,tkS]
 cases he:(e == 0) with
 | false =>
  rw [he] at h63
  simp only [cond_false]
  exact inlE_run (noPS_ok _) (ns:=[4,5,6]) (rKn k has e er s m) (allT_mk (oB_of (h63 _)) rfl) gl rfl rfl rfl rfl rfl rfl
 | true =>
  rw [he] at h63
  simp only [cond_true]
  exact inlE_run (noPS_ok _) (ns:=[4,5,6]) (rKy k has e er (takeR 2 s er).2.2.2 s (takeR 2 s er).2.2.1 m (rd2 (takeR 2 s er).1)) (allT_mk (oB_of (E50 (k+1) s er rfl)) (allT_mk (oB_of (h63 _)) rfl)) gl rfl rfl rfl rfl rfl rfl
theorem rNn (k:Nat) (has e er:Int) (s:List UInt8) (m:Ms):ansM [4,5,6] (run1O Tryd.prog noPS (nR (k+4)) [300062,300015,300049,29,33,42] [] [.bool false,.tup []] (mask 52) 200 52 [.ptr 4 0,.int .i64 1024,.int .i64 64,.ptr 5 14] (hR has ⟨e,m,s,er⟩) 7)=some (.tup [],[some (.cells false (penR has e 6)),some (.cells false (mCells m)),some (.cells false (rdr s er))],[oB (eR (nR (k+3)) 63 [.ptr 4 0,.int .i64 1024]) 23 (hR has ⟨e,m,s,er⟩) (.bool false) (hR has ⟨e,m,s,er⟩)]):=by kernel_rfl
theorem rNl (k:Nat) (has e er e1:Int) (s s1:List UInt8) (m:Ms) (l:Int):ansM [4,5,6] (run1O Tryd.prog noPS (nR (k+4)) [300062,300015,300049,29,33,42] [true,true] [.bool true,.tup [],.int .u16 l,.tup [.ptr 6 0,.agg (rdr s1 e1)]] (mask 52) 200 52 [.ptr 4 0,.int .i64 1024,.int .i64 64,.ptr 5 14] (hR has ⟨e,m,s,er⟩) 7)=some (.tup [],[some (.cells false (penR has 4 6)),some (.cells false (mCells m)),some (.cells false (rdr s1 e1))],[decide (64 < IntKind.wrap .i64 l),e1 == 0,oB (eR (nR (k+3)) 50 [.ptr 6 0]) 127 (hR has ⟨e,m,s,er⟩) (.int .u16 l) (hR has ⟨e,m,s1,e1⟩),oB (eR (nR (k+3)) 63 [.ptr 4 0,.int .i64 1024]) 23 (hR has ⟨e,m,s,er⟩) (.bool true) (hR has ⟨e,m,s,er⟩)]):=by kernel_rfl
theorem rNf (k:Nat) (has e er e1:Int) (s s1:List UInt8) (m:Ms) (l:Int):ansM [4,5,6] (run1O Tryd.prog noPS (nR (k+4)) [300062,300015,300049,29,33,42] [false,false] [.bool true,.tup [],.int .u16 l,.tup [.ptr 6 0,.agg (rdr s1 e1)]] (mask 52) 200 52 [.ptr 4 0,.int .i64 1024,.int .i64 64,.ptr 5 14] (hR has ⟨e,m,s,er⟩) 7)=some (.tup [],[some (.cells false (penR has e1 6)),some (.cells false (mCells m)),some (.cells false (rdr s1 e1))],[!(e1 == 0),!(e1 == 0),oB (eR (nR (k+3)) 50 [.ptr 6 0]) 127 (hR has ⟨e,m,s,er⟩) (.int .u16 l) (hR has ⟨e,m,s1,e1⟩),oB (eR (nR (k+3)) 63 [.ptr 4 0,.int .i64 1024]) 23 (hR has ⟨e,m,s,er⟩) (.bool true) (hR has ⟨e,m,s,er⟩)]):=by kernel_rfl
theorem rNy (k:Nat) (has e er e1:Int) (s s1:List UInt8) (m:Ms) (e2:Int) (s2 x:List UInt8) (l:Int):ansM [4,5,6] (run1O Tryd.prog noPS (nR (k+4)) [300062,300015,300049,29,33,42] [true,false,true] [.bool true,.tup [],.int .u16 l,.tup [.ptr 6 0,.agg (rdr s1 e1)],.str x,.tup [.ptr 6 0,.agg (rdr s2 e2)]] (mask 52) 200 52 [.ptr 4 0,.int .i64 1024,.int .i64 64,.ptr 5 14] (hR has ⟨e,m,s,er⟩) 7)=some (.tup [],[some (.cells false (penR has e2 6)),some (.cells false (mCells { m with te:=x })),some (.cells false (rdr s2 e2))],[oB (eR (nR (k+3)) 64 [.ptr 6 0,.int .i64 (IntKind.wrap .i64 l)]) 391 (hR has ⟨e1,m,s1,e1⟩) (.str x) (hR has ⟨e1,m,s2,e2⟩),e1 == 0,!(decide (64 < IntKind.wrap .i64 l)),e1 == 0,oB (eR (nR (k+3)) 50 [.ptr 6 0]) 127 (hR has ⟨e,m,s,er⟩) (.int .u16 l) (hR has ⟨e,m,s1,e1⟩),oB (eR (nR (k+3)) 63 [.ptr 4 0,.int .i64 1024]) 23 (hR has ⟨e,m,s,er⟩) (.bool true) (hR has ⟨e,m,s,er⟩)]):=by kernel_rfl
theorem RN (k:Nat) (has:Int) (hb:onB has 1024=true) (st:Rs){base:Nat}:(eR (nR (k+4)) 52 [.ptr 4 0,.int .i64 1024,.int .i64 64,.ptr 5 14]).app base (hR has st)=some (.tup [],hR has (fdS .N st)):=by
 obtain ⟨e,m,s,er⟩:=st
 have h63:=fun base=>E63 (nR (k+3)) has 1024 e m s er hb (base:=base)
 simp only [fdS,txS]
 cases he:(e == 0) with
 | false =>
  rw [he] at h63
  simp only [cond_false]
  exact inlE_run (noPS_ok _) (ns:=[4,5,6]) (rNn k has e er s m) (allT_mk (oB_of (h63 _)) rfl) gl rfl rfl rfl rfl rfl rfl
 | true =>
  rw [he] at h63
  simp only [cond_true]
  have h50:=fun base=>E50 (k+1) s er (H:=hR has ⟨e,m,s,er⟩) (r:=6) (base:=base) rfl
  obtain ⟨p0,p1⟩:=rd2_in s er
  generalize takeR 2 s er=z at h50 p0 p1 ⊢
  obtain ⟨x,b,s1,e1⟩:=z
  simp only at h50 p0 p1 ⊢
  have hw:=wrap_in p0 p1
  generalize rd2 x=l at h50 p0 p1 hw ⊢
  cases h1:(e1 == 0) with
  | false =>
   simp only [cond_false]
   exact inlE_run (noPS_ok _) (ns:=[4,5,6]) (rNf k has e er e1 s s1 m l) (allT_mk (by rw [h1]; rfl) (allT_mk (by rw [h1]; rfl) (allT_mk (oB_of (h50 _)) (allT_mk (oB_of (h63 _)) rfl)))) gl rfl rfl rfl rfl rfl rfl
  | true =>
   simp only [cond_true]
   cases hl:decide (64 < l) with
   | true =>
    simp only [cond_true]
    exact inlE_run (noPS_ok _) (ns:=[4,5,6]) (rNl k has e er e1 s s1 m l) (allT_mk (by rw [hw]; exact hl) (allT_mk h1 (allT_mk (oB_of (h50 _)) (allT_mk (oB_of (h63 _)) rfl)))) gl rfl rfl rfl rfl rfl rfl
   | false =>
    simp only [cond_false]
    exact inlE_run (noPS_ok _) (ns:=[4,5,6]) (rNy k has e er e1 s s1 m (takeR l.toNat s1 e1).2.2.2 (takeR l.toNat s1 e1).2.2.1 (takeR l.toNat s1 e1).1 l) (allT_mk (by rw [hw]; exact oB_of (E64b (k+2) l p0 s1 e1 rfl)) (allT_mk h1 (allT_mk (by rw [hw,hl]; rfl) (allT_mk h1 (allT_mk (oB_of (h50 _)) (allT_mk (oB_of (h63 _)) rfl)))))) gl rfl rfl rfl rfl rfl rfl
theorem rDn (k:Nat) (has e er:Int) (s:List UInt8) (m:Ms):ansM [4,5,6] (run1O Tryd.prog noPS (nR (k+4)) [300062,300015,300049,29,33,42] [] [.bool false,.tup []] (mask 52) 200 52 [.ptr 4 0,.int .i64 2048,.int .i64 32768,.ptr 5 15] (hR has ⟨e,m,s,er⟩) 7)=some (.tup [],[some (.cells false (penR has e 6)),some (.cells false (mCells m)),some (.cells false (rdr s er))],[oB (eR (nR (k+3)) 63 [.ptr 4 0,.int .i64 2048]) 23 (hR has ⟨e,m,s,er⟩) (.bool false) (hR has ⟨e,m,s,er⟩)]):=by kernel_rfl
theorem rDl (k:Nat) (has e er e1:Int) (s s1:List UInt8) (m:Ms) (l:Int):ansM [4,5,6] (run1O Tryd.prog noPS (nR (k+4)) [300062,300015,300049,29,33,42] [true,true] [.bool true,.tup [],.int .u16 l,.tup [.ptr 6 0,.agg (rdr s1 e1)]] (mask 52) 200 52 [.ptr 4 0,.int .i64 2048,.int .i64 32768,.ptr 5 15] (hR has ⟨e,m,s,er⟩) 7)=some (.tup [],[some (.cells false (penR has 4 6)),some (.cells false (mCells m)),some (.cells false (rdr s1 e1))],[decide (32768 < IntKind.wrap .i64 l),e1 == 0,oB (eR (nR (k+3)) 50 [.ptr 6 0]) 127 (hR has ⟨e,m,s,er⟩) (.int .u16 l) (hR has ⟨e,m,s1,e1⟩),oB (eR (nR (k+3)) 63 [.ptr 4 0,.int .i64 2048]) 23 (hR has ⟨e,m,s,er⟩) (.bool true) (hR has ⟨e,m,s,er⟩)]):=by kernel_rfl
theorem rDf (k:Nat) (has e er e1:Int) (s s1:List UInt8) (m:Ms) (l:Int):ansM [4,5,6] (run1O Tryd.prog noPS (nR (k+4)) [300062,300015,300049,29,33,42] [false,false] [.bool true,.tup [],.int .u16 l,.tup [.ptr 6 0,.agg (rdr s1 e1)]] (mask 52) 200 52 [.ptr 4 0,.int .i64 2048,.int .i64 32768,.ptr 5 15] (hR has ⟨e,m,s,er⟩) 7)=some (.tup [],[some (.cells false (penR has e1 6)),some (.cells false (mCells m)),some (.cells false (rdr s1 e1))],[!(e1 == 0),!(e1 == 0),oB (eR (nR (k+3)) 50 [.ptr 6 0]) 127 (hR has ⟨e,m,s,er⟩) (.int .u16 l) (hR has ⟨e,m,s1,e1⟩),oB (eR (nR (k+3)) 63 [.ptr 4 0,.int .i64 2048]) 23 (hR has ⟨e,m,s,er⟩) (.bool true) (hR has ⟨e,m,s,er⟩)]):=by kernel_rfl
theorem rDy (k:Nat) (has e er e1:Int) (s s1:List UInt8) (m:Ms) (e2:Int) (s2 x:List UInt8) (l:Int):ansM [4,5,6] (run1O Tryd.prog noPS (nR (k+4)) [300062,300015,300049,29,33,42] [true,false,true] [.bool true,.tup [],.int .u16 l,.tup [.ptr 6 0,.agg (rdr s1 e1)],.str x,.tup [.ptr 6 0,.agg (rdr s2 e2)]] (mask 52) 200 52 [.ptr 4 0,.int .i64 2048,.int .i64 32768,.ptr 5 15] (hR has ⟨e,m,s,er⟩) 7)=some (.tup [],[some (.cells false (penR has e2 6)),some (.cells false (mCells { m with da:=x })),some (.cells false (rdr s2 e2))],[oB (eR (nR (k+3)) 64 [.ptr 6 0,.int .i64 (IntKind.wrap .i64 l)]) 391 (hR has ⟨e1,m,s1,e1⟩) (.str x) (hR has ⟨e1,m,s2,e2⟩),e1 == 0,!(decide (32768 < IntKind.wrap .i64 l)),e1 == 0,oB (eR (nR (k+3)) 50 [.ptr 6 0]) 127 (hR has ⟨e,m,s,er⟩) (.int .u16 l) (hR has ⟨e,m,s1,e1⟩),oB (eR (nR (k+3)) 63 [.ptr 4 0,.int .i64 2048]) 23 (hR has ⟨e,m,s,er⟩) (.bool true) (hR has ⟨e,m,s,er⟩)]):=by kernel_rfl
theorem RD (k:Nat) (has:Int) (hb:onB has 2048=true) (st:Rs){base:Nat}:(eR (nR (k+4)) 52 [.ptr 4 0,.int .i64 2048,.int .i64 32768,.ptr 5 15]).app base (hR has st)=some (.tup [],hR has (fdS .D st)):=by
 obtain ⟨e,m,s,er⟩:=st
 have h63:=fun base=>E63 (nR (k+3)) has 2048 e m s er hb (base:=base)
 simp only [fdS,txS]
 cases he:(e == 0) with
 | false =>
  rw [he] at h63
  simp only [cond_false]
  exact inlE_run (noPS_ok _) (ns:=[4,5,6]) (rDn k has e er s m) (allT_mk (oB_of (h63 _)) rfl) gl rfl rfl rfl rfl rfl rfl
 | true =>
  rw [he] at h63
  simp only [cond_true]
  have h50:=fun base=>E50 (k+1) s er (H:=hR has ⟨e,m,s,er⟩) (r:=6) (base:=base) rfl
  obtain ⟨p0,p1⟩:=rd2_in s er
  generalize takeR 2 s er=z at h50 p0 p1 ⊢
  obtain ⟨x,b,s1,e1⟩:=z
  simp only at h50 p0 p1 ⊢
  have hw:=wrap_in p0 p1
  generalize rd2 x=l at h50 p0 p1 hw ⊢
  cases h1:(e1 == 0) with
  | false =>
   simp only [cond_false]
   exact inlE_run (noPS_ok _) (ns:=[4,5,6]) (rDf k has e er e1 s s1 m l) (allT_mk (by rw [h1]; rfl) (allT_mk (by rw [h1]; rfl) (allT_mk (oB_of (h50 _)) (allT_mk (oB_of (h63 _)) rfl)))) gl rfl rfl rfl rfl rfl rfl
  | true =>
   simp only [cond_true]
   cases hl:decide (32768 < l) with
   | true =>
    simp only [cond_true]
    exact inlE_run (noPS_ok _) (ns:=[4,5,6]) (rDl k has e er e1 s s1 m l) (allT_mk (by rw [hw]; exact hl) (allT_mk h1 (allT_mk (oB_of (h50 _)) (allT_mk (oB_of (h63 _)) rfl)))) gl rfl rfl rfl rfl rfl rfl
   | false =>
    simp only [cond_false]
    exact inlE_run (noPS_ok _) (ns:=[4,5,6]) (rDy k has e er e1 s s1 m (takeR l.toNat s1 e1).2.2.2 (takeR l.toNat s1 e1).2.2.1 (takeR l.toNat s1 e1).1 l) (allT_mk (by rw [hw]; exact oB_of (E64b (k+2) l p0 s1 e1 rfl)) (allT_mk h1 (allT_mk (by rw [hw,hl]; rfl) (allT_mk h1 (allT_mk (oB_of (h50 _)) (allT_mk (oB_of (h63 _)) rfl)))))) gl rfl rfl rfl rfl rfl rfl
theorem r69f (k:Nat) (has e er e1:Int) (s s1:List UInt8) (m:Ms) (v:UInt8):ansM [4,5,6] (run1O Tryd.prog noPS (nR (k+3)) [300009,300034,300046,300051,300060,22,28,40] [true] [.u8 v,.tup [.ptr 6 0,.agg (rdr s1 e1)]] (mask 69) 200 69 [.ptr 4 0,.ptr 5 9] (hR has ⟨e,m,s,er⟩) 7)=some (.tup [],[some (.cells false (penR has e1 6)),some (.cells false (mCells m)),some (.cells false (rdr s1 e1))],[e1 != 0,oB (eR (nR (k+2)) 79 [.ptr 6 0]) 39 (hR has ⟨e,m,s,er⟩) (.u8 v) (hR has ⟨e,m,s1,e1⟩)]):=by kernel_rfl
theorem r69x (k:Nat) (has e er e1:Int) (s s1:List UInt8) (m:Ms) (v:UInt8):ansM [4,5,6] (run1O Tryd.prog noPS (nR (k+3)) [300009,300034,300046,300051,300060,22,28,40] [false,false,false] [.u8 v,.tup [.ptr 6 0,.agg (rdr s1 e1)]] (mask 69) 200 69 [.ptr 4 0,.ptr 5 9] (hR has ⟨e,m,s,er⟩) 7)=some (.tup [],[some (.cells false (penR has 8 6)),some (.cells false (mCells m)),some (.cells false (rdr s1 e1))],[!(v == 6),!(v == 4),!(e1 != 0),oB (eR (nR (k+2)) 79 [.ptr 6 0]) 39 (hR has ⟨e,m,s,er⟩) (.u8 v) (hR has ⟨e,m,s1,e1⟩)]):=by kernel_rfl
theorem r69a (k:Nat) (has e er e1:Int) (s s1:List UInt8) (m:Ms) (e2 e3:Int) (s2 s3:List UInt8) (v:UInt8) (y:UInt32) (l:Int):ansM [4,5,6] (run1O Tryd.prog noPS (nR (k+3)) [300009,300034,300046,300051,300060,22,28,40] [false,true] [.u8 v,.tup [.ptr 6 0,.agg (rdr s1 e1)],.u32 y,.tup [.ptr 6 0,.agg (rdr s2 e2)],.int .u16 l,.tup [.ptr 6 0,.agg (rdr s3 e3)]] (mask 69) 200 69 [.ptr 4 0,.ptr 5 9] (hR has ⟨e,m,s,er⟩) 7)=some (.tup [],[some (.cells false (penR has e3 6)),some (.cells false (mCells (lo4 m y l))),some (.cells false (rdr s3 e3))],[oB (eR (nR (k+2)) 50 [.ptr 6 0]) 319 (hR has ⟨e1,{ m with lo:=y.toUInt64 },s2,e2⟩) (.int .u16 l) (hR has ⟨e1,{ m with lo:=y.toUInt64 },s3,e3⟩),oB (eR (nR (k+2)) 43 [.ptr 6 0]) 231 (hR has ⟨e1,m,s1,e1⟩) (.u32 y) (hR has ⟨e1,m,s2,e2⟩),v == 4,!(e1 != 0),oB (eR (nR (k+2)) 79 [.ptr 6 0]) 39 (hR has ⟨e,m,s,er⟩) (.u8 v) (hR has ⟨e,m,s1,e1⟩)]):=by kernel_rfl
theorem r69b (k:Nat) (has e er e1:Int) (s s1:List UInt8) (m:Ms) (e2 e3 e4:Int) (s2 s3 s4:List UInt8) (v:UInt8) (y z:UInt64) (l:Int):ansM [4,5,6] (run1O Tryd.prog noPS (nR (k+3)) [300009,300034,300046,300051,300060,22,28,40] [false,false,true] [.u8 v,.tup [.ptr 6 0,.agg (rdr s1 e1)],.u64 y,.tup [.ptr 6 0,.agg (rdr s2 e2)],.u64 z,.tup [.ptr 6 0,.agg (rdr s3 e3)],.int .u16 l,.tup [.ptr 6 0,.agg (rdr s4 e4)]] (mask 69) 200 69 [.ptr 4 0,.ptr 5 9] (hR has ⟨e,m,s,er⟩) 7)=some (.tup [],[some (.cells false (penR has e4 6)),some (.cells false (mCells (lo6 m y z l))),some (.cells false (rdr s4 e4))],[oB (eR (nR (k+2)) 50 [.ptr 6 0]) 367 (hR has ⟨e1,{ m with v6:=true,hi:=y,lo:=z },s3,e3⟩) (.int .u16 l) (hR has ⟨e1,{ m with v6:=true,hi:=y,lo:=z },s4,e4⟩),oB (inlE1 Tryd.prog (nR (k+2)) (mask 46) 200 46 [.ptr 6 0]) 287 (hR has ⟨e1,m,s2,e2⟩) (.u64 z) (hR has ⟨e1,m,s3,e3⟩),oB (inlE1 Tryd.prog (nR (k+2)) (mask 46) 200 46 [.ptr 6 0]) 247 (hR has ⟨e1,m,s1,e1⟩) (.u64 y) (hR has ⟨e1,m,s2,e2⟩),v == 6,!(v == 4),!(e1 != 0),oB (eR (nR (k+2)) 79 [.ptr 6 0]) 39 (hR has ⟨e,m,s,er⟩) (.u8 v) (hR has ⟨e,m,s1,e1⟩)]):=by kernel_rfl
theorem R69 (k:Nat) (has e er:Int) (m:Ms) (s:List UInt8){base:Nat}:(eR (nR (k+3)) 69 [.ptr 4 0,.ptr 5 9]).app base (hR has ⟨e,m,s,er⟩)=some (.tup [],hR has (rdE1 m (rdB (takeR 1 s er).1) (takeR 1 s er).2.2.1 (takeR 1 s er).2.2.2)):=by
 have h79:=fun base=>E79 k s er (H:=hR has ⟨e,m,s,er⟩) (r:=6) (base:=base) rfl
 generalize takeR 1 s er=z at h79 ⊢
 obtain ⟨x,b,s1,e1⟩:=z
 simp only at h79 ⊢
 generalize rdB x=v at h79 ⊢
 unfold rdE1
 cases h1:(e1 != 0) with
 | true =>
  simp only [cond_true]
  exact inlE_run (noPS_ok _) (ns:=[4,5,6]) (r69f k has e er e1 s s1 m v) (allT_mk h1 (allT_mk (oB_of (h79 _)) rfl)) gl rfl rfl rfl rfl rfl rfl
 | false =>
  cases h4:(v == 4) with
  | true =>
   simp only [cond_true,cond_false]
   exact inlE_run (noPS_ok _) (ns:=[4,5,6]) (r69a k has e er e1 s s1 m (takeR 4 s1 e1).2.2.2 (takeR 2 (takeR 4 s1 e1).2.2.1 (takeR 4 s1 e1).2.2.2).2.2.2 (takeR 4 s1 e1).2.2.1 (takeR 2 (takeR 4 s1 e1).2.2.1 (takeR 4 s1 e1).2.2.2).2.2.1 v _ _) (allT_mk (oB_of (E50 k (takeR 4 s1 e1).2.2.1 (takeR 4 s1 e1).2.2.2 rfl)) (allT_mk (oB_of (E43 k s1 e1 rfl)) (allT_mk h4 (allT_mk (by rw [h1]; rfl) (allT_mk (oB_of (h79 _)) rfl))))) gl rfl rfl rfl rfl rfl rfl
  | false =>
   cases h6:(v == 6) with
   | true =>
    simp only [cond_true,cond_false]
    exact inlE_run (noPS_ok _) (ns:=[4,5,6]) (r69b k has e er e1 s s1 m (takeR 8 s1 e1).2.2.2 (takeR 8 (takeR 8 s1 e1).2.2.1 (takeR 8 s1 e1).2.2.2).2.2.2 (takeR 2 (takeR 8 (takeR 8 s1 e1).2.2.1 (takeR 8 s1 e1).2.2.2).2.2.1 (takeR 8 (takeR 8 s1 e1).2.2.1 (takeR 8 s1 e1).2.2.2).2.2.2).2.2.2 (takeR 8 s1 e1).2.2.1 (takeR 8 (takeR 8 s1 e1).2.2.1 (takeR 8 s1 e1).2.2.2).2.2.1 (takeR 2 (takeR 8 (takeR 8 s1 e1).2.2.1 (takeR 8 s1 e1).2.2.2).2.2.1 (takeR 8 (takeR 8 s1 e1).2.2.1 (takeR 8 s1 e1).2.2.2).2.2.2).2.2.1 v _ _ _) (allT_mk (oB_of (E50 k (takeR 8 (takeR 8 s1 e1).2.2.1 (takeR 8 s1 e1).2.2.2).2.2.1 (takeR 8 (takeR 8 s1 e1).2.2.1 (takeR 8 s1 e1).2.2.2).2.2.2 rfl)) (allT_mk (oB_of (E46o k (takeR 8 s1 e1).2.2.1 (takeR 8 s1 e1).2.2.2 rfl)) (allT_mk (oB_of (E46o k s1 e1 rfl)) (allT_mk h6 (allT_mk (by rw [h4]; rfl) (allT_mk (by rw [h1]; rfl) (allT_mk (oB_of (h79 _)) rfl))))))) gl rfl rfl rfl rfl rfl rfl
   | false =>
    simp only [cond_false]
    exact inlE_run (noPS_ok _) (ns:=[4,5,6]) (r69x k has e er e1 s s1 m v) (allT_mk (by rw [h6]; rfl) (allT_mk (by rw [h4]; rfl) (allT_mk (by rw [h1]; rfl) (allT_mk (oB_of (h79 _)) rfl)))) gl rfl rfl rfl rfl rfl rfl
theorem rEn (k:Nat) (has e er:Int) (s:List UInt8) (m:Ms):ansM [4,5,6] (run1O Tryd.prog noPS (nR (k+4)) [300027,300036] [] [.bool false,.tup []] (mask 48) 200 48 [.ptr 4 0,.ptr 5 9] (hR has ⟨e,m,s,er⟩) 7)=some (.tup [],[some (.cells false (penR has e 6)),some (.cells false (mCells m)),some (.cells false (rdr s er))],[oB (eR (nR (k+3)) 63 [.ptr 4 0,.int .i64 256]) 15 (hR has ⟨e,m,s,er⟩) (.bool false) (hR has ⟨e,m,s,er⟩)]):=by kernel_rfl
theorem rEy (k:Nat) (has e er:Int) (s:List UInt8) (m:Ms) (st:Rs):ansM [4,5,6] (run1O Tryd.prog noPS (nR (k+4)) [300027,300036] [] [.bool true,.tup [],.tup [],.tup [.ptr 4 0,.agg (penR has st.e 6),.ptr 5 0,.agg (mCells st.m),.ptr 6 0,.agg (rdr st.s st.er)]] (mask 48) 200 48 [.ptr 4 0,.ptr 5 9] (hR has ⟨e,m,s,er⟩) 7)=some (.tup [],[some (.cells false (penR has st.e 6)),some (.cells false (mCells st.m)),some (.cells false (rdr st.s st.er))],[oB (eR (nR (k+3)) 69 [.ptr 4 0,.ptr 5 9]) 95 (hR has ⟨e,m,s,er⟩) (.tup []) (hR has st),oB (eR (nR (k+3)) 63 [.ptr 4 0,.int .i64 256]) 15 (hR has ⟨e,m,s,er⟩) (.bool true) (hR has ⟨e,m,s,er⟩)]):=by kernel_rfl
theorem RE (k:Nat) (has:Int) (hb:onB has 256=true) (st:Rs){base:Nat}:(eR (nR (k+4)) 48 [.ptr 4 0,.ptr 5 9]).app base (hR has st)=some (.tup [],hR has (fdS .E st)):=by
 obtain ⟨e,m,s,er⟩:=st
 have h63:=fun base=>E63 (nR (k+3)) has 256 e m s er hb (base:=base)
 simp only [fdS,endS]
 cases he:(e == 0) with
 | false =>
  rw [he] at h63
  simp only [cond_false]
  exact inlE_run (noPS_ok _) (ns:=[4,5,6]) (rEn k has e er s m) (allT_mk (oB_of (h63 _)) rfl) gl rfl rfl rfl rfl rfl rfl
 | true =>
  rw [he] at h63
  simp only [cond_true]
  exact inlE_run (noPS_ok _) (ns:=[4,5,6]) (rEy k has e er s m _) (allT_mk (oB_of (R69 k has e er m s)) (allT_mk (oB_of (h63 _)) rfl)) gl rfl rfl rfl rfl rfl rfl
end Go.Proofs.YthlemfnkmpikjaaDoor
namespace Go.Proofs.YthlemfnkmpikjaaDoor
open Go Go.Eng Go.Num Go.Msg
def bitF:Msg.Fd→Int
 | .F=>1 | .T=>2 | .I=>4 | .P=>8 | .C=>16 | .B=>32 | .V=>64 | .X=>128 | .E=>256 | .K=>512 | .N=>1024 | .D=>2048 | .S=>4096
def sumF:List Msg.Fd→Int
 | []=>0
 | f::l=>bitF f+sumF l
def fieldsN (t:UInt8):Int:=sumF (fds t.toNat)
noncomputable def chk18 (n:Nat):Bool:=match run1 Tryd.prog noCS (mask 18) 200 18 [.u8 (UInt8.ofNat n)] [] 4 with
 | some (.int .i64 x,_,_)=>x == fieldsN (UInt8.ofNat n)
 | _=>false
theorem all18:(List.range 256).all chk18=true:=by kernel_rfl
def k18:List AVal→Option EffA
 | [.u8 t]=>some (.pure (.int .i64 (fieldsN t)))
 | _=>none
theorem k18_ok:CSOk Tryd.prog (csOne 18 k18):=csOne_ok fun args e he=>by
 unfold k18 at he
 split at he
 ·rename_i t
  cases he
  have h:=List.all_eq_true.1 all18 t.toNat (List.mem_range.2 (by have:=t.toNat_lt; omega))
  unfold chk18 at h
  rw [UInt8.ofNat_toNat] at h
  split at h
  ·rename_i x H' fr' hr
   have hx:=eq_of_beq h
   subst hx
   rw [← gl] at hr
   exact callOk_run (noCS_ok _) hmix hr rfl rfl
  ·cases h
 ·cases he
noncomputable def nN (f:Bool→UInt64→UInt64→List UInt8):CS:=inlW Tryd.prog mask 200 (csAlt (csOne 35 (k35 f)) (csOne 18 k18)) 4
theorem nN_ok:CSOk Tryd.prog (nN (tx far)):=inlW_ok hmix (csAlt_ok k35_ok k18_ok) 4
def badB (x:Bool × Bool):Bool:=cond x.1 x.2 (!x.2)
def osR:List (Bool × Bool)→Nat→List Bool
 | [],_=>[]
 | x::_,0=>[x.1]
 | x::l,k+1=>(!x.1)::osR l k
def obR:List (Bool × Bool)→Nat→List Bool
 | [],_=>[]
 | x::_,0=>[cond x.1 x.2 (!x.2)]
 | x::l,k+1=>cond (!x.1) x.2 (!x.2)::obR l k
def kBad:List (Bool × Bool)→Nat
 | []=>0
 | x::l=>cond (badB x) 0 (kBad l+1)
theorem kBad_le:∀ l:List (Bool × Bool),kBad l≤l.length
 | []=>Nat.le_refl _
 | x::l=>by
  have:=kBad_le l
  unfold kBad
  cases badB x
  ·simp only [cond_false,List.length_cons]; omega
  ·simp only [cond_true,List.length_cons]; omega
theorem obR_ok:∀ l:List (Bool × Bool),allT (obR l (kBad l))=true
 | []=>rfl
 | x::l=>by
  have ih:=obR_ok l
  unfold kBad
  cases hb:badB x with
  | true=>exact allT_mk hb rfl
  | false =>
   rw [cond_false]
   refine allT_mk ?_ ih
   obtain ⟨a,b⟩:=x
   unfold badB at hb
   cases a <;> cases b <;> simp_all
def firstB:List (Bool × Bool)→List Int→Int
 | x::l,e::es=>cond (badB x) e (firstB l es)
 | _,_=>0
theorem first_eq:∀ (l:List (Bool × Bool)) (es:List Int),l.length=es.length→es.getD (kBad l) 0=firstB l es
 | [],[],_=>rfl
 | [],_::_,h=>by cases h
 | _::_,[],h=>by cases h
 | x::l,e::es,h=>by
  have ih:=first_eq l es (by simpa using h)
  unfold kBad firstB
  cases badB x with
  | true=>rfl
  | false =>
   rw [cond_false,cond_false]
   simpa using ih
def fdEq:Msg.Fd→Msg.Fd→Bool
 | .F,.F=>true | .T,.T=>true | .I,.I=>true | .P,.P=>true | .C,.C=>true | .B,.B=>true | .V,.V=>true | .X,.X=>true | .E,.E=>true | .K,.K=>true | .N,.N=>true | .D,.D=>true | .S,.S=>true
 | _,_=>false
def hasL (l:List Msg.Fd) (f:Msg.Fd):Bool:=l.any (fdEq f)
def rEq (h:Msg.Fd→Bool) (m:Ms):Bool:=(m.ty == m.ty) && ((([]:List UInt8) == []) && ((([]:List UInt8) == []) && ((cond (h .I) 0 m.ix == 0) && ((cond (h .P) 0 m.pe == 0) && ((cond (h .C) 0 m.co == 0) && ((cond (h .B) 0 m.ba == 0) && ((cond (h .V) 0 m.ve == 0) && ((([]:List UInt8) == []) && ((((cond (h .E) false m.v6 == false) && ((cond (h .E) 0 m.hi == 0) && ((cond (h .E) 0 m.lo == 0) && true))) && ((cond (h .E) 0 m.po == 0) && true)) && ((cond (h .K) 0 m.cd == 0) && ((cond (h .N) [] m.te == []) && ((cond (h .D) [] m.da == []) && ((([]:List UInt8) == []) && true)))))))))))))
def lenI (l:List UInt8):Int:=((l.length:Nat):Int)
def tCode (f:Bool→UInt64→UInt64→List UInt8) (h:Msg.Fd→Bool) (m:Ms):List (Bool × Bool):=
 (true,!(rEq h m))::(false,lenI m.fr == cond (h .F) 32 0)::(false,lenI m.tt == cond (h .T) 32 0)::(false,lenI m.tx == cond (h .X) 16 0)::(false,lenI m.sg == cond (h .S) 64 0) ::
  cond (h .E) [(true,f m.v6 m.hi m.lo == []),(true,decide ((64:Int) < lenI m.te)),(true,decide ((32768:Int) < lenI m.da))] [(true,decide ((64:Int) < lenI m.te)),(true,decide ((32768:Int) < lenI m.da))]
def eCode (h:Msg.Fd→Bool):List Int:=151::151::151::151::151::cond (h .E) [151,4,4] [4,4]
def sMay:List Nat:=[49,54,59,64,69,80,86,90]
end Go.Proofs.YthlemfnkmpikjaaDoor
namespace Go.Proofs.YthlemfnkmpikjaaDoor
open Go Go.Eng Go.Num Go.Msg
set_option maxHeartbeats 4000000
theorem mc1 (f:Bool→UInt64→UInt64→List UInt8) (fr tt:List UInt8) (ix pe:UInt32) (co ba ve:UInt64) (tx:List UInt8) (v6:Bool) (hi lo:UInt64) (po cd:Int) (te da sg:List UInt8):∀ k:Nat,k≤7→ansO (run1O Tryd.prog noPS (nN f) sMay (osR (tCode f (hasL (fds 1)) ⟨1,fr,tt,ix,pe,co,ba,ve,tx,v6,hi,lo,po,cd,te,da,sg⟩) k) [] (mask 13) 200 13 [mA ⟨1,fr,tt,ix,pe,co,ba,ve,tx,v6,hi,lo,po,cd,te,da,sg⟩] H0 4)=some (.int .i64 ((eCode (hasL (fds 1))).getD k 0),(obR (tCode f (hasL (fds 1)) ⟨1,fr,tt,ix,pe,co,ba,ve,tx,v6,hi,lo,po,cd,te,da,sg⟩) k).reverse)
 | 0,_=>by kernel_rfl
 | 1,_=>by kernel_rfl
 | 2,_=>by kernel_rfl
 | 3,_=>by kernel_rfl
 | 4,_=>by kernel_rfl
 | 5,_=>by kernel_rfl
 | 6,_=>by kernel_rfl
 | 7,_=>by kernel_rfl
 | n+8,h=>absurd h (by omega)
theorem mc2 (f:Bool→UInt64→UInt64→List UInt8) (fr tt:List UInt8) (ix pe:UInt32) (co ba ve:UInt64) (tx:List UInt8) (v6:Bool) (hi lo:UInt64) (po cd:Int) (te da sg:List UInt8):∀ k:Nat,k≤8→ansO (run1O Tryd.prog noPS (nN f) sMay (osR (tCode f (hasL (fds 2)) ⟨2,fr,tt,ix,pe,co,ba,ve,tx,v6,hi,lo,po,cd,te,da,sg⟩) k) [] (mask 13) 200 13 [mA ⟨2,fr,tt,ix,pe,co,ba,ve,tx,v6,hi,lo,po,cd,te,da,sg⟩] H0 4)=some (.int .i64 ((eCode (hasL (fds 2))).getD k 0),(obR (tCode f (hasL (fds 2)) ⟨2,fr,tt,ix,pe,co,ba,ve,tx,v6,hi,lo,po,cd,te,da,sg⟩) k).reverse)
 | 0,_=>by kernel_rfl
 | 1,_=>by kernel_rfl
 | 2,_=>by kernel_rfl
 | 3,_=>by kernel_rfl
 | 4,_=>by kernel_rfl
 | 5,_=>by kernel_rfl
 | 6,_=>by kernel_rfl
 | 7,_=>by kernel_rfl
 | 8,_=>by kernel_rfl
 | n+9,h=>absurd h (by omega)
theorem mc3 (f:Bool→UInt64→UInt64→List UInt8) (fr tt:List UInt8) (ix pe:UInt32) (co ba ve:UInt64) (tx:List UInt8) (v6:Bool) (hi lo:UInt64) (po cd:Int) (te da sg:List UInt8):∀ k:Nat,k≤7→ansO (run1O Tryd.prog noPS (nN f) sMay (osR (tCode f (hasL (fds 3)) ⟨3,fr,tt,ix,pe,co,ba,ve,tx,v6,hi,lo,po,cd,te,da,sg⟩) k) [] (mask 13) 200 13 [mA ⟨3,fr,tt,ix,pe,co,ba,ve,tx,v6,hi,lo,po,cd,te,da,sg⟩] H0 4)=some (.int .i64 ((eCode (hasL (fds 3))).getD k 0),(obR (tCode f (hasL (fds 3)) ⟨3,fr,tt,ix,pe,co,ba,ve,tx,v6,hi,lo,po,cd,te,da,sg⟩) k).reverse)
 | 0,_=>by kernel_rfl
 | 1,_=>by kernel_rfl
 | 2,_=>by kernel_rfl
 | 3,_=>by kernel_rfl
 | 4,_=>by kernel_rfl
 | 5,_=>by kernel_rfl
 | 6,_=>by kernel_rfl
 | 7,_=>by kernel_rfl
 | n+8,h=>absurd h (by omega)
theorem mc4 (f:Bool→UInt64→UInt64→List UInt8) (fr tt:List UInt8) (ix pe:UInt32) (co ba ve:UInt64) (tx:List UInt8) (v6:Bool) (hi lo:UInt64) (po cd:Int) (te da sg:List UInt8):∀ k:Nat,k≤7→ansO (run1O Tryd.prog noPS (nN f) sMay (osR (tCode f (hasL (fds 4)) ⟨4,fr,tt,ix,pe,co,ba,ve,tx,v6,hi,lo,po,cd,te,da,sg⟩) k) [] (mask 13) 200 13 [mA ⟨4,fr,tt,ix,pe,co,ba,ve,tx,v6,hi,lo,po,cd,te,da,sg⟩] H0 4)=some (.int .i64 ((eCode (hasL (fds 4))).getD k 0),(obR (tCode f (hasL (fds 4)) ⟨4,fr,tt,ix,pe,co,ba,ve,tx,v6,hi,lo,po,cd,te,da,sg⟩) k).reverse)
 | 0,_=>by kernel_rfl
 | 1,_=>by kernel_rfl
 | 2,_=>by kernel_rfl
 | 3,_=>by kernel_rfl
 | 4,_=>by kernel_rfl
 | 5,_=>by kernel_rfl
 | 6,_=>by kernel_rfl
 | 7,_=>by kernel_rfl
 | n+8,h=>absurd h (by omega)
theorem mc5 (f:Bool→UInt64→UInt64→List UInt8) (fr tt:List UInt8) (ix pe:UInt32) (co ba ve:UInt64) (tx:List UInt8) (v6:Bool) (hi lo:UInt64) (po cd:Int) (te da sg:List UInt8):∀ k:Nat,k≤7→ansO (run1O Tryd.prog noPS (nN f) sMay (osR (tCode f (hasL (fds 5)) ⟨5,fr,tt,ix,pe,co,ba,ve,tx,v6,hi,lo,po,cd,te,da,sg⟩) k) [] (mask 13) 200 13 [mA ⟨5,fr,tt,ix,pe,co,ba,ve,tx,v6,hi,lo,po,cd,te,da,sg⟩] H0 4)=some (.int .i64 ((eCode (hasL (fds 5))).getD k 0),(obR (tCode f (hasL (fds 5)) ⟨5,fr,tt,ix,pe,co,ba,ve,tx,v6,hi,lo,po,cd,te,da,sg⟩) k).reverse)
 | 0,_=>by kernel_rfl
 | 1,_=>by kernel_rfl
 | 2,_=>by kernel_rfl
 | 3,_=>by kernel_rfl
 | 4,_=>by kernel_rfl
 | 5,_=>by kernel_rfl
 | 6,_=>by kernel_rfl
 | 7,_=>by kernel_rfl
 | n+8,h=>absurd h (by omega)
theorem mc6 (f:Bool→UInt64→UInt64→List UInt8) (fr tt:List UInt8) (ix pe:UInt32) (co ba ve:UInt64) (tx:List UInt8) (v6:Bool) (hi lo:UInt64) (po cd:Int) (te da sg:List UInt8):∀ k:Nat,k≤7→ansO (run1O Tryd.prog noPS (nN f) sMay (osR (tCode f (hasL (fds 6)) ⟨6,fr,tt,ix,pe,co,ba,ve,tx,v6,hi,lo,po,cd,te,da,sg⟩) k) [] (mask 13) 200 13 [mA ⟨6,fr,tt,ix,pe,co,ba,ve,tx,v6,hi,lo,po,cd,te,da,sg⟩] H0 4)=some (.int .i64 ((eCode (hasL (fds 6))).getD k 0),(obR (tCode f (hasL (fds 6)) ⟨6,fr,tt,ix,pe,co,ba,ve,tx,v6,hi,lo,po,cd,te,da,sg⟩) k).reverse)
 | 0,_=>by kernel_rfl
 | 1,_=>by kernel_rfl
 | 2,_=>by kernel_rfl
 | 3,_=>by kernel_rfl
 | 4,_=>by kernel_rfl
 | 5,_=>by kernel_rfl
 | 6,_=>by kernel_rfl
 | 7,_=>by kernel_rfl
 | n+8,h=>absurd h (by omega)
theorem mc7 (f:Bool→UInt64→UInt64→List UInt8) (fr tt:List UInt8) (ix pe:UInt32) (co ba ve:UInt64) (tx:List UInt8) (v6:Bool) (hi lo:UInt64) (po cd:Int) (te da sg:List UInt8):∀ k:Nat,k≤7→ansO (run1O Tryd.prog noPS (nN f) sMay (osR (tCode f (hasL (fds 7)) ⟨7,fr,tt,ix,pe,co,ba,ve,tx,v6,hi,lo,po,cd,te,da,sg⟩) k) [] (mask 13) 200 13 [mA ⟨7,fr,tt,ix,pe,co,ba,ve,tx,v6,hi,lo,po,cd,te,da,sg⟩] H0 4)=some (.int .i64 ((eCode (hasL (fds 7))).getD k 0),(obR (tCode f (hasL (fds 7)) ⟨7,fr,tt,ix,pe,co,ba,ve,tx,v6,hi,lo,po,cd,te,da,sg⟩) k).reverse)
 | 0,_=>by kernel_rfl
 | 1,_=>by kernel_rfl
 | 2,_=>by kernel_rfl
 | 3,_=>by kernel_rfl
 | 4,_=>by kernel_rfl
 | 5,_=>by kernel_rfl
 | 6,_=>by kernel_rfl
 | 7,_=>by kernel_rfl
 | n+8,h=>absurd h (by omega)
theorem mc8 (f:Bool→UInt64→UInt64→List UInt8) (fr tt:List UInt8) (ix pe:UInt32) (co ba ve:UInt64) (tx:List UInt8) (v6:Bool) (hi lo:UInt64) (po cd:Int) (te da sg:List UInt8):∀ k:Nat,k≤8→ansO (run1O Tryd.prog noPS (nN f) sMay (osR (tCode f (hasL (fds 8)) ⟨8,fr,tt,ix,pe,co,ba,ve,tx,v6,hi,lo,po,cd,te,da,sg⟩) k) [] (mask 13) 200 13 [mA ⟨8,fr,tt,ix,pe,co,ba,ve,tx,v6,hi,lo,po,cd,te,da,sg⟩] H0 4)=some (.int .i64 ((eCode (hasL (fds 8))).getD k 0),(obR (tCode f (hasL (fds 8)) ⟨8,fr,tt,ix,pe,co,ba,ve,tx,v6,hi,lo,po,cd,te,da,sg⟩) k).reverse)
 | 0,_=>by kernel_rfl
 | 1,_=>by kernel_rfl
 | 2,_=>by kernel_rfl
 | 3,_=>by kernel_rfl
 | 4,_=>by kernel_rfl
 | 5,_=>by kernel_rfl
 | 6,_=>by kernel_rfl
 | 7,_=>by kernel_rfl
 | 8,_=>by kernel_rfl
 | n+9,h=>absurd h (by omega)
theorem mc9 (f:Bool→UInt64→UInt64→List UInt8) (fr tt:List UInt8) (ix pe:UInt32) (co ba ve:UInt64) (tx:List UInt8) (v6:Bool) (hi lo:UInt64) (po cd:Int) (te da sg:List UInt8):∀ k:Nat,k≤7→ansO (run1O Tryd.prog noPS (nN f) sMay (osR (tCode f (hasL (fds 9)) ⟨9,fr,tt,ix,pe,co,ba,ve,tx,v6,hi,lo,po,cd,te,da,sg⟩) k) [] (mask 13) 200 13 [mA ⟨9,fr,tt,ix,pe,co,ba,ve,tx,v6,hi,lo,po,cd,te,da,sg⟩] H0 4)=some (.int .i64 ((eCode (hasL (fds 9))).getD k 0),(obR (tCode f (hasL (fds 9)) ⟨9,fr,tt,ix,pe,co,ba,ve,tx,v6,hi,lo,po,cd,te,da,sg⟩) k).reverse)
 | 0,_=>by kernel_rfl
 | 1,_=>by kernel_rfl
 | 2,_=>by kernel_rfl
 | 3,_=>by kernel_rfl
 | 4,_=>by kernel_rfl
 | 5,_=>by kernel_rfl
 | 6,_=>by kernel_rfl
 | 7,_=>by kernel_rfl
 | n+8,h=>absurd h (by omega)
theorem mc10 (f:Bool→UInt64→UInt64→List UInt8) (fr tt:List UInt8) (ix pe:UInt32) (co ba ve:UInt64) (tx:List UInt8) (v6:Bool) (hi lo:UInt64) (po cd:Int) (te da sg:List UInt8):∀ k:Nat,k≤7→ansO (run1O Tryd.prog noPS (nN f) sMay (osR (tCode f (hasL (fds 10)) ⟨10,fr,tt,ix,pe,co,ba,ve,tx,v6,hi,lo,po,cd,te,da,sg⟩) k) [] (mask 13) 200 13 [mA ⟨10,fr,tt,ix,pe,co,ba,ve,tx,v6,hi,lo,po,cd,te,da,sg⟩] H0 4)=some (.int .i64 ((eCode (hasL (fds 10))).getD k 0),(obR (tCode f (hasL (fds 10)) ⟨10,fr,tt,ix,pe,co,ba,ve,tx,v6,hi,lo,po,cd,te,da,sg⟩) k).reverse)
 | 0,_=>by kernel_rfl
 | 1,_=>by kernel_rfl
 | 2,_=>by kernel_rfl
 | 3,_=>by kernel_rfl
 | 4,_=>by kernel_rfl
 | 5,_=>by kernel_rfl
 | 6,_=>by kernel_rfl
 | 7,_=>by kernel_rfl
 | n+8,h=>absurd h (by omega)
theorem mc11 (f:Bool→UInt64→UInt64→List UInt8) (fr tt:List UInt8) (ix pe:UInt32) (co ba ve:UInt64) (tx:List UInt8) (v6:Bool) (hi lo:UInt64) (po cd:Int) (te da sg:List UInt8):∀ k:Nat,k≤7→ansO (run1O Tryd.prog noPS (nN f) sMay (osR (tCode f (hasL (fds 11)) ⟨11,fr,tt,ix,pe,co,ba,ve,tx,v6,hi,lo,po,cd,te,da,sg⟩) k) [] (mask 13) 200 13 [mA ⟨11,fr,tt,ix,pe,co,ba,ve,tx,v6,hi,lo,po,cd,te,da,sg⟩] H0 4)=some (.int .i64 ((eCode (hasL (fds 11))).getD k 0),(obR (tCode f (hasL (fds 11)) ⟨11,fr,tt,ix,pe,co,ba,ve,tx,v6,hi,lo,po,cd,te,da,sg⟩) k).reverse)
 | 0,_=>by kernel_rfl
 | 1,_=>by kernel_rfl
 | 2,_=>by kernel_rfl
 | 3,_=>by kernel_rfl
 | 4,_=>by kernel_rfl
 | 5,_=>by kernel_rfl
 | 6,_=>by kernel_rfl
 | 7,_=>by kernel_rfl
 | n+8,h=>absurd h (by omega)
theorem mc12 (f:Bool→UInt64→UInt64→List UInt8) (fr tt:List UInt8) (ix pe:UInt32) (co ba ve:UInt64) (tx:List UInt8) (v6:Bool) (hi lo:UInt64) (po cd:Int) (te da sg:List UInt8):∀ k:Nat,k≤7→ansO (run1O Tryd.prog noPS (nN f) sMay (osR (tCode f (hasL (fds 12)) ⟨12,fr,tt,ix,pe,co,ba,ve,tx,v6,hi,lo,po,cd,te,da,sg⟩) k) [] (mask 13) 200 13 [mA ⟨12,fr,tt,ix,pe,co,ba,ve,tx,v6,hi,lo,po,cd,te,da,sg⟩] H0 4)=some (.int .i64 ((eCode (hasL (fds 12))).getD k 0),(obR (tCode f (hasL (fds 12)) ⟨12,fr,tt,ix,pe,co,ba,ve,tx,v6,hi,lo,po,cd,te,da,sg⟩) k).reverse)
 | 0,_=>by kernel_rfl
 | 1,_=>by kernel_rfl
 | 2,_=>by kernel_rfl
 | 3,_=>by kernel_rfl
 | 4,_=>by kernel_rfl
 | 5,_=>by kernel_rfl
 | 6,_=>by kernel_rfl
 | 7,_=>by kernel_rfl
 | n+8,h=>absurd h (by omega)
theorem mc13 (f:Bool→UInt64→UInt64→List UInt8) (fr tt:List UInt8) (ix pe:UInt32) (co ba ve:UInt64) (tx:List UInt8) (v6:Bool) (hi lo:UInt64) (po cd:Int) (te da sg:List UInt8):∀ k:Nat,k≤7→ansO (run1O Tryd.prog noPS (nN f) sMay (osR (tCode f (hasL (fds 13)) ⟨13,fr,tt,ix,pe,co,ba,ve,tx,v6,hi,lo,po,cd,te,da,sg⟩) k) [] (mask 13) 200 13 [mA ⟨13,fr,tt,ix,pe,co,ba,ve,tx,v6,hi,lo,po,cd,te,da,sg⟩] H0 4)=some (.int .i64 ((eCode (hasL (fds 13))).getD k 0),(obR (tCode f (hasL (fds 13)) ⟨13,fr,tt,ix,pe,co,ba,ve,tx,v6,hi,lo,po,cd,te,da,sg⟩) k).reverse)
 | 0,_=>by kernel_rfl
 | 1,_=>by kernel_rfl
 | 2,_=>by kernel_rfl
 | 3,_=>by kernel_rfl
 | 4,_=>by kernel_rfl
 | 5,_=>by kernel_rfl
 | 6,_=>by kernel_rfl
 | 7,_=>by kernel_rfl
 | n+8,h=>absurd h (by omega)
theorem mc14 (f:Bool→UInt64→UInt64→List UInt8) (fr tt:List UInt8) (ix pe:UInt32) (co ba ve:UInt64) (tx:List UInt8) (v6:Bool) (hi lo:UInt64) (po cd:Int) (te da sg:List UInt8):∀ k:Nat,k≤7→ansO (run1O Tryd.prog noPS (nN f) sMay (osR (tCode f (hasL (fds 14)) ⟨14,fr,tt,ix,pe,co,ba,ve,tx,v6,hi,lo,po,cd,te,da,sg⟩) k) [] (mask 13) 200 13 [mA ⟨14,fr,tt,ix,pe,co,ba,ve,tx,v6,hi,lo,po,cd,te,da,sg⟩] H0 4)=some (.int .i64 ((eCode (hasL (fds 14))).getD k 0),(obR (tCode f (hasL (fds 14)) ⟨14,fr,tt,ix,pe,co,ba,ve,tx,v6,hi,lo,po,cd,te,da,sg⟩) k).reverse)
 | 0,_=>by kernel_rfl
 | 1,_=>by kernel_rfl
 | 2,_=>by kernel_rfl
 | 3,_=>by kernel_rfl
 | 4,_=>by kernel_rfl
 | 5,_=>by kernel_rfl
 | 6,_=>by kernel_rfl
 | 7,_=>by kernel_rfl
 | n+8,h=>absurd h (by omega)
theorem mc15 (f:Bool→UInt64→UInt64→List UInt8) (fr tt:List UInt8) (ix pe:UInt32) (co ba ve:UInt64) (tx:List UInt8) (v6:Bool) (hi lo:UInt64) (po cd:Int) (te da sg:List UInt8):∀ k:Nat,k≤7→ansO (run1O Tryd.prog noPS (nN f) sMay (osR (tCode f (hasL (fds 15)) ⟨15,fr,tt,ix,pe,co,ba,ve,tx,v6,hi,lo,po,cd,te,da,sg⟩) k) [] (mask 13) 200 13 [mA ⟨15,fr,tt,ix,pe,co,ba,ve,tx,v6,hi,lo,po,cd,te,da,sg⟩] H0 4)=some (.int .i64 ((eCode (hasL (fds 15))).getD k 0),(obR (tCode f (hasL (fds 15)) ⟨15,fr,tt,ix,pe,co,ba,ve,tx,v6,hi,lo,po,cd,te,da,sg⟩) k).reverse)
 | 0,_=>by kernel_rfl
 | 1,_=>by kernel_rfl
 | 2,_=>by kernel_rfl
 | 3,_=>by kernel_rfl
 | 4,_=>by kernel_rfl
 | 5,_=>by kernel_rfl
 | 6,_=>by kernel_rfl
 | 7,_=>by kernel_rfl
 | n+8,h=>absurd h (by omega)
theorem mc16 (f:Bool→UInt64→UInt64→List UInt8) (fr tt:List UInt8) (ix pe:UInt32) (co ba ve:UInt64) (tx:List UInt8) (v6:Bool) (hi lo:UInt64) (po cd:Int) (te da sg:List UInt8):∀ k:Nat,k≤7→ansO (run1O Tryd.prog noPS (nN f) sMay (osR (tCode f (hasL (fds 16)) ⟨16,fr,tt,ix,pe,co,ba,ve,tx,v6,hi,lo,po,cd,te,da,sg⟩) k) [] (mask 13) 200 13 [mA ⟨16,fr,tt,ix,pe,co,ba,ve,tx,v6,hi,lo,po,cd,te,da,sg⟩] H0 4)=some (.int .i64 ((eCode (hasL (fds 16))).getD k 0),(obR (tCode f (hasL (fds 16)) ⟨16,fr,tt,ix,pe,co,ba,ve,tx,v6,hi,lo,po,cd,te,da,sg⟩) k).reverse)
 | 0,_=>by kernel_rfl
 | 1,_=>by kernel_rfl
 | 2,_=>by kernel_rfl
 | 3,_=>by kernel_rfl
 | 4,_=>by kernel_rfl
 | 5,_=>by kernel_rfl
 | 6,_=>by kernel_rfl
 | 7,_=>by kernel_rfl
 | n+8,h=>absurd h (by omega)
theorem mc17 (f:Bool→UInt64→UInt64→List UInt8) (fr tt:List UInt8) (ix pe:UInt32) (co ba ve:UInt64) (tx:List UInt8) (v6:Bool) (hi lo:UInt64) (po cd:Int) (te da sg:List UInt8):∀ k:Nat,k≤7→ansO (run1O Tryd.prog noPS (nN f) sMay (osR (tCode f (hasL (fds 17)) ⟨17,fr,tt,ix,pe,co,ba,ve,tx,v6,hi,lo,po,cd,te,da,sg⟩) k) [] (mask 13) 200 13 [mA ⟨17,fr,tt,ix,pe,co,ba,ve,tx,v6,hi,lo,po,cd,te,da,sg⟩] H0 4)=some (.int .i64 ((eCode (hasL (fds 17))).getD k 0),(obR (tCode f (hasL (fds 17)) ⟨17,fr,tt,ix,pe,co,ba,ve,tx,v6,hi,lo,po,cd,te,da,sg⟩) k).reverse)
 | 0,_=>by kernel_rfl
 | 1,_=>by kernel_rfl
 | 2,_=>by kernel_rfl
 | 3,_=>by kernel_rfl
 | 4,_=>by kernel_rfl
 | 5,_=>by kernel_rfl
 | 6,_=>by kernel_rfl
 | 7,_=>by kernel_rfl
 | n+8,h=>absurd h (by omega)
theorem mc18 (f:Bool→UInt64→UInt64→List UInt8) (fr tt:List UInt8) (ix pe:UInt32) (co ba ve:UInt64) (tx:List UInt8) (v6:Bool) (hi lo:UInt64) (po cd:Int) (te da sg:List UInt8):∀ k:Nat,k≤7→ansO (run1O Tryd.prog noPS (nN f) sMay (osR (tCode f (hasL (fds 18)) ⟨18,fr,tt,ix,pe,co,ba,ve,tx,v6,hi,lo,po,cd,te,da,sg⟩) k) [] (mask 13) 200 13 [mA ⟨18,fr,tt,ix,pe,co,ba,ve,tx,v6,hi,lo,po,cd,te,da,sg⟩] H0 4)=some (.int .i64 ((eCode (hasL (fds 18))).getD k 0),(obR (tCode f (hasL (fds 18)) ⟨18,fr,tt,ix,pe,co,ba,ve,tx,v6,hi,lo,po,cd,te,da,sg⟩) k).reverse)
 | 0,_=>by kernel_rfl
 | 1,_=>by kernel_rfl
 | 2,_=>by kernel_rfl
 | 3,_=>by kernel_rfl
 | 4,_=>by kernel_rfl
 | 5,_=>by kernel_rfl
 | 6,_=>by kernel_rfl
 | 7,_=>by kernel_rfl
 | n+8,h=>absurd h (by omega)
theorem mc19 (f:Bool→UInt64→UInt64→List UInt8) (fr tt:List UInt8) (ix pe:UInt32) (co ba ve:UInt64) (tx:List UInt8) (v6:Bool) (hi lo:UInt64) (po cd:Int) (te da sg:List UInt8):∀ k:Nat,k≤7→ansO (run1O Tryd.prog noPS (nN f) sMay (osR (tCode f (hasL (fds 19)) ⟨19,fr,tt,ix,pe,co,ba,ve,tx,v6,hi,lo,po,cd,te,da,sg⟩) k) [] (mask 13) 200 13 [mA ⟨19,fr,tt,ix,pe,co,ba,ve,tx,v6,hi,lo,po,cd,te,da,sg⟩] H0 4)=some (.int .i64 ((eCode (hasL (fds 19))).getD k 0),(obR (tCode f (hasL (fds 19)) ⟨19,fr,tt,ix,pe,co,ba,ve,tx,v6,hi,lo,po,cd,te,da,sg⟩) k).reverse)
 | 0,_=>by kernel_rfl
 | 1,_=>by kernel_rfl
 | 2,_=>by kernel_rfl
 | 3,_=>by kernel_rfl
 | 4,_=>by kernel_rfl
 | 5,_=>by kernel_rfl
 | 6,_=>by kernel_rfl
 | 7,_=>by kernel_rfl
 | n+8,h=>absurd h (by omega)
theorem mc20 (f:Bool→UInt64→UInt64→List UInt8) (fr tt:List UInt8) (ix pe:UInt32) (co ba ve:UInt64) (tx:List UInt8) (v6:Bool) (hi lo:UInt64) (po cd:Int) (te da sg:List UInt8):∀ k:Nat,k≤7→ansO (run1O Tryd.prog noPS (nN f) sMay (osR (tCode f (hasL (fds 20)) ⟨20,fr,tt,ix,pe,co,ba,ve,tx,v6,hi,lo,po,cd,te,da,sg⟩) k) [] (mask 13) 200 13 [mA ⟨20,fr,tt,ix,pe,co,ba,ve,tx,v6,hi,lo,po,cd,te,da,sg⟩] H0 4)=some (.int .i64 ((eCode (hasL (fds 20))).getD k 0),(obR (tCode f (hasL (fds 20)) ⟨20,fr,tt,ix,pe,co,ba,ve,tx,v6,hi,lo,po,cd,te,da,sg⟩) k).reverse)
 | 0,_=>by kernel_rfl
 | 1,_=>by kernel_rfl
 | 2,_=>by kernel_rfl
 | 3,_=>by kernel_rfl
 | 4,_=>by kernel_rfl
 | 5,_=>by kernel_rfl
 | 6,_=>by kernel_rfl
 | 7,_=>by kernel_rfl
 | n+8,h=>absurd h (by omega)
theorem mc21 (f:Bool→UInt64→UInt64→List UInt8) (fr tt:List UInt8) (ix pe:UInt32) (co ba ve:UInt64) (tx:List UInt8) (v6:Bool) (hi lo:UInt64) (po cd:Int) (te da sg:List UInt8):∀ k:Nat,k≤8→ansO (run1O Tryd.prog noPS (nN f) sMay (osR (tCode f (hasL (fds 21)) ⟨21,fr,tt,ix,pe,co,ba,ve,tx,v6,hi,lo,po,cd,te,da,sg⟩) k) [] (mask 13) 200 13 [mA ⟨21,fr,tt,ix,pe,co,ba,ve,tx,v6,hi,lo,po,cd,te,da,sg⟩] H0 4)=some (.int .i64 ((eCode (hasL (fds 21))).getD k 0),(obR (tCode f (hasL (fds 21)) ⟨21,fr,tt,ix,pe,co,ba,ve,tx,v6,hi,lo,po,cd,te,da,sg⟩) k).reverse)
 | 0,_=>by kernel_rfl
 | 1,_=>by kernel_rfl
 | 2,_=>by kernel_rfl
 | 3,_=>by kernel_rfl
 | 4,_=>by kernel_rfl
 | 5,_=>by kernel_rfl
 | 6,_=>by kernel_rfl
 | 7,_=>by kernel_rfl
 | 8,_=>by kernel_rfl
 | n+9,h=>absurd h (by omega)
end Go.Proofs.YthlemfnkmpikjaaDoor
namespace Go.Proofs.YthlemfnkmpikjaaDoor
open Go Go.Eng Go.Num Go.Msg
def mayC (f:Bool→UInt64→UInt64→List UInt8) (m:Ms):Int:=cond (fds m.ty.toNat).isEmpty 150 (firstB (tCode f (hasL (fds m.ty.toNat)) m) (eCode (hasL (fds m.ty.toNat))))
theorem mcX (f:Bool→UInt64→UInt64→List UInt8) (m:Ms):ansO (run1O Tryd.prog noPS (nN f) [10] [true] [] (mask 13) 200 13 [mA m] H0 4)=some (.int .i64 150,[fieldsN m.ty == 0]):=by kernel_rfl
theorem row_run {cs:CS}{sy:List Nat}{nn F:Nat}{f:FuncId}{args:List AVal}{H:HL}{fr K:Nat}{T:List (Bool × Bool)}{E:List Int}
  (h:∀ k,k≤K→ansO (run1O Tryd.prog noPS cs sy (osR T k) [] nn F f args H fr)=some (.int .i64 (E.getD k 0),(obR T k).reverse)) (hl:T.length=K) (he:T.length=E.length) :
  (run1 Tryd.prog cs nn F f args H fr).map (·.1)=some (.int .i64 (firstB T E)):=by
 rw [← first_eq T E he]
 exact ansO_run (noPS_ok _) (h (kBad T) (by rw [← hl]; exact kBad_le T)) (allT_rev (obR_ok T))
theorem emp_none {t:UInt8}(h:(fds t.toNat).isEmpty=true):(fieldsN t == 0)=true:=by
 unfold fieldsN
 cases hf:fds t.toNat with
 | nil=>rfl
 | cons a l=>rw [hf] at h; cases h
theorem fds_none {n:Nat}(h:n=0 ∨ 21 < n):fds n=[]:=by
 unfold fds
 split <;> first | rfl | omega
theorem may_run (f:Bool→UInt64→UInt64→List UInt8) (m:Ms):(run1 Tryd.prog (nN f) (mask 13) 200 13 [mA m] H0 4).map (·.1)=some (.int .i64 (mayC f m)):=by
 by_cases hx:m.ty.toNat=0 ∨ 21 < m.ty.toNat
 ·have e:=fds_none hx
  have:mayC f m=150:=by unfold mayC; rw [e]; rfl
  rw [this]
  exact ansO_run (noPS_ok _) (mcX f m) (allT_mk (emp_none (by rw [e]; rfl)) rfl)
 ·obtain ⟨ty,fr,tt,ix,pe,co,ba,ve,tx,v6,hi,lo,po,cd,te,da,sg⟩:=m
  simp only at hx
  have ht:ty=1 ∨ ty=2 ∨ ty=3 ∨ ty=4 ∨ ty=5 ∨ ty=6 ∨ ty=7 ∨ ty=8 ∨ ty=9 ∨ ty=10 ∨ ty=11 ∨ ty=12 ∨ ty=13 ∨ ty=14 ∨ ty=15 ∨ ty=16 ∨ ty=17 ∨ ty=18 ∨ ty=19 ∨ ty=20 ∨ ty=21:=by
   have:ty.toNat=1 ∨ ty.toNat=2 ∨ ty.toNat=3 ∨ ty.toNat=4 ∨ ty.toNat=5 ∨ ty.toNat=6 ∨ ty.toNat=7 ∨ ty.toNat=8 ∨ ty.toNat=9 ∨ ty.toNat=10 ∨ ty.toNat=11 ∨ ty.toNat=12 ∨ ty.toNat=13 ∨ ty.toNat=14 ∨ ty.toNat=15 ∨ ty.toNat=16 ∨ ty.toNat=17 ∨ ty.toNat=18 ∨ ty.toNat=19 ∨ ty.toNat=20 ∨ ty.toNat=21:=by omega
   rcases this with h | h | h | h | h | h | h | h | h | h | h | h | h | h | h | h | h | h | h | h | h
   ·exact Or.inl (UInt8.toNat_inj.1 (by rw [h]; rfl))
   ·exact Or.inr (Or.inl (UInt8.toNat_inj.1 (by rw [h]; rfl)))
   ·exact Or.inr (Or.inr (Or.inl (UInt8.toNat_inj.1 (by rw [h]; rfl))))
   ·exact Or.inr (Or.inr (Or.inr (Or.inl (UInt8.toNat_inj.1 (by rw [h]; rfl)))))
   ·exact Or.inr (Or.inr (Or.inr (Or.inr (Or.inl (UInt8.toNat_inj.1 (by rw [h]; rfl))))))
   ·exact Or.inr (Or.inr (Or.inr (Or.inr (Or.inr (Or.inl (UInt8.toNat_inj.1 (by rw [h]; rfl)))))))
   ·exact Or.inr (Or.inr (Or.inr (Or.inr (Or.inr (Or.inr (Or.inl (UInt8.toNat_inj.1 (by rw [h]; rfl))))))))
   ·exact Or.inr (Or.inr (Or.inr (Or.inr (Or.inr (Or.inr (Or.inr (Or.inl (UInt8.toNat_inj.1 (by rw [h]; rfl)))))))))
   ·exact Or.inr (Or.inr (Or.inr (Or.inr (Or.inr (Or.inr (Or.inr (Or.inr (Or.inl (UInt8.toNat_inj.1 (by rw [h]; rfl))))))))))
   ·exact Or.inr (Or.inr (Or.inr (Or.inr (Or.inr (Or.inr (Or.inr (Or.inr (Or.inr (Or.inl (UInt8.toNat_inj.1 (by rw [h]; rfl)))))))))))
   ·exact Or.inr (Or.inr (Or.inr (Or.inr (Or.inr (Or.inr (Or.inr (Or.inr (Or.inr (Or.inr (Or.inl (UInt8.toNat_inj.1 (by rw [h]; rfl))))))))))))
   ·exact Or.inr (Or.inr (Or.inr (Or.inr (Or.inr (Or.inr (Or.inr (Or.inr (Or.inr (Or.inr (Or.inr (Or.inl (UInt8.toNat_inj.1 (by rw [h]; rfl)))))))))))))
   ·exact Or.inr (Or.inr (Or.inr (Or.inr (Or.inr (Or.inr (Or.inr (Or.inr (Or.inr (Or.inr (Or.inr (Or.inr (Or.inl (UInt8.toNat_inj.1 (by rw [h]; rfl))))))))))))))
   ·exact Or.inr (Or.inr (Or.inr (Or.inr (Or.inr (Or.inr (Or.inr (Or.inr (Or.inr (Or.inr (Or.inr (Or.inr (Or.inr (Or.inl (UInt8.toNat_inj.1 (by rw [h]; rfl)))))))))))))))
   ·exact Or.inr (Or.inr (Or.inr (Or.inr (Or.inr (Or.inr (Or.inr (Or.inr (Or.inr (Or.inr (Or.inr (Or.inr (Or.inr (Or.inr (Or.inl (UInt8.toNat_inj.1 (by rw [h]; rfl))))))))))))))))
   ·exact Or.inr (Or.inr (Or.inr (Or.inr (Or.inr (Or.inr (Or.inr (Or.inr (Or.inr (Or.inr (Or.inr (Or.inr (Or.inr (Or.inr (Or.inr (Or.inl (UInt8.toNat_inj.1 (by rw [h]; rfl)))))))))))))))))
   ·exact Or.inr (Or.inr (Or.inr (Or.inr (Or.inr (Or.inr (Or.inr (Or.inr (Or.inr (Or.inr (Or.inr (Or.inr (Or.inr (Or.inr (Or.inr (Or.inr (Or.inl (UInt8.toNat_inj.1 (by rw [h]; rfl))))))))))))))))))
   ·exact Or.inr (Or.inr (Or.inr (Or.inr (Or.inr (Or.inr (Or.inr (Or.inr (Or.inr (Or.inr (Or.inr (Or.inr (Or.inr (Or.inr (Or.inr (Or.inr (Or.inr (Or.inl (UInt8.toNat_inj.1 (by rw [h]; rfl)))))))))))))))))))
   ·exact Or.inr (Or.inr (Or.inr (Or.inr (Or.inr (Or.inr (Or.inr (Or.inr (Or.inr (Or.inr (Or.inr (Or.inr (Or.inr (Or.inr (Or.inr (Or.inr (Or.inr (Or.inr (Or.inl (UInt8.toNat_inj.1 (by rw [h]; rfl))))))))))))))))))))
   ·exact Or.inr (Or.inr (Or.inr (Or.inr (Or.inr (Or.inr (Or.inr (Or.inr (Or.inr (Or.inr (Or.inr (Or.inr (Or.inr (Or.inr (Or.inr (Or.inr (Or.inr (Or.inr (Or.inr (Or.inl (UInt8.toNat_inj.1 (by rw [h]; rfl)))))))))))))))))))))
   ·exact Or.inr (Or.inr (Or.inr (Or.inr (Or.inr (Or.inr (Or.inr (Or.inr (Or.inr (Or.inr (Or.inr (Or.inr (Or.inr (Or.inr (Or.inr (Or.inr (Or.inr (Or.inr (Or.inr (Or.inr ((UInt8.toNat_inj.1 (by rw [h]; rfl))))))))))))))))))))))
  rcases ht with rfl | rfl | rfl | rfl | rfl | rfl | rfl | rfl | rfl | rfl | rfl | rfl | rfl | rfl | rfl | rfl | rfl | rfl | rfl | rfl | rfl
  ·exact row_run (mc1 f fr tt ix pe co ba ve tx v6 hi lo po cd te da sg) rfl rfl
  ·exact row_run (mc2 f fr tt ix pe co ba ve tx v6 hi lo po cd te da sg) rfl rfl
  ·exact row_run (mc3 f fr tt ix pe co ba ve tx v6 hi lo po cd te da sg) rfl rfl
  ·exact row_run (mc4 f fr tt ix pe co ba ve tx v6 hi lo po cd te da sg) rfl rfl
  ·exact row_run (mc5 f fr tt ix pe co ba ve tx v6 hi lo po cd te da sg) rfl rfl
  ·exact row_run (mc6 f fr tt ix pe co ba ve tx v6 hi lo po cd te da sg) rfl rfl
  ·exact row_run (mc7 f fr tt ix pe co ba ve tx v6 hi lo po cd te da sg) rfl rfl
  ·exact row_run (mc8 f fr tt ix pe co ba ve tx v6 hi lo po cd te da sg) rfl rfl
  ·exact row_run (mc9 f fr tt ix pe co ba ve tx v6 hi lo po cd te da sg) rfl rfl
  ·exact row_run (mc10 f fr tt ix pe co ba ve tx v6 hi lo po cd te da sg) rfl rfl
  ·exact row_run (mc11 f fr tt ix pe co ba ve tx v6 hi lo po cd te da sg) rfl rfl
  ·exact row_run (mc12 f fr tt ix pe co ba ve tx v6 hi lo po cd te da sg) rfl rfl
  ·exact row_run (mc13 f fr tt ix pe co ba ve tx v6 hi lo po cd te da sg) rfl rfl
  ·exact row_run (mc14 f fr tt ix pe co ba ve tx v6 hi lo po cd te da sg) rfl rfl
  ·exact row_run (mc15 f fr tt ix pe co ba ve tx v6 hi lo po cd te da sg) rfl rfl
  ·exact row_run (mc16 f fr tt ix pe co ba ve tx v6 hi lo po cd te da sg) rfl rfl
  ·exact row_run (mc17 f fr tt ix pe co ba ve tx v6 hi lo po cd te da sg) rfl rfl
  ·exact row_run (mc18 f fr tt ix pe co ba ve tx v6 hi lo po cd te da sg) rfl rfl
  ·exact row_run (mc19 f fr tt ix pe co ba ve tx v6 hi lo po cd te da sg) rfl rfl
  ·exact row_run (mc20 f fr tt ix pe co ba ve tx v6 hi lo po cd te da sg) rfl rfl
  ·exact row_run (mc21 f fr tt ix pe co ba ve tx v6 hi lo po cd te da sg) rfl rfl
def k13 (mv:Ms→Int):List AVal→Option EffA
 | [.agg [.u8 ty,.str fr,.str tt,.u32 ix,.u32 pe,.u64 co,.u64 ba,.u64 ve,.str tx,.bool v6,.u64 hi,.u64 lo,.int .u16 po,.int .u16 cd,.str te,.str da,.str sg]]=>some (tL (some (.int .i64 (mv ⟨ty,fr,tt,ix,pe,co,ba,ve,tx,v6,hi,lo,po,cd,te,da,sg⟩))))
 | _=>none
theorem k13_ok:CSOk Tryd.prog (csOne 13 (k13 (mayC (tx far)))):=csOne_ok fun args e he=>by
 unfold k13 at he
 split at he
 ·rename_i ty fr tt ix pe co ba ve tx0 v6 hi lo po cd te da sg
  cases he
  refine callOk_tL nN_ok (by kernel_rfl) fun y hy => ?_
  cases hy
  exact ⟨rfl,_,_,run_of (may_run (Go.Proofs.YthlemfnkmpikjaaDoor.tx far) ⟨ty,fr,tt,ix,pe,co,ba,ve,tx0,v6,hi,lo,po,cd,te,da,sg⟩)⟩
 ·cases he
end Go.Proofs.YthlemfnkmpikjaaDoor
namespace Go.Proofs.YthlemfnkmpikjaaDoor
open Go Go.Eng Go.Num Go.Msg
def ma2 (v:Bool) (hi lo:UInt64):Bool:=cond v true (cond (hi == 0) (decide (lo < 4294967296)) false)
theorem r38a (v:Bool) (hi lo:UInt64):ansO (run1O Tryd.prog noPS nI [5,9,14] [true] [] (mask 38) 200 38 [.agg [.bool v,.u64 hi,.u64 lo]] [] 4)=some (.bool true,[v]):=by kernel_rfl
theorem r38b (v:Bool) (hi lo:UInt64):ansO (run1O Tryd.prog noPS nI [5,9,14] [false,true] [] (mask 38) 200 38 [.agg [.bool v,.u64 hi,.u64 lo]] [] 4)=some (.bool (decide (lo < 4294967296)),[hi == 0,!v]):=by kernel_rfl
theorem r38c (v:Bool) (hi lo:UInt64):ansO (run1O Tryd.prog noPS nI [5,9,14] [false,false] [] (mask 38) 200 38 [.agg [.bool v,.u64 hi,.u64 lo]] [] 4)=some (.bool false,[!(hi == 0),!v]):=by kernel_rfl
theorem run38 (v:Bool) (hi lo:UInt64):(run1 Tryd.prog nI (mask 38) 200 38 [.agg [.bool v,.u64 hi,.u64 lo]] [] 4).map (·.1)=some (.bool (ma2 v hi lo)):=by
 unfold ma2
 cases v with
 | true=>exact ansO_run (noPS_ok _) (r38a true hi lo) rfl
 | false =>
  cases h:(hi == 0) with
  | true=>exact ansO_run (noPS_ok _) (r38b false hi lo) (by rw [h]; rfl)
  | false=>exact ansO_run (noPS_ok _) (r38c false hi lo) (by rw [h]; rfl)
theorem k38_ok:CSOk Tryd.prog (csOne 38 (k56 ma2)):=csOne_ok fun args e he=>by
 unfold k56 at he
 split at he
 ·rename_i v hi lo
  cases he
  have:=run38 v hi lo
  rw [← gl] at this
  exact callOk_val nI_ok hmix this rfl rfl
 ·cases he
noncomputable def nD:CS:=inlW Tryd.prog mask 200 (csOne 38 (k56 ma2)) 4
theorem nD_ok:CSOk Tryd.prog nD:=inlW_ok hmix k38_ok 4
def zE (m:Ms):Bool:=((m.v6 == false) && ((m.hi == 0) && ((m.lo == 0) && true))) && ((m.po == 0) && true)
def tDoc (h:Msg.Fd→Bool) (m:Ms):List (Bool × Bool):=
 (false,cond (h .F) (lenI m.fr == 32) (m.fr == []))::(false,cond (h .T) (lenI m.tt == 32) (m.tt == []))::(false,cond (h .X) (lenI m.tx == 16) (m.tx == []))::(false,cond (h .S) (lenI m.sg == 64) (m.sg == [])) ::
  (cond (h .I) [] [(true,m.ix != 0)]++(cond (h .P) [] [(true,m.pe != 0)]++(cond (h .C) [] [(true,m.co != 0)]++(cond (h .B) [] [(true,m.ba != 0)]++(cond (h .V) [] [(true,m.ve != 0)]++(cond (h .K) [] [(true,m.cd != 0)] ++
   (cond (h .N) [] [(true,!(m.te == []))]++(cond (h .D) [] [(true,!(m.da == []))]++(cond (h .E) [] [(true,!(zE m))] ++
    [(false,ma2 m.v6 m.hi m.lo),(true,decide ((64:Int) < lenI m.te)),(true,decide ((32768:Int) < lenI m.da))])))))))))
def eDoc (h:Msg.Fd→Bool):List Int:=151::151::151::151 ::
  (cond (h .I) [] [151]++(cond (h .P) [] [151]++(cond (h .C) [] [151]++(cond (h .B) [] [151]++(cond (h .V) [] [151]++(cond (h .K) [] [151] ++
   (cond (h .N) [] [151]++(cond (h .D) [] [151]++(cond (h .E) [] [151]++[151,4,4])))))))))
def sDoc:List Nat:=[12,18,25,32,41,50,60,70,80,90,99,108,119,126,132,137]
end Go.Proofs.YthlemfnkmpikjaaDoor
namespace Go.Proofs.YthlemfnkmpikjaaDoor
open Go Go.Eng Go.Num Go.Msg
def okA (l:List (Bool × Bool)):Bool:=l.all fun x => !badB x
theorem firstB_split:∀ (A:List (Bool × Bool)) (a b:Bool),firstB (A++[(true,a),(true,b)]) (List.replicate A.length 151++[4,4])=cond (okA A) (cond (a || b) 4 0) 151
 | [],a,b=>by cases a <;> cases b <;> rfl
 | x::A,a,b=>by
  have ih:=firstB_split A a b
  simp only [List.length_cons,List.replicate_succ,List.cons_append,firstB,ih,okA,List.all_cons]
  cases badB x <;> rfl
def lT (m:Ms):Bool:=decide ((64:Int) < lenI m.te)
def lD (m:Ms):Bool:=decide ((32768:Int) < lenI m.da)
def aCode (f:Bool→UInt64→UInt64→List UInt8) (h:Msg.Fd→Bool) (m:Ms):List (Bool × Bool):=
 (true,!(rEq h m))::(false,lenI m.fr == cond (h .F) 32 0)::(false,lenI m.tt == cond (h .T) 32 0)::(false,lenI m.tx == cond (h .X) 16 0)::(false,lenI m.sg == cond (h .S) 64 0)::cond (h .E) [(true,f m.v6 m.hi m.lo == [])] []
theorem tCode_split (f:Bool→UInt64→UInt64→List UInt8) (h:Msg.Fd→Bool) (m:Ms):tCode f h m=aCode f h m++[(true,lT m),(true,lD m)]∧eCode h=List.replicate (aCode f h m).length 151++[4,4]:=by
 unfold tCode eCode aCode lT lD
 cases h .E <;> exact ⟨rfl,rfl⟩
def oF (b t:Bool):List (Bool × Bool):=cond b [] [(true,t)]
def aDoc (h:Msg.Fd→Bool) (m:Ms):List (Bool × Bool):=
 (false,cond (h .F) (lenI m.fr == 32) (m.fr == []))::(false,cond (h .T) (lenI m.tt == 32) (m.tt == []))::(false,cond (h .X) (lenI m.tx == 16) (m.tx == []))::(false,cond (h .S) (lenI m.sg == 64) (m.sg == [])) ::
  (oF (h .I) (m.ix != 0)++(oF (h .P) (m.pe != 0)++(oF (h .C) (m.co != 0)++(oF (h .B) (m.ba != 0)++(oF (h .V) (m.ve != 0)++(oF (h .K) (m.cd != 0)++(oF (h .N) (!(m.te == []))++(oF (h .D) (!(m.da == []))++(oF (h .E) (!(zE m))++[(false,ma2 m.v6 m.hi m.lo)])))))))))
theorem rep_app {b c:Bool}{t:Bool}(l:List Int) (k:Nat) (e:l=List.replicate k 151++[4,4]):cond b [] [151]++l=List.replicate ((oF b t).length+k) 151++[4,4]:=by
 subst e
 unfold oF
 cases b with
 | true=>simp only [cond_true,List.nil_append,List.length_nil,Nat.zero_add]
 | false =>
  simp only [cond_false,List.length_cons,List.length_nil,List.cons_append,List.nil_append,Nat.zero_add]
  rw [Nat.add_comm 1 k,List.replicate_succ,List.cons_append]
theorem tDoc_split (h:Msg.Fd→Bool) (m:Ms):tDoc h m=aDoc h m++[(true,lT m),(true,lD m)]∧eDoc h=List.replicate (aDoc h m).length 151++[4,4]:=by
 refine ⟨?_,?_⟩
 ·unfold tDoc aDoc oF lT lD
  simp only [List.cons_append,List.append_assoc,List.nil_append]
 ·have c1:([151,4,4]:List Int)=List.replicate 1 151++[4,4]:=rfl
  have c2:=rep_app (b:=h .E) (c:=true) (t:=!(zE m)) _ _ c1
  have c3:=rep_app (b:=h .D) (c:=true) (t:=!(m.da == [])) _ _ c2
  have c4:=rep_app (b:=h .N) (c:=true) (t:=!(m.te == [])) _ _ c3
  have c5:=rep_app (b:=h .K) (c:=true) (t:=m.cd != 0) _ _ c4
  have c6:=rep_app (b:=h .V) (c:=true) (t:=m.ve != 0) _ _ c5
  have c7:=rep_app (b:=h .B) (c:=true) (t:=m.ba != 0) _ _ c6
  have c8:=rep_app (b:=h .C) (c:=true) (t:=m.co != 0) _ _ c7
  have c9:=rep_app (b:=h .P) (c:=true) (t:=m.pe != 0) _ _ c8
  have c10:=rep_app (b:=h .I) (c:=true) (t:=m.ix != 0) _ _ c9
  unfold eDoc
  rw [c10]
  unfold aDoc
  simp only [List.length_cons,List.length_append,List.length_nil,Nat.zero_add,List.replicate_succ,List.cons_append]
theorem okA_cons (x:Bool × Bool) (l:List (Bool × Bool)):okA (x::l)=(!badB x && okA l):=rfl
theorem okA_app (a b:List (Bool × Bool)):okA (a++b)=(okA a && okA b):=by unfold okA; rw [List.all_append]
theorem okA_oF (b t:Bool):okA (oF b t)=(b || !t):=by cases b <;> cases t <;> rfl
theorem bad_f (e:Bool):(!badB (false,e))=e:=by cases e <;> rfl
theorem bad_t (e:Bool):(!badB (true,e)) = !e:=by cases e <;> rfl
def okS (h:Msg.Fd→Bool) (m:Ms):Bool:=
 cond (h .F) (lenI m.fr == 32) (m.fr == []) && (cond (h .T) (lenI m.tt == 32) (m.tt == []) && (cond (h .X) (lenI m.tx == 16) (m.tx == []) && (cond (h .S) (lenI m.sg == 64) (m.sg == []) &&
  ((h .I || m.ix == 0) && ((h .P || m.pe == 0) && ((h .C || m.co == 0) && ((h .B || m.ba == 0) && ((h .V || m.ve == 0) && ((h .K || m.cd == 0) && ((h .N || m.te == []) && ((h .D || m.da == []) && ((h .E || zE m) && ma2 m.v6 m.hi m.lo))))))))))))
theorem bnn {α:Type} [BEq α] (a b:α):(!(a != b))=(a == b):=by simp [bne]
theorem okDoc (h:Msg.Fd→Bool) (m:Ms):okA (aDoc h m)=okS h m:=by
 unfold aDoc okS
 simp only [okA_cons,okA_app,okA_oF,bad_f,bnn,Bool.not_not]
 have:okA ([]:List (Bool × Bool))=true:=rfl
 rw [this,Bool.and_true]
theorem len0 (l:List UInt8):(lenI l == 0)=(l == []):=by cases l <;> simp [lenI]; omega
theorem lenC (b:Bool) (l:List UInt8) (n:Int):(lenI l == cond b n 0)=cond b (lenI l == n) (l == []):=by cases b <;> simp only [cond_true,cond_false,len0]
theorem may_same (v:Bool) (hi lo:UInt64):mayA v hi lo=ma2 v hi lo:=by
 unfold mayA ma2
 have e:(shr_u64 lo 32 == 0)=decide (lo < 4294967296):=by
  have h1:(shr_u64 lo 32).toNat=lo.toNat / 4294967296:=shr_nat lo 32 (by omega)
  rw [Bool.eq_iff_iff,beq_iff_eq,decide_eq_true_eq,UInt64.lt_iff_toNat_lt,← UInt64.toNat_inj,h1]
  have h2:(4294967296:UInt64).toNat=4294967296:=rfl
  have h3:(0:UInt64).toNat=0:=rfl
  rw [h2,h3]
  omega
 rw [e]
theorem tx_nil (v:Bool) (hi lo:UInt64):(tx far v hi lo == []) = !(ma2 v hi lo):=by
 rw [← may_same,← tx_empty]
 cases tx far v hi lo <;> rfl
theorem zE_may {m:Ms}(h:zE m=true):ma2 m.v6 m.hi m.lo=true:=by
 unfold zE at h
 simp only [Bool.and_eq_true,beq_iff_eq,and_true] at h
 obtain ⟨⟨h1,h2,h3⟩,_⟩:=h
 rw [h1,h2,h3]
 rfl
theorem c0 {α:Type} [BEq α] [LawfulBEq α] (b:Bool) (z x:α):(cond b z x == z)=(b || x == z):=by cases b <;> simp
theorem rEq_eq (h:Msg.Fd→Bool) (m:Ms):rEq h m=((h .I || m.ix == 0) && ((h .P || m.pe == 0) && ((h .C || m.co == 0) && ((h .B || m.ba == 0) && ((h .V || m.ve == 0) && ((h .E || zE m) && ((h .K || m.cd == 0) && ((h .N || m.te == []) && (h .D || m.da == []))))))))):=by
 have hE:((((cond (h .E) false m.v6 == false) && ((cond (h .E) 0 m.hi == 0) && ((cond (h .E) 0 m.lo == 0) && true))) && ((cond (h .E) 0 m.po == 0) && true)))=(h .E || zE m):=by
  unfold zE
  cases h .E <;> rfl
 unfold rEq
 rw [hE]
 simp only [c0,beq_self_eq_true,Bool.true_and,Bool.and_true]
theorem okCode (h:Msg.Fd→Bool) (m:Ms):okA (aCode (tx far) h m)=okS h m:=by
 have e:okA (cond (h .E) [(true,tx far m.v6 m.hi m.lo == [])] [])=(!(h .E) || ma2 m.v6 m.hi m.lo):=by
  rw [tx_nil]
  cases h .E <;> cases ma2 m.v6 m.hi m.lo <;> rfl
 have hz:∀ b:Bool,((b || zE m) && (!b || ma2 m.v6 m.hi m.lo))=((b || zE m) && ma2 m.v6 m.hi m.lo):=fun b=>by
  cases b with
  | true=>rfl
  | false =>
   cases hz:zE m with
   | false=>rfl
   | true=>rw [zE_may hz]; rfl
 unfold aCode okS
 simp only [okA_cons,bad_f,bad_t,Bool.not_not,lenC,e,rEq_eq]
 rw [Bool.eq_iff_iff]
 have hz':=congrArg (· = true) (hz (h .E))
 simp only [Bool.and_eq_true] at hz' ⊢
 constructor
 ·rintro ⟨⟨i1,i2,i3,i4,i5,i6,i7,i8,i9⟩,f1,f2,f3,f4,f5⟩
  have:=hz'.mp ⟨i6,f5⟩
  exact ⟨f1,f2,f3,f4,i1,i2,i3,i4,i5,i7,i8,i9,i6,this.2⟩
 ·rintro ⟨f1,f2,f3,f4,i1,i2,i3,i4,i5,i7,i8,i9,i6,f5⟩
  have:=hz'.mpr ⟨i6,f5⟩
  exact ⟨⟨i1,i2,i3,i4,i5,i6,i7,i8,i9⟩,f1,f2,f3,f4,this.2⟩
def mayS (m:Ms):Int:=cond (fds m.ty.toNat).isEmpty 150 (cond (okS (hasL (fds m.ty.toNat)) m) (cond (lT m || lD m) 4 0) 151)
theorem mayC_eq (m:Ms):mayC (tx far) m=mayS m:=by
 unfold mayC mayS
 obtain ⟨e1,e2⟩:=tCode_split (tx far) (hasL (fds m.ty.toNat)) m
 rw [e1,e2,firstB_split,okCode]
def mayD (m:Ms):Int:=cond (fds m.ty.toNat).isEmpty 150 (firstB (tDoc (hasL (fds m.ty.toNat)) m) (eDoc (hasL (fds m.ty.toNat))))
theorem mayD_eq (m:Ms):mayD m=mayS m:=by
 unfold mayD mayS
 obtain ⟨e1,e2⟩:=tDoc_split (hasL (fds m.ty.toNat)) m
 rw [e1,e2,firstB_split,okDoc]
end Go.Proofs.YthlemfnkmpikjaaDoor
namespace Go.Proofs.YthlemfnkmpikjaaDoor
open Go Go.Eng Go.Num Go.Msg
theorem fdEq_iff (a b:Msg.Fd):fdEq a b=true ↔ a=b:=by cases a <;> cases b <;> simp [fdEq]
theorem has_iff (l:List Msg.Fd) (f:Msg.Fd):hasL l f=true ↔ f ∈ l:=by
 unfold hasL
 rw [List.any_eq_true]
 constructor
 ·rintro ⟨x,hx,e⟩
  rw [(fdEq_iff f x).1 e]
  exact hx
 ·intro h
  exact ⟨f,h,(fdEq_iff f f).2 rfl⟩
theorem has_not {l:List Msg.Fd}{f:Msg.Fd}(h:f ∉ l):hasL l f=false:=by
 cases e:hasL l f with
 | false=>rfl
 | true=>exact absurd ((has_iff l f).1 e) h
theorem lo32 (lo:UInt64):lo.toUInt32.toUInt64=lo ↔ lo < 4294967296:=by
 have h2:(4294967296:UInt64).toNat=4294967296:=rfl
 rw [← UInt64.toNat_inj,UInt32.toNat_toUInt64,UInt64.toNat_toUInt32,UInt64.lt_iff_toNat_lt,h2]
 omega
theorem ma2_iff (v:Bool) (hi lo:UInt64):ma2 v hi lo=true ↔ (v=true ∨ hi=0∧lo.toUInt32.toUInt64=lo):=by
 unfold ma2
 rw [lo32]
 cases v with
 | true=>simp
 | false =>
  cases h:(hi == 0) with
  | true =>
   have:=eq_of_beq h
   simp [this]
  | false =>
   have:hi ≠ 0:=by simpa using h
   simp [this]
def rngM (m:Ms):Prop:=(0≤m.po∧m.po < 65536)∧0≤m.cd∧m.cd < 65536
theorem may_good {m:Ms}(hr:rngM m) (h:mayS m=0):(fds m.ty.toNat).isEmpty=false∧(∀ f ∈ fds m.ty.toNat,good m f)∧∀ f,f ∉ fds m.ty.toNat→sameF m zeroM f:=by
 unfold mayS at h
 cases he:(fds m.ty.toNat).isEmpty with
 | true=>rw [he,cond_true] at h; exact absurd h (by decide)
 | false =>
  rw [he,cond_false] at h
  cases ho:okS (hasL (fds m.ty.toNat)) m with
  | false=>rw [ho,cond_false] at h; exact absurd h (by decide)
  | true =>
   rw [ho,cond_true] at h
   cases hl:(lT m || lD m) with
   | true=>rw [hl,cond_true] at h; exact absurd h (by decide)
   | false =>
    obtain ⟨l1,l2⟩:lT m=false∧lD m=false:=by simpa using hl
    unfold lT at l1
    unfold lD at l2
    have l1':=of_decide_eq_false l1
    have l2':=of_decide_eq_false l2
    generalize fds m.ty.toNat=L at ho
    unfold okS at ho
    simp only [Bool.and_eq_true] at ho
    obtain ⟨hF,hT,hX,hS,hI,hP,hC,hB,hV,hK,hN,hD,hE,hm⟩:=ho
    refine ⟨rfl,fun f hf => ?_,fun f hf => ?_⟩
    ·have hb:=(has_iff L f).2 hf
     cases f
     case F=>rw [hb,cond_true] at hF; have:=eq_of_beq hF; unfold lenI at this; simp only [good]; omega
     case T=>rw [hb,cond_true] at hT; have:=eq_of_beq hT; unfold lenI at this; simp only [good]; omega
     case X=>rw [hb,cond_true] at hX; have:=eq_of_beq hX; unfold lenI at this; simp only [good]; omega
     case S=>rw [hb,cond_true] at hS; have:=eq_of_beq hS; unfold lenI at this; simp only [good]; omega
     case E=>exact ⟨(ma2_iff _ _ _).1 hm,hr.1⟩
     case K=>exact hr.2
     case N=>unfold lenI at l1'; simp only [good]; omega
     case D=>unfold lenI at l2'; simp only [good]; omega
     all_goals trivial
    ·have hb:=has_not hf
     cases f
     case F=>rw [hb,cond_false] at hF; exact eq_of_beq hF
     case T=>rw [hb,cond_false] at hT; exact eq_of_beq hT
     case X=>rw [hb,cond_false] at hX; exact eq_of_beq hX
     case S=>rw [hb,cond_false] at hS; exact eq_of_beq hS
     case I=>rw [hb,Bool.false_or] at hI; exact eq_of_beq hI
     case P=>rw [hb,Bool.false_or] at hP; exact eq_of_beq hP
     case C=>rw [hb,Bool.false_or] at hC; exact eq_of_beq hC
     case B=>rw [hb,Bool.false_or] at hB; exact eq_of_beq hB
     case V=>rw [hb,Bool.false_or] at hV; exact eq_of_beq hV
     case K=>rw [hb,Bool.false_or] at hK; exact eq_of_beq hK
     case N=>rw [hb,Bool.false_or] at hN; exact eq_of_beq hN
     case D=>rw [hb,Bool.false_or] at hD; exact eq_of_beq hD
     case E =>
      rw [hb,Bool.false_or] at hE
      unfold zE at hE
      simp only [Bool.and_eq_true,beq_iff_eq,and_true] at hE
      exact ⟨hE.1.1,hE.1.2.1,hE.1.2.2,hE.2⟩
theorem good_may {m:Ms}(he:(fds m.ty.toNat).isEmpty=false) (hg:∀ f ∈ fds m.ty.toNat,good m f) (ha:∀ f,f ∉ fds m.ty.toNat→sameF m zeroM f):mayS m=0:=by
 unfold mayS
 rw [he,cond_false]
 generalize fds m.ty.toNat=L at hg ha
 have lenE:∀ (l:List UInt8) (n:Nat),l.length=n→(lenI l == (n:Int))=true:=fun l n h=>by unfold lenI; rw [h]; simp
 have dec:∀ f,hasL L f=true∧good m f ∨ hasL L f=false∧sameF m zeroM f:=fun f=>by
  cases h:hasL L f with
  | true=>exact .inl ⟨rfl,hg f ((has_iff L f).1 h)⟩
  | false=>exact .inr ⟨rfl,ha f fun hf=>by rw [(has_iff L f).2 hf] at h; cases h⟩
 have ho:okS (hasL L) m=true:=by
  unfold okS
  simp only [Bool.and_eq_true]
  refine ⟨?_,?_,?_,?_,?_,?_,?_,?_,?_,?_,?_,?_,?_,?_⟩
  ·rcases dec .F with ⟨h,g⟩ | ⟨h,g⟩ <;> rw [h]
   ·exact lenE _ 32 g
   ·rw [cond_false]; exact beq_iff_eq.2 g
  ·rcases dec .T with ⟨h,g⟩ | ⟨h,g⟩ <;> rw [h]
   ·exact lenE _ 32 g
   ·rw [cond_false]; exact beq_iff_eq.2 g
  ·rcases dec .X with ⟨h,g⟩ | ⟨h,g⟩ <;> rw [h]
   ·exact lenE _ 16 g
   ·rw [cond_false]; exact beq_iff_eq.2 g
  ·rcases dec .S with ⟨h,g⟩ | ⟨h,g⟩ <;> rw [h]
   ·exact lenE _ 64 g
   ·rw [cond_false]; exact beq_iff_eq.2 g
  ·rcases dec .I with ⟨h,g⟩ | ⟨h,g⟩ <;> rw [h]
   ·rfl
   ·rw [Bool.false_or]; exact beq_iff_eq.2 g
  ·rcases dec .P with ⟨h,g⟩ | ⟨h,g⟩ <;> rw [h]
   ·rfl
   ·rw [Bool.false_or]; exact beq_iff_eq.2 g
  ·rcases dec .C with ⟨h,g⟩ | ⟨h,g⟩ <;> rw [h]
   ·rfl
   ·rw [Bool.false_or]; exact beq_iff_eq.2 g
  ·rcases dec .B with ⟨h,g⟩ | ⟨h,g⟩ <;> rw [h]
   ·rfl
   ·rw [Bool.false_or]; exact beq_iff_eq.2 g
  ·rcases dec .V with ⟨h,g⟩ | ⟨h,g⟩ <;> rw [h]
   ·rfl
   ·rw [Bool.false_or]; exact beq_iff_eq.2 g
  ·rcases dec .K with ⟨h,g⟩ | ⟨h,g⟩ <;> rw [h]
   ·rfl
   ·rw [Bool.false_or]; exact beq_iff_eq.2 g
  ·rcases dec .N with ⟨h,g⟩ | ⟨h,g⟩ <;> rw [h]
   ·rfl
   ·rw [Bool.false_or]; exact beq_iff_eq.2 g
  ·rcases dec .D with ⟨h,g⟩ | ⟨h,g⟩ <;> rw [h]
   ·rfl
   ·rw [Bool.false_or]; exact beq_iff_eq.2 g
  ·rcases dec .E with ⟨h,g⟩ | ⟨h,g⟩ <;> rw [h]
   ·rfl
   ·obtain ⟨g1,g2,g3,g4⟩:=g
    rw [Bool.false_or]
    unfold zE
    rw [g1,g2,g3,g4]
    rfl
  ·rcases dec .E with ⟨h,g⟩ | ⟨h,g⟩
   ·exact (ma2_iff _ _ _).2 g.1
   ·obtain ⟨g1,g2,g3,_⟩:=g
    rw [g1,g2,g3]
    rfl
 have e1:lT m=false:=by
  unfold lT lenI
  refine decide_eq_false ?_
  rcases dec .N with ⟨h,g⟩ | ⟨h,g⟩
  ·have:m.te.length≤64:=g
   omega
  ·have:m.te=[]:=g
   rw [this]
   decide
 have e2:lD m=false:=by
  unfold lD lenI
  refine decide_eq_false ?_
  rcases dec .D with ⟨h,g⟩ | ⟨h,g⟩
  ·have:m.da.length≤32768:=g
   omega
  ·have:m.da=[]:=g
   rw [this]
   decide
 rw [ho,e1,e2]
 rfl
theorem nodup_fds (t:UInt8):(fds t.toNat).Nodup:=by
 unfold fds
 split <;> simp
theorem u32_64 (x:UInt32):x.toUInt64.toUInt32=x:=by
 apply UInt32.toNat_inj.1
 rw [UInt64.toNat_toUInt32,UInt32.toNat_toUInt64]
 have:=x.toNat_lt
 omega
end Go.Proofs.YthlemfnkmpikjaaDoor
namespace Go.Proofs.YthlemfnkmpikjaaDoor
open Go Go.Eng Go.Num Go.Msg
set_option maxHeartbeats 4000000
theorem md1 (fr tt:List UInt8) (ix pe:UInt32) (co ba ve:UInt64) (tx:List UInt8) (v6:Bool) (hi lo:UInt64) (po cd:Int) (te da sg:List UInt8):∀ k:Nat,k≤15→ansO (run1O Tryd.prog noPS nD sDoc (osR (tDoc (hasL (fds 1)) ⟨1,fr,tt,ix,pe,co,ba,ve,tx,v6,hi,lo,po,cd,te,da,sg⟩) k) [] (mask 14) 200 14 [mA ⟨1,fr,tt,ix,pe,co,ba,ve,tx,v6,hi,lo,po,cd,te,da,sg⟩] H0 4)=some (.int .i64 ((eDoc (hasL (fds 1))).getD k 0),(obR (tDoc (hasL (fds 1)) ⟨1,fr,tt,ix,pe,co,ba,ve,tx,v6,hi,lo,po,cd,te,da,sg⟩) k).reverse)
 | 0,_=>by kernel_rfl
 | 1,_=>by kernel_rfl
 | 2,_=>by kernel_rfl
 | 3,_=>by kernel_rfl
 | 4,_=>by kernel_rfl
 | 5,_=>by kernel_rfl
 | 6,_=>by kernel_rfl
 | 7,_=>by kernel_rfl
 | 8,_=>by kernel_rfl
 | 9,_=>by kernel_rfl
 | 10,_=>by kernel_rfl
 | 11,_=>by kernel_rfl
 | 12,_=>by kernel_rfl
 | 13,_=>by kernel_rfl
 | 14,_=>by kernel_rfl
 | 15,_=>by kernel_rfl
 | n+16,h=>absurd h (by omega)
theorem md2 (fr tt:List UInt8) (ix pe:UInt32) (co ba ve:UInt64) (tx:List UInt8) (v6:Bool) (hi lo:UInt64) (po cd:Int) (te da sg:List UInt8):∀ k:Nat,k≤14→ansO (run1O Tryd.prog noPS nD sDoc (osR (tDoc (hasL (fds 2)) ⟨2,fr,tt,ix,pe,co,ba,ve,tx,v6,hi,lo,po,cd,te,da,sg⟩) k) [] (mask 14) 200 14 [mA ⟨2,fr,tt,ix,pe,co,ba,ve,tx,v6,hi,lo,po,cd,te,da,sg⟩] H0 4)=some (.int .i64 ((eDoc (hasL (fds 2))).getD k 0),(obR (tDoc (hasL (fds 2)) ⟨2,fr,tt,ix,pe,co,ba,ve,tx,v6,hi,lo,po,cd,te,da,sg⟩) k).reverse)
 | 0,_=>by kernel_rfl
 | 1,_=>by kernel_rfl
 | 2,_=>by kernel_rfl
 | 3,_=>by kernel_rfl
 | 4,_=>by kernel_rfl
 | 5,_=>by kernel_rfl
 | 6,_=>by kernel_rfl
 | 7,_=>by kernel_rfl
 | 8,_=>by kernel_rfl
 | 9,_=>by kernel_rfl
 | 10,_=>by kernel_rfl
 | 11,_=>by kernel_rfl
 | 12,_=>by kernel_rfl
 | 13,_=>by kernel_rfl
 | 14,_=>by kernel_rfl
 | n+15,h=>absurd h (by omega)
theorem md3 (fr tt:List UInt8) (ix pe:UInt32) (co ba ve:UInt64) (tx:List UInt8) (v6:Bool) (hi lo:UInt64) (po cd:Int) (te da sg:List UInt8):∀ k:Nat,k≤15→ansO (run1O Tryd.prog noPS nD sDoc (osR (tDoc (hasL (fds 3)) ⟨3,fr,tt,ix,pe,co,ba,ve,tx,v6,hi,lo,po,cd,te,da,sg⟩) k) [] (mask 14) 200 14 [mA ⟨3,fr,tt,ix,pe,co,ba,ve,tx,v6,hi,lo,po,cd,te,da,sg⟩] H0 4)=some (.int .i64 ((eDoc (hasL (fds 3))).getD k 0),(obR (tDoc (hasL (fds 3)) ⟨3,fr,tt,ix,pe,co,ba,ve,tx,v6,hi,lo,po,cd,te,da,sg⟩) k).reverse)
 | 0,_=>by kernel_rfl
 | 1,_=>by kernel_rfl
 | 2,_=>by kernel_rfl
 | 3,_=>by kernel_rfl
 | 4,_=>by kernel_rfl
 | 5,_=>by kernel_rfl
 | 6,_=>by kernel_rfl
 | 7,_=>by kernel_rfl
 | 8,_=>by kernel_rfl
 | 9,_=>by kernel_rfl
 | 10,_=>by kernel_rfl
 | 11,_=>by kernel_rfl
 | 12,_=>by kernel_rfl
 | 13,_=>by kernel_rfl
 | 14,_=>by kernel_rfl
 | 15,_=>by kernel_rfl
 | n+16,h=>absurd h (by omega)
theorem md4 (fr tt:List UInt8) (ix pe:UInt32) (co ba ve:UInt64) (tx:List UInt8) (v6:Bool) (hi lo:UInt64) (po cd:Int) (te da sg:List UInt8):∀ k:Nat,k≤14→ansO (run1O Tryd.prog noPS nD sDoc (osR (tDoc (hasL (fds 4)) ⟨4,fr,tt,ix,pe,co,ba,ve,tx,v6,hi,lo,po,cd,te,da,sg⟩) k) [] (mask 14) 200 14 [mA ⟨4,fr,tt,ix,pe,co,ba,ve,tx,v6,hi,lo,po,cd,te,da,sg⟩] H0 4)=some (.int .i64 ((eDoc (hasL (fds 4))).getD k 0),(obR (tDoc (hasL (fds 4)) ⟨4,fr,tt,ix,pe,co,ba,ve,tx,v6,hi,lo,po,cd,te,da,sg⟩) k).reverse)
 | 0,_=>by kernel_rfl
 | 1,_=>by kernel_rfl
 | 2,_=>by kernel_rfl
 | 3,_=>by kernel_rfl
 | 4,_=>by kernel_rfl
 | 5,_=>by kernel_rfl
 | 6,_=>by kernel_rfl
 | 7,_=>by kernel_rfl
 | 8,_=>by kernel_rfl
 | 9,_=>by kernel_rfl
 | 10,_=>by kernel_rfl
 | 11,_=>by kernel_rfl
 | 12,_=>by kernel_rfl
 | 13,_=>by kernel_rfl
 | 14,_=>by kernel_rfl
 | n+15,h=>absurd h (by omega)
theorem md5 (fr tt:List UInt8) (ix pe:UInt32) (co ba ve:UInt64) (tx:List UInt8) (v6:Bool) (hi lo:UInt64) (po cd:Int) (te da sg:List UInt8):∀ k:Nat,k≤13→ansO (run1O Tryd.prog noPS nD sDoc (osR (tDoc (hasL (fds 5)) ⟨5,fr,tt,ix,pe,co,ba,ve,tx,v6,hi,lo,po,cd,te,da,sg⟩) k) [] (mask 14) 200 14 [mA ⟨5,fr,tt,ix,pe,co,ba,ve,tx,v6,hi,lo,po,cd,te,da,sg⟩] H0 4)=some (.int .i64 ((eDoc (hasL (fds 5))).getD k 0),(obR (tDoc (hasL (fds 5)) ⟨5,fr,tt,ix,pe,co,ba,ve,tx,v6,hi,lo,po,cd,te,da,sg⟩) k).reverse)
 | 0,_=>by kernel_rfl
 | 1,_=>by kernel_rfl
 | 2,_=>by kernel_rfl
 | 3,_=>by kernel_rfl
 | 4,_=>by kernel_rfl
 | 5,_=>by kernel_rfl
 | 6,_=>by kernel_rfl
 | 7,_=>by kernel_rfl
 | 8,_=>by kernel_rfl
 | 9,_=>by kernel_rfl
 | 10,_=>by kernel_rfl
 | 11,_=>by kernel_rfl
 | 12,_=>by kernel_rfl
 | 13,_=>by kernel_rfl
 | n+14,h=>absurd h (by omega)
theorem md6 (fr tt:List UInt8) (ix pe:UInt32) (co ba ve:UInt64) (tx:List UInt8) (v6:Bool) (hi lo:UInt64) (po cd:Int) (te da sg:List UInt8):∀ k:Nat,k≤15→ansO (run1O Tryd.prog noPS nD sDoc (osR (tDoc (hasL (fds 6)) ⟨6,fr,tt,ix,pe,co,ba,ve,tx,v6,hi,lo,po,cd,te,da,sg⟩) k) [] (mask 14) 200 14 [mA ⟨6,fr,tt,ix,pe,co,ba,ve,tx,v6,hi,lo,po,cd,te,da,sg⟩] H0 4)=some (.int .i64 ((eDoc (hasL (fds 6))).getD k 0),(obR (tDoc (hasL (fds 6)) ⟨6,fr,tt,ix,pe,co,ba,ve,tx,v6,hi,lo,po,cd,te,da,sg⟩) k).reverse)
 | 0,_=>by kernel_rfl
 | 1,_=>by kernel_rfl
 | 2,_=>by kernel_rfl
 | 3,_=>by kernel_rfl
 | 4,_=>by kernel_rfl
 | 5,_=>by kernel_rfl
 | 6,_=>by kernel_rfl
 | 7,_=>by kernel_rfl
 | 8,_=>by kernel_rfl
 | 9,_=>by kernel_rfl
 | 10,_=>by kernel_rfl
 | 11,_=>by kernel_rfl
 | 12,_=>by kernel_rfl
 | 13,_=>by kernel_rfl
 | 14,_=>by kernel_rfl
 | 15,_=>by kernel_rfl
 | n+16,h=>absurd h (by omega)
theorem md7 (fr tt:List UInt8) (ix pe:UInt32) (co ba ve:UInt64) (tx:List UInt8) (v6:Bool) (hi lo:UInt64) (po cd:Int) (te da sg:List UInt8):∀ k:Nat,k≤16→ansO (run1O Tryd.prog noPS nD sDoc (osR (tDoc (hasL (fds 7)) ⟨7,fr,tt,ix,pe,co,ba,ve,tx,v6,hi,lo,po,cd,te,da,sg⟩) k) [] (mask 14) 200 14 [mA ⟨7,fr,tt,ix,pe,co,ba,ve,tx,v6,hi,lo,po,cd,te,da,sg⟩] H0 4)=some (.int .i64 ((eDoc (hasL (fds 7))).getD k 0),(obR (tDoc (hasL (fds 7)) ⟨7,fr,tt,ix,pe,co,ba,ve,tx,v6,hi,lo,po,cd,te,da,sg⟩) k).reverse)
 | 0,_=>by kernel_rfl
 | 1,_=>by kernel_rfl
 | 2,_=>by kernel_rfl
 | 3,_=>by kernel_rfl
 | 4,_=>by kernel_rfl
 | 5,_=>by kernel_rfl
 | 6,_=>by kernel_rfl
 | 7,_=>by kernel_rfl
 | 8,_=>by kernel_rfl
 | 9,_=>by kernel_rfl
 | 10,_=>by kernel_rfl
 | 11,_=>by kernel_rfl
 | 12,_=>by kernel_rfl
 | 13,_=>by kernel_rfl
 | 14,_=>by kernel_rfl
 | 15,_=>by kernel_rfl
 | 16,_=>by kernel_rfl
 | n+17,h=>absurd h (by omega)
theorem md8 (fr tt:List UInt8) (ix pe:UInt32) (co ba ve:UInt64) (tx:List UInt8) (v6:Bool) (hi lo:UInt64) (po cd:Int) (te da sg:List UInt8):∀ k:Nat,k≤15→ansO (run1O Tryd.prog noPS nD sDoc (osR (tDoc (hasL (fds 8)) ⟨8,fr,tt,ix,pe,co,ba,ve,tx,v6,hi,lo,po,cd,te,da,sg⟩) k) [] (mask 14) 200 14 [mA ⟨8,fr,tt,ix,pe,co,ba,ve,tx,v6,hi,lo,po,cd,te,da,sg⟩] H0 4)=some (.int .i64 ((eDoc (hasL (fds 8))).getD k 0),(obR (tDoc (hasL (fds 8)) ⟨8,fr,tt,ix,pe,co,ba,ve,tx,v6,hi,lo,po,cd,te,da,sg⟩) k).reverse)
 | 0,_=>by kernel_rfl
 | 1,_=>by kernel_rfl
 | 2,_=>by kernel_rfl
 | 3,_=>by kernel_rfl
 | 4,_=>by kernel_rfl
 | 5,_=>by kernel_rfl
 | 6,_=>by kernel_rfl
 | 7,_=>by kernel_rfl
 | 8,_=>by kernel_rfl
 | 9,_=>by kernel_rfl
 | 10,_=>by kernel_rfl
 | 11,_=>by kernel_rfl
 | 12,_=>by kernel_rfl
 | 13,_=>by kernel_rfl
 | 14,_=>by kernel_rfl
 | 15,_=>by kernel_rfl
 | n+16,h=>absurd h (by omega)
theorem md9 (fr tt:List UInt8) (ix pe:UInt32) (co ba ve:UInt64) (tx:List UInt8) (v6:Bool) (hi lo:UInt64) (po cd:Int) (te da sg:List UInt8):∀ k:Nat,k≤15→ansO (run1O Tryd.prog noPS nD sDoc (osR (tDoc (hasL (fds 9)) ⟨9,fr,tt,ix,pe,co,ba,ve,tx,v6,hi,lo,po,cd,te,da,sg⟩) k) [] (mask 14) 200 14 [mA ⟨9,fr,tt,ix,pe,co,ba,ve,tx,v6,hi,lo,po,cd,te,da,sg⟩] H0 4)=some (.int .i64 ((eDoc (hasL (fds 9))).getD k 0),(obR (tDoc (hasL (fds 9)) ⟨9,fr,tt,ix,pe,co,ba,ve,tx,v6,hi,lo,po,cd,te,da,sg⟩) k).reverse)
 | 0,_=>by kernel_rfl
 | 1,_=>by kernel_rfl
 | 2,_=>by kernel_rfl
 | 3,_=>by kernel_rfl
 | 4,_=>by kernel_rfl
 | 5,_=>by kernel_rfl
 | 6,_=>by kernel_rfl
 | 7,_=>by kernel_rfl
 | 8,_=>by kernel_rfl
 | 9,_=>by kernel_rfl
 | 10,_=>by kernel_rfl
 | 11,_=>by kernel_rfl
 | 12,_=>by kernel_rfl
 | 13,_=>by kernel_rfl
 | 14,_=>by kernel_rfl
 | 15,_=>by kernel_rfl
 | n+16,h=>absurd h (by omega)
theorem md10 (fr tt:List UInt8) (ix pe:UInt32) (co ba ve:UInt64) (tx:List UInt8) (v6:Bool) (hi lo:UInt64) (po cd:Int) (te da sg:List UInt8):∀ k:Nat,k≤15→ansO (run1O Tryd.prog noPS nD sDoc (osR (tDoc (hasL (fds 10)) ⟨10,fr,tt,ix,pe,co,ba,ve,tx,v6,hi,lo,po,cd,te,da,sg⟩) k) [] (mask 14) 200 14 [mA ⟨10,fr,tt,ix,pe,co,ba,ve,tx,v6,hi,lo,po,cd,te,da,sg⟩] H0 4)=some (.int .i64 ((eDoc (hasL (fds 10))).getD k 0),(obR (tDoc (hasL (fds 10)) ⟨10,fr,tt,ix,pe,co,ba,ve,tx,v6,hi,lo,po,cd,te,da,sg⟩) k).reverse)
 | 0,_=>by kernel_rfl
 | 1,_=>by kernel_rfl
 | 2,_=>by kernel_rfl
 | 3,_=>by kernel_rfl
 | 4,_=>by kernel_rfl
 | 5,_=>by kernel_rfl
 | 6,_=>by kernel_rfl
 | 7,_=>by kernel_rfl
 | 8,_=>by kernel_rfl
 | 9,_=>by kernel_rfl
 | 10,_=>by kernel_rfl
 | 11,_=>by kernel_rfl
 | 12,_=>by kernel_rfl
 | 13,_=>by kernel_rfl
 | 14,_=>by kernel_rfl
 | 15,_=>by kernel_rfl
 | n+16,h=>absurd h (by omega)
theorem md11 (fr tt:List UInt8) (ix pe:UInt32) (co ba ve:UInt64) (tx:List UInt8) (v6:Bool) (hi lo:UInt64) (po cd:Int) (te da sg:List UInt8):∀ k:Nat,k≤16→ansO (run1O Tryd.prog noPS nD sDoc (osR (tDoc (hasL (fds 11)) ⟨11,fr,tt,ix,pe,co,ba,ve,tx,v6,hi,lo,po,cd,te,da,sg⟩) k) [] (mask 14) 200 14 [mA ⟨11,fr,tt,ix,pe,co,ba,ve,tx,v6,hi,lo,po,cd,te,da,sg⟩] H0 4)=some (.int .i64 ((eDoc (hasL (fds 11))).getD k 0),(obR (tDoc (hasL (fds 11)) ⟨11,fr,tt,ix,pe,co,ba,ve,tx,v6,hi,lo,po,cd,te,da,sg⟩) k).reverse)
 | 0,_=>by kernel_rfl
 | 1,_=>by kernel_rfl
 | 2,_=>by kernel_rfl
 | 3,_=>by kernel_rfl
 | 4,_=>by kernel_rfl
 | 5,_=>by kernel_rfl
 | 6,_=>by kernel_rfl
 | 7,_=>by kernel_rfl
 | 8,_=>by kernel_rfl
 | 9,_=>by kernel_rfl
 | 10,_=>by kernel_rfl
 | 11,_=>by kernel_rfl
 | 12,_=>by kernel_rfl
 | 13,_=>by kernel_rfl
 | 14,_=>by kernel_rfl
 | 15,_=>by kernel_rfl
 | 16,_=>by kernel_rfl
 | n+17,h=>absurd h (by omega)
theorem md12 (fr tt:List UInt8) (ix pe:UInt32) (co ba ve:UInt64) (tx:List UInt8) (v6:Bool) (hi lo:UInt64) (po cd:Int) (te da sg:List UInt8):∀ k:Nat,k≤16→ansO (run1O Tryd.prog noPS nD sDoc (osR (tDoc (hasL (fds 12)) ⟨12,fr,tt,ix,pe,co,ba,ve,tx,v6,hi,lo,po,cd,te,da,sg⟩) k) [] (mask 14) 200 14 [mA ⟨12,fr,tt,ix,pe,co,ba,ve,tx,v6,hi,lo,po,cd,te,da,sg⟩] H0 4)=some (.int .i64 ((eDoc (hasL (fds 12))).getD k 0),(obR (tDoc (hasL (fds 12)) ⟨12,fr,tt,ix,pe,co,ba,ve,tx,v6,hi,lo,po,cd,te,da,sg⟩) k).reverse)
 | 0,_=>by kernel_rfl
 | 1,_=>by kernel_rfl
 | 2,_=>by kernel_rfl
 | 3,_=>by kernel_rfl
 | 4,_=>by kernel_rfl
 | 5,_=>by kernel_rfl
 | 6,_=>by kernel_rfl
 | 7,_=>by kernel_rfl
 | 8,_=>by kernel_rfl
 | 9,_=>by kernel_rfl
 | 10,_=>by kernel_rfl
 | 11,_=>by kernel_rfl
 | 12,_=>by kernel_rfl
 | 13,_=>by kernel_rfl
 | 14,_=>by kernel_rfl
 | 15,_=>by kernel_rfl
 | 16,_=>by kernel_rfl
 | n+17,h=>absurd h (by omega)
theorem md13 (fr tt:List UInt8) (ix pe:UInt32) (co ba ve:UInt64) (tx:List UInt8) (v6:Bool) (hi lo:UInt64) (po cd:Int) (te da sg:List UInt8):∀ k:Nat,k≤15→ansO (run1O Tryd.prog noPS nD sDoc (osR (tDoc (hasL (fds 13)) ⟨13,fr,tt,ix,pe,co,ba,ve,tx,v6,hi,lo,po,cd,te,da,sg⟩) k) [] (mask 14) 200 14 [mA ⟨13,fr,tt,ix,pe,co,ba,ve,tx,v6,hi,lo,po,cd,te,da,sg⟩] H0 4)=some (.int .i64 ((eDoc (hasL (fds 13))).getD k 0),(obR (tDoc (hasL (fds 13)) ⟨13,fr,tt,ix,pe,co,ba,ve,tx,v6,hi,lo,po,cd,te,da,sg⟩) k).reverse)
 | 0,_=>by kernel_rfl
 | 1,_=>by kernel_rfl
 | 2,_=>by kernel_rfl
 | 3,_=>by kernel_rfl
 | 4,_=>by kernel_rfl
 | 5,_=>by kernel_rfl
 | 6,_=>by kernel_rfl
 | 7,_=>by kernel_rfl
 | 8,_=>by kernel_rfl
 | 9,_=>by kernel_rfl
 | 10,_=>by kernel_rfl
 | 11,_=>by kernel_rfl
 | 12,_=>by kernel_rfl
 | 13,_=>by kernel_rfl
 | 14,_=>by kernel_rfl
 | 15,_=>by kernel_rfl
 | n+16,h=>absurd h (by omega)
theorem md14 (fr tt:List UInt8) (ix pe:UInt32) (co ba ve:UInt64) (tx:List UInt8) (v6:Bool) (hi lo:UInt64) (po cd:Int) (te da sg:List UInt8):∀ k:Nat,k≤15→ansO (run1O Tryd.prog noPS nD sDoc (osR (tDoc (hasL (fds 14)) ⟨14,fr,tt,ix,pe,co,ba,ve,tx,v6,hi,lo,po,cd,te,da,sg⟩) k) [] (mask 14) 200 14 [mA ⟨14,fr,tt,ix,pe,co,ba,ve,tx,v6,hi,lo,po,cd,te,da,sg⟩] H0 4)=some (.int .i64 ((eDoc (hasL (fds 14))).getD k 0),(obR (tDoc (hasL (fds 14)) ⟨14,fr,tt,ix,pe,co,ba,ve,tx,v6,hi,lo,po,cd,te,da,sg⟩) k).reverse)
 | 0,_=>by kernel_rfl
 | 1,_=>by kernel_rfl
 | 2,_=>by kernel_rfl
 | 3,_=>by kernel_rfl
 | 4,_=>by kernel_rfl
 | 5,_=>by kernel_rfl
 | 6,_=>by kernel_rfl
 | 7,_=>by kernel_rfl
 | 8,_=>by kernel_rfl
 | 9,_=>by kernel_rfl
 | 10,_=>by kernel_rfl
 | 11,_=>by kernel_rfl
 | 12,_=>by kernel_rfl
 | 13,_=>by kernel_rfl
 | 14,_=>by kernel_rfl
 | 15,_=>by kernel_rfl
 | n+16,h=>absurd h (by omega)
theorem md15 (fr tt:List UInt8) (ix pe:UInt32) (co ba ve:UInt64) (tx:List UInt8) (v6:Bool) (hi lo:UInt64) (po cd:Int) (te da sg:List UInt8):∀ k:Nat,k≤15→ansO (run1O Tryd.prog noPS nD sDoc (osR (tDoc (hasL (fds 15)) ⟨15,fr,tt,ix,pe,co,ba,ve,tx,v6,hi,lo,po,cd,te,da,sg⟩) k) [] (mask 14) 200 14 [mA ⟨15,fr,tt,ix,pe,co,ba,ve,tx,v6,hi,lo,po,cd,te,da,sg⟩] H0 4)=some (.int .i64 ((eDoc (hasL (fds 15))).getD k 0),(obR (tDoc (hasL (fds 15)) ⟨15,fr,tt,ix,pe,co,ba,ve,tx,v6,hi,lo,po,cd,te,da,sg⟩) k).reverse)
 | 0,_=>by kernel_rfl
 | 1,_=>by kernel_rfl
 | 2,_=>by kernel_rfl
 | 3,_=>by kernel_rfl
 | 4,_=>by kernel_rfl
 | 5,_=>by kernel_rfl
 | 6,_=>by kernel_rfl
 | 7,_=>by kernel_rfl
 | 8,_=>by kernel_rfl
 | 9,_=>by kernel_rfl
 | 10,_=>by kernel_rfl
 | 11,_=>by kernel_rfl
 | 12,_=>by kernel_rfl
 | 13,_=>by kernel_rfl
 | 14,_=>by kernel_rfl
 | 15,_=>by kernel_rfl
 | n+16,h=>absurd h (by omega)
theorem md16 (fr tt:List UInt8) (ix pe:UInt32) (co ba ve:UInt64) (tx:List UInt8) (v6:Bool) (hi lo:UInt64) (po cd:Int) (te da sg:List UInt8):∀ k:Nat,k≤16→ansO (run1O Tryd.prog noPS nD sDoc (osR (tDoc (hasL (fds 16)) ⟨16,fr,tt,ix,pe,co,ba,ve,tx,v6,hi,lo,po,cd,te,da,sg⟩) k) [] (mask 14) 200 14 [mA ⟨16,fr,tt,ix,pe,co,ba,ve,tx,v6,hi,lo,po,cd,te,da,sg⟩] H0 4)=some (.int .i64 ((eDoc (hasL (fds 16))).getD k 0),(obR (tDoc (hasL (fds 16)) ⟨16,fr,tt,ix,pe,co,ba,ve,tx,v6,hi,lo,po,cd,te,da,sg⟩) k).reverse)
 | 0,_=>by kernel_rfl
 | 1,_=>by kernel_rfl
 | 2,_=>by kernel_rfl
 | 3,_=>by kernel_rfl
 | 4,_=>by kernel_rfl
 | 5,_=>by kernel_rfl
 | 6,_=>by kernel_rfl
 | 7,_=>by kernel_rfl
 | 8,_=>by kernel_rfl
 | 9,_=>by kernel_rfl
 | 10,_=>by kernel_rfl
 | 11,_=>by kernel_rfl
 | 12,_=>by kernel_rfl
 | 13,_=>by kernel_rfl
 | 14,_=>by kernel_rfl
 | 15,_=>by kernel_rfl
 | 16,_=>by kernel_rfl
 | n+17,h=>absurd h (by omega)
theorem md17 (fr tt:List UInt8) (ix pe:UInt32) (co ba ve:UInt64) (tx:List UInt8) (v6:Bool) (hi lo:UInt64) (po cd:Int) (te da sg:List UInt8):∀ k:Nat,k≤14→ansO (run1O Tryd.prog noPS nD sDoc (osR (tDoc (hasL (fds 17)) ⟨17,fr,tt,ix,pe,co,ba,ve,tx,v6,hi,lo,po,cd,te,da,sg⟩) k) [] (mask 14) 200 14 [mA ⟨17,fr,tt,ix,pe,co,ba,ve,tx,v6,hi,lo,po,cd,te,da,sg⟩] H0 4)=some (.int .i64 ((eDoc (hasL (fds 17))).getD k 0),(obR (tDoc (hasL (fds 17)) ⟨17,fr,tt,ix,pe,co,ba,ve,tx,v6,hi,lo,po,cd,te,da,sg⟩) k).reverse)
 | 0,_=>by kernel_rfl
 | 1,_=>by kernel_rfl
 | 2,_=>by kernel_rfl
 | 3,_=>by kernel_rfl
 | 4,_=>by kernel_rfl
 | 5,_=>by kernel_rfl
 | 6,_=>by kernel_rfl
 | 7,_=>by kernel_rfl
 | 8,_=>by kernel_rfl
 | 9,_=>by kernel_rfl
 | 10,_=>by kernel_rfl
 | 11,_=>by kernel_rfl
 | 12,_=>by kernel_rfl
 | 13,_=>by kernel_rfl
 | 14,_=>by kernel_rfl
 | n+15,h=>absurd h (by omega)
theorem md18 (fr tt:List UInt8) (ix pe:UInt32) (co ba ve:UInt64) (tx:List UInt8) (v6:Bool) (hi lo:UInt64) (po cd:Int) (te da sg:List UInt8):∀ k:Nat,k≤13→ansO (run1O Tryd.prog noPS nD sDoc (osR (tDoc (hasL (fds 18)) ⟨18,fr,tt,ix,pe,co,ba,ve,tx,v6,hi,lo,po,cd,te,da,sg⟩) k) [] (mask 14) 200 14 [mA ⟨18,fr,tt,ix,pe,co,ba,ve,tx,v6,hi,lo,po,cd,te,da,sg⟩] H0 4)=some (.int .i64 ((eDoc (hasL (fds 18))).getD k 0),(obR (tDoc (hasL (fds 18)) ⟨18,fr,tt,ix,pe,co,ba,ve,tx,v6,hi,lo,po,cd,te,da,sg⟩) k).reverse)
 | 0,_=>by kernel_rfl
 | 1,_=>by kernel_rfl
 | 2,_=>by kernel_rfl
 | 3,_=>by kernel_rfl
 | 4,_=>by kernel_rfl
 | 5,_=>by kernel_rfl
 | 6,_=>by kernel_rfl
 | 7,_=>by kernel_rfl
 | 8,_=>by kernel_rfl
 | 9,_=>by kernel_rfl
 | 10,_=>by kernel_rfl
 | 11,_=>by kernel_rfl
 | 12,_=>by kernel_rfl
 | 13,_=>by kernel_rfl
 | n+14,h=>absurd h (by omega)
theorem md19 (fr tt:List UInt8) (ix pe:UInt32) (co ba ve:UInt64) (tx:List UInt8) (v6:Bool) (hi lo:UInt64) (po cd:Int) (te da sg:List UInt8):∀ k:Nat,k≤13→ansO (run1O Tryd.prog noPS nD sDoc (osR (tDoc (hasL (fds 19)) ⟨19,fr,tt,ix,pe,co,ba,ve,tx,v6,hi,lo,po,cd,te,da,sg⟩) k) [] (mask 14) 200 14 [mA ⟨19,fr,tt,ix,pe,co,ba,ve,tx,v6,hi,lo,po,cd,te,da,sg⟩] H0 4)=some (.int .i64 ((eDoc (hasL (fds 19))).getD k 0),(obR (tDoc (hasL (fds 19)) ⟨19,fr,tt,ix,pe,co,ba,ve,tx,v6,hi,lo,po,cd,te,da,sg⟩) k).reverse)
 | 0,_=>by kernel_rfl
 | 1,_=>by kernel_rfl
 | 2,_=>by kernel_rfl
 | 3,_=>by kernel_rfl
 | 4,_=>by kernel_rfl
 | 5,_=>by kernel_rfl
 | 6,_=>by kernel_rfl
 | 7,_=>by kernel_rfl
 | 8,_=>by kernel_rfl
 | 9,_=>by kernel_rfl
 | 10,_=>by kernel_rfl
 | 11,_=>by kernel_rfl
 | 12,_=>by kernel_rfl
 | 13,_=>by kernel_rfl
 | n+14,h=>absurd h (by omega)
theorem md20 (fr tt:List UInt8) (ix pe:UInt32) (co ba ve:UInt64) (tx:List UInt8) (v6:Bool) (hi lo:UInt64) (po cd:Int) (te da sg:List UInt8):∀ k:Nat,k≤16→ansO (run1O Tryd.prog noPS nD sDoc (osR (tDoc (hasL (fds 20)) ⟨20,fr,tt,ix,pe,co,ba,ve,tx,v6,hi,lo,po,cd,te,da,sg⟩) k) [] (mask 14) 200 14 [mA ⟨20,fr,tt,ix,pe,co,ba,ve,tx,v6,hi,lo,po,cd,te,da,sg⟩] H0 4)=some (.int .i64 ((eDoc (hasL (fds 20))).getD k 0),(obR (tDoc (hasL (fds 20)) ⟨20,fr,tt,ix,pe,co,ba,ve,tx,v6,hi,lo,po,cd,te,da,sg⟩) k).reverse)
 | 0,_=>by kernel_rfl
 | 1,_=>by kernel_rfl
 | 2,_=>by kernel_rfl
 | 3,_=>by kernel_rfl
 | 4,_=>by kernel_rfl
 | 5,_=>by kernel_rfl
 | 6,_=>by kernel_rfl
 | 7,_=>by kernel_rfl
 | 8,_=>by kernel_rfl
 | 9,_=>by kernel_rfl
 | 10,_=>by kernel_rfl
 | 11,_=>by kernel_rfl
 | 12,_=>by kernel_rfl
 | 13,_=>by kernel_rfl
 | 14,_=>by kernel_rfl
 | 15,_=>by kernel_rfl
 | 16,_=>by kernel_rfl
 | n+17,h=>absurd h (by omega)
theorem md21 (fr tt:List UInt8) (ix pe:UInt32) (co ba ve:UInt64) (tx:List UInt8) (v6:Bool) (hi lo:UInt64) (po cd:Int) (te da sg:List UInt8):∀ k:Nat,k≤15→ansO (run1O Tryd.prog noPS nD sDoc (osR (tDoc (hasL (fds 21)) ⟨21,fr,tt,ix,pe,co,ba,ve,tx,v6,hi,lo,po,cd,te,da,sg⟩) k) [] (mask 14) 200 14 [mA ⟨21,fr,tt,ix,pe,co,ba,ve,tx,v6,hi,lo,po,cd,te,da,sg⟩] H0 4)=some (.int .i64 ((eDoc (hasL (fds 21))).getD k 0),(obR (tDoc (hasL (fds 21)) ⟨21,fr,tt,ix,pe,co,ba,ve,tx,v6,hi,lo,po,cd,te,da,sg⟩) k).reverse)
 | 0,_=>by kernel_rfl
 | 1,_=>by kernel_rfl
 | 2,_=>by kernel_rfl
 | 3,_=>by kernel_rfl
 | 4,_=>by kernel_rfl
 | 5,_=>by kernel_rfl
 | 6,_=>by kernel_rfl
 | 7,_=>by kernel_rfl
 | 8,_=>by kernel_rfl
 | 9,_=>by kernel_rfl
 | 10,_=>by kernel_rfl
 | 11,_=>by kernel_rfl
 | 12,_=>by kernel_rfl
 | 13,_=>by kernel_rfl
 | 14,_=>by kernel_rfl
 | 15,_=>by kernel_rfl
 | n+16,h=>absurd h (by omega)
end Go.Proofs.YthlemfnkmpikjaaDoor
