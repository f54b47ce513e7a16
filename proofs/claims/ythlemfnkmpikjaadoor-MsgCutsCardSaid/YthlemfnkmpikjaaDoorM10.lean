/- Texts Mw3, Mw4, Mw5, Mw6, Mv0, Mv1, My0, My1, My2, My3, Eng29, Eng42, MtJ, MyJ: what they show that this claim uses. -/
import Derived.Test.YthlemfnkmpikjaaDoorM8
import Derived.Test.YthlemfnkmpikjaaDoorM6
import Derived.Test.YthlemfnkmpikjaaDoorM7
import Derived.Test.YthlemfnkmpikjaaDoorM9
import Derived.Test.YthlemfnkmpikjaaDoorM5
import Derived.Deep.Slices
import Derived.WideKeyArgs
import Derived.OpenShut
import Derived.Test.YthlemfnkmpikjaaDoorRows
import Derived.WalkKit
import Derived.ProofKit
import Derived.LaidMore
import Derived.ShutString
import Derived.Stop.Joined
namespace Go.Num
end Go.Num
set_option maxRecDepth 100000
set_option maxHeartbeats 1000000
set_option linter.unusedVariables false
set_option linter.unusedSimpArgs false
namespace Go.Proofs.YthlemfnkmpikjaaDoor
open Go Go.Eng Go.Num Go.Msg
set_option maxHeartbeats 4000000
def rdG (fs:List Msg.Fd) (st:Rs):Rs:=fs.foldl (fun s f=>fdS f s) st
def AllR (t:UInt8) (k:Nat) (st:Rs):Prop:=∃ (sy:List Nat) (os:List Bool) (vs:List AVal) (ob:List Bool),ansM [4,5,6] (run1O Tryd.prog noPS (nR (k+5)) sy os vs (mask 19) 200 19 [.ptr 4 0,.ptr 5 0] (hR (fieldsN t) st) 7)=some (.tup [],[some (.cells false (penR (fieldsN t) (rdG (fds t.toNat) st).e 6)),some (.cells false (mCells (rdG (fds t.toNat) st).m)),some (.cells false (rdr (rdG (fds t.toNat) st).s (rdG (fds t.toNat) st).er))],ob)∧allT ob=true
theorem a1 (k:Nat) (u0 u1 u2 u3:Rs):ansM [4,5,6] (run1O Tryd.prog noPS (nR (k+5)) [300008,300013,300088] [] [.tup [],.tup [.ptr 4 0,.agg (penR (fieldsN 1) u1.e 6),.ptr 5 0,.agg (mCells u1.m),.ptr 6 0,.agg (rdr u1.s u1.er)],.tup [],.tup [.ptr 4 0,.agg (penR (fieldsN 1) u2.e 6),.ptr 5 0,.agg (mCells u2.m),.ptr 6 0,.agg (rdr u2.s u2.er)],.tup [],.tup [.ptr 4 0,.agg (penR (fieldsN 1) u3.e 6),.ptr 5 0,.agg (mCells u3.m),.ptr 6 0,.agg (rdr u3.s u3.er)]] (mask 19) 200 19 [.ptr 4 0,.ptr 5 0] (hR (fieldsN 1) u0) 7)=some (.tup [],[some (.cells false (penR (fieldsN 1) u3.e 6)),some (.cells false (mCells u3.m)),some (.cells false (rdr u3.s u3.er))],[oB (eR (nR (k+4)) 52 [.ptr 4 0,.int .i64 1024,.int .i64 64,.ptr 5 14]) 679 (hR (fieldsN 1) u2) (.tup []) (hR (fieldsN 1) u3),oB (eR (nR (k+4)) 41 [.ptr 4 0,.int .i64 2,.int .i64 32,.ptr 5 2]) 79 (hR (fieldsN 1) u1) (.tup []) (hR (fieldsN 1) u2),oB (eR (nR (k+4)) 41 [.ptr 4 0,.int .i64 1,.int .i64 32,.ptr 5 1]) 39 (hR (fieldsN 1) u0) (.tup []) (hR (fieldsN 1) u1)]):=by kernel_rfl
theorem b1 (k:Nat) (st:Rs):AllR 1 k st:=⟨_,_,_,_,a1 k st (fdS .F st) (fdS .T (fdS .F st)) (fdS .N (fdS .T (fdS .F st))),(allT_mk (oB_of (RN k (fieldsN 1) rfl (fdS .T (fdS .F st)))) (allT_mk (oB_of (RT k (fieldsN 1) rfl (fdS .F st))) (allT_mk (oB_of (RF k (fieldsN 1) rfl st)) rfl)))⟩
theorem a2 (k:Nat) (u0 u1 u2 u3:Rs):ansM [4,5,6] (run1O Tryd.prog noPS (nR (k+5)) [300008,300063,300073] [] [.tup [],.tup [.ptr 4 0,.agg (penR (fieldsN 2) u1.e 6),.ptr 5 0,.agg (mCells u1.m),.ptr 6 0,.agg (rdr u1.s u1.er)],.tup [],.tup [.ptr 4 0,.agg (penR (fieldsN 2) u2.e 6),.ptr 5 0,.agg (mCells u2.m),.ptr 6 0,.agg (rdr u2.s u2.er)],.tup [],.tup [.ptr 4 0,.agg (penR (fieldsN 2) u3.e 6),.ptr 5 0,.agg (mCells u3.m),.ptr 6 0,.agg (rdr u3.s u3.er)]] (mask 19) 200 19 [.ptr 4 0,.ptr 5 0] (hR (fieldsN 2) u0) 7)=some (.tup [],[some (.cells false (penR (fieldsN 2) u3.e 6)),some (.cells false (mCells u3.m)),some (.cells false (rdr u3.s u3.er))],[oB (eR (nR (k+4)) 48 [.ptr 4 0,.ptr 5 9]) 559 (hR (fieldsN 2) u2) (.tup []) (hR (fieldsN 2) u3),oB (eR (nR (k+4)) 45 [.ptr 4 0,.int .i64 64,.ptr 5 7,.mth 46 6 0,.fn 47 []]) 479 (hR (fieldsN 2) u1) (.tup []) (hR (fieldsN 2) u2),oB (eR (nR (k+4)) 41 [.ptr 4 0,.int .i64 1,.int .i64 32,.ptr 5 1]) 39 (hR (fieldsN 2) u0) (.tup []) (hR (fieldsN 2) u1)]):=by kernel_rfl
theorem b2 (k:Nat) (st:Rs):AllR 2 k st:=⟨_,_,_,_,a2 k st (fdS .F st) (fdS .V (fdS .F st)) (fdS .E (fdS .V (fdS .F st))),(allT_mk (oB_of (RE k (fieldsN 2) rfl (fdS .V (fdS .F st)))) (allT_mk (oB_of (RV k (fieldsN 2) rfl (fdS .F st))) (allT_mk (oB_of (RF k (fieldsN 2) rfl st)) rfl)))⟩
theorem a3 (k:Nat) (u0 u1 u2:Rs):ansM [4,5,6] (run1O Tryd.prog noPS (nR (k+5)) [300008,300063] [] [.tup [],.tup [.ptr 4 0,.agg (penR (fieldsN 3) u1.e 6),.ptr 5 0,.agg (mCells u1.m),.ptr 6 0,.agg (rdr u1.s u1.er)],.tup [],.tup [.ptr 4 0,.agg (penR (fieldsN 3) u2.e 6),.ptr 5 0,.agg (mCells u2.m),.ptr 6 0,.agg (rdr u2.s u2.er)]] (mask 19) 200 19 [.ptr 4 0,.ptr 5 0] (hR (fieldsN 3) u0) 7)=some (.tup [],[some (.cells false (penR (fieldsN 3) u2.e 6)),some (.cells false (mCells u2.m)),some (.cells false (rdr u2.s u2.er))],[oB (eR (nR (k+4)) 45 [.ptr 4 0,.int .i64 64,.ptr 5 7,.mth 46 6 0,.fn 47 []]) 479 (hR (fieldsN 3) u1) (.tup []) (hR (fieldsN 3) u2),oB (eR (nR (k+4)) 41 [.ptr 4 0,.int .i64 1,.int .i64 32,.ptr 5 1]) 39 (hR (fieldsN 3) u0) (.tup []) (hR (fieldsN 3) u1)]):=by kernel_rfl
theorem b3 (k:Nat) (st:Rs):AllR 3 k st:=⟨_,_,_,_,a3 k st (fdS .F st) (fdS .V (fdS .F st)),(allT_mk (oB_of (RV k (fieldsN 3) rfl (fdS .F st))) (allT_mk (oB_of (RF k (fieldsN 3) rfl st)) rfl))⟩
theorem a4 (k:Nat) (u0 u1 u2 u3:Rs):ansM [4,5,6] (run1O Tryd.prog noPS (nR (k+5)) [300063,300093,300098] [] [.tup [],.tup [.ptr 4 0,.agg (penR (fieldsN 4) u1.e 6),.ptr 5 0,.agg (mCells u1.m),.ptr 6 0,.agg (rdr u1.s u1.er)],.tup [],.tup [.ptr 4 0,.agg (penR (fieldsN 4) u2.e 6),.ptr 5 0,.agg (mCells u2.m),.ptr 6 0,.agg (rdr u2.s u2.er)],.tup [],.tup [.ptr 4 0,.agg (penR (fieldsN 4) u3.e 6),.ptr 5 0,.agg (mCells u3.m),.ptr 6 0,.agg (rdr u3.s u3.er)]] (mask 19) 200 19 [.ptr 4 0,.ptr 5 0] (hR (fieldsN 4) u0) 7)=some (.tup [],[some (.cells false (penR (fieldsN 4) u3.e 6)),some (.cells false (mCells u3.m)),some (.cells false (rdr u3.s u3.er))],[oB (eR (nR (k+4)) 41 [.ptr 4 0,.int .i64 4096,.int .i64 64,.ptr 5 16]) 759 (hR (fieldsN 4) u2) (.tup []) (hR (fieldsN 4) u3),oB (eR (nR (k+4)) 52 [.ptr 4 0,.int .i64 2048,.int .i64 32768,.ptr 5 15]) 719 (hR (fieldsN 4) u1) (.tup []) (hR (fieldsN 4) u2),oB (eR (nR (k+4)) 45 [.ptr 4 0,.int .i64 64,.ptr 5 7,.mth 46 6 0,.fn 47 []]) 479 (hR (fieldsN 4) u0) (.tup []) (hR (fieldsN 4) u1)]):=by kernel_rfl
theorem b4 (k:Nat) (st:Rs):AllR 4 k st:=⟨_,_,_,_,a4 k st (fdS .V st) (fdS .D (fdS .V st)) (fdS .S (fdS .D (fdS .V st))),(allT_mk (oB_of (RS k (fieldsN 4) rfl (fdS .D (fdS .V st)))) (allT_mk (oB_of (RD k (fieldsN 4) rfl (fdS .V st))) (allT_mk (oB_of (RV k (fieldsN 4) rfl st)) rfl)))⟩
theorem a5 (k:Nat) (u0 u1 u2 u3 u4:Rs):ansM [4,5,6] (run1O Tryd.prog noPS (nR (k+5)) [300053,300063,300093,300098] [] [.tup [],.tup [.ptr 4 0,.agg (penR (fieldsN 5) u1.e 6),.ptr 5 0,.agg (mCells u1.m),.ptr 6 0,.agg (rdr u1.s u1.er)],.tup [],.tup [.ptr 4 0,.agg (penR (fieldsN 5) u2.e 6),.ptr 5 0,.agg (mCells u2.m),.ptr 6 0,.agg (rdr u2.s u2.er)],.tup [],.tup [.ptr 4 0,.agg (penR (fieldsN 5) u3.e 6),.ptr 5 0,.agg (mCells u3.m),.ptr 6 0,.agg (rdr u3.s u3.er)],.tup [],.tup [.ptr 4 0,.agg (penR (fieldsN 5) u4.e 6),.ptr 5 0,.agg (mCells u4.m),.ptr 6 0,.agg (rdr u4.s u4.er)]] (mask 19) 200 19 [.ptr 4 0,.ptr 5 0] (hR (fieldsN 5) u0) 7)=some (.tup [],[some (.cells false (penR (fieldsN 5) u4.e 6)),some (.cells false (mCells u4.m)),some (.cells false (rdr u4.s u4.er))],[oB (eR (nR (k+4)) 41 [.ptr 4 0,.int .i64 4096,.int .i64 64,.ptr 5 16]) 759 (hR (fieldsN 5) u3) (.tup []) (hR (fieldsN 5) u4),oB (eR (nR (k+4)) 52 [.ptr 4 0,.int .i64 2048,.int .i64 32768,.ptr 5 15]) 719 (hR (fieldsN 5) u2) (.tup []) (hR (fieldsN 5) u3),oB (eR (nR (k+4)) 45 [.ptr 4 0,.int .i64 64,.ptr 5 7,.mth 46 6 0,.fn 47 []]) 479 (hR (fieldsN 5) u1) (.tup []) (hR (fieldsN 5) u2),oB (eR (nR (k+4)) 45 [.ptr 4 0,.int .i64 32,.ptr 5 6,.mth 46 6 0,.fn 47 []]) 399 (hR (fieldsN 5) u0) (.tup []) (hR (fieldsN 5) u1)]):=by kernel_rfl
theorem b5 (k:Nat) (st:Rs):AllR 5 k st:=⟨_,_,_,_,a5 k st (fdS .B st) (fdS .V (fdS .B st)) (fdS .D (fdS .V (fdS .B st))) (fdS .S (fdS .D (fdS .V (fdS .B st)))),(allT_mk (oB_of (RS k (fieldsN 5) rfl (fdS .D (fdS .V (fdS .B st))))) (allT_mk (oB_of (RD k (fieldsN 5) rfl (fdS .V (fdS .B st)))) (allT_mk (oB_of (RV k (fieldsN 5) rfl (fdS .B st))) (allT_mk (oB_of (RB k (fieldsN 5) rfl st)) rfl))))⟩
theorem a6 (k:Nat) (u0 u1:Rs):ansM [4,5,6] (run1O Tryd.prog noPS (nR (k+5)) [300083] [] [.tup [],.tup [.ptr 4 0,.agg (penR (fieldsN 6) u1.e 6),.ptr 5 0,.agg (mCells u1.m),.ptr 6 0,.agg (rdr u1.s u1.er)]] (mask 19) 200 19 [.ptr 4 0,.ptr 5 0] (hR (fieldsN 6) u0) 7)=some (.tup [],[some (.cells false (penR (fieldsN 6) u1.e 6)),some (.cells false (mCells u1.m)),some (.cells false (rdr u1.s u1.er))],[oB (eR (nR (k+4)) 49 [.ptr 4 0,.int .i64 512,.ptr 5 13,.mth 50 6 0,.fn 51 []]) 639 (hR (fieldsN 6) u0) (.tup []) (hR (fieldsN 6) u1)]):=by kernel_rfl
theorem b6 (k:Nat) (st:Rs):AllR 6 k st:=⟨_,_,_,_,a6 k st (fdS .K st),(allT_mk (oB_of (RK k (fieldsN 6) rfl st)) rfl)⟩
theorem a7 (k:Nat) (u0 u1:Rs):ansM [4,5,6] (run1O Tryd.prog noPS (nR (k+5)) [300068] [] [.tup [],.tup [.ptr 4 0,.agg (penR (fieldsN 7) u1.e 6),.ptr 5 0,.agg (mCells u1.m),.ptr 6 0,.agg (rdr u1.s u1.er)]] (mask 19) 200 19 [.ptr 4 0,.ptr 5 0] (hR (fieldsN 7) u0) 7)=some (.tup [],[some (.cells false (penR (fieldsN 7) u1.e 6)),some (.cells false (mCells u1.m)),some (.cells false (rdr u1.s u1.er))],[oB (eR (nR (k+4)) 41 [.ptr 4 0,.int .i64 128,.int .i64 16,.ptr 5 8]) 519 (hR (fieldsN 7) u0) (.tup []) (hR (fieldsN 7) u1)]):=by kernel_rfl
theorem b7 (k:Nat) (st:Rs):AllR 7 k st:=⟨_,_,_,_,a7 k st (fdS .X st),(allT_mk (oB_of (RX k (fieldsN 7) rfl st)) rfl)⟩
theorem a8 (k:Nat) (u0 u1 u2:Rs):ansM [4,5,6] (run1O Tryd.prog noPS (nR (k+5)) [300068,300073] [] [.tup [],.tup [.ptr 4 0,.agg (penR (fieldsN 8) u1.e 6),.ptr 5 0,.agg (mCells u1.m),.ptr 6 0,.agg (rdr u1.s u1.er)],.tup [],.tup [.ptr 4 0,.agg (penR (fieldsN 8) u2.e 6),.ptr 5 0,.agg (mCells u2.m),.ptr 6 0,.agg (rdr u2.s u2.er)]] (mask 19) 200 19 [.ptr 4 0,.ptr 5 0] (hR (fieldsN 8) u0) 7)=some (.tup [],[some (.cells false (penR (fieldsN 8) u2.e 6)),some (.cells false (mCells u2.m)),some (.cells false (rdr u2.s u2.er))],[oB (eR (nR (k+4)) 48 [.ptr 4 0,.ptr 5 9]) 559 (hR (fieldsN 8) u1) (.tup []) (hR (fieldsN 8) u2),oB (eR (nR (k+4)) 41 [.ptr 4 0,.int .i64 128,.int .i64 16,.ptr 5 8]) 519 (hR (fieldsN 8) u0) (.tup []) (hR (fieldsN 8) u1)]):=by kernel_rfl
theorem b8 (k:Nat) (st:Rs):AllR 8 k st:=⟨_,_,_,_,a8 k st (fdS .X st) (fdS .E (fdS .X st)),(allT_mk (oB_of (RE k (fieldsN 8) rfl (fdS .X st))) (allT_mk (oB_of (RX k (fieldsN 8) rfl st)) rfl))⟩
theorem a9 (k:Nat) (u0 u1 u2:Rs):ansM [4,5,6] (run1O Tryd.prog noPS (nR (k+5)) [300008,300093] [] [.tup [],.tup [.ptr 4 0,.agg (penR (fieldsN 9) u1.e 6),.ptr 5 0,.agg (mCells u1.m),.ptr 6 0,.agg (rdr u1.s u1.er)],.tup [],.tup [.ptr 4 0,.agg (penR (fieldsN 9) u2.e 6),.ptr 5 0,.agg (mCells u2.m),.ptr 6 0,.agg (rdr u2.s u2.er)]] (mask 19) 200 19 [.ptr 4 0,.ptr 5 0] (hR (fieldsN 9) u0) 7)=some (.tup [],[some (.cells false (penR (fieldsN 9) u2.e 6)),some (.cells false (mCells u2.m)),some (.cells false (rdr u2.s u2.er))],[oB (eR (nR (k+4)) 52 [.ptr 4 0,.int .i64 2048,.int .i64 32768,.ptr 5 15]) 719 (hR (fieldsN 9) u1) (.tup []) (hR (fieldsN 9) u2),oB (eR (nR (k+4)) 41 [.ptr 4 0,.int .i64 1,.int .i64 32,.ptr 5 1]) 39 (hR (fieldsN 9) u0) (.tup []) (hR (fieldsN 9) u1)]):=by kernel_rfl
theorem b9 (k:Nat) (st:Rs):AllR 9 k st:=⟨_,_,_,_,a9 k st (fdS .F st) (fdS .D (fdS .F st)),(allT_mk (oB_of (RD k (fieldsN 9) rfl (fdS .F st))) (allT_mk (oB_of (RF k (fieldsN 9) rfl st)) rfl))⟩
theorem a10 (k:Nat) (u0 u1 u2:Rs):ansM [4,5,6] (run1O Tryd.prog noPS (nR (k+5)) [300008,300093] [] [.tup [],.tup [.ptr 4 0,.agg (penR (fieldsN 10) u1.e 6),.ptr 5 0,.agg (mCells u1.m),.ptr 6 0,.agg (rdr u1.s u1.er)],.tup [],.tup [.ptr 4 0,.agg (penR (fieldsN 10) u2.e 6),.ptr 5 0,.agg (mCells u2.m),.ptr 6 0,.agg (rdr u2.s u2.er)]] (mask 19) 200 19 [.ptr 4 0,.ptr 5 0] (hR (fieldsN 10) u0) 7)=some (.tup [],[some (.cells false (penR (fieldsN 10) u2.e 6)),some (.cells false (mCells u2.m)),some (.cells false (rdr u2.s u2.er))],[oB (eR (nR (k+4)) 52 [.ptr 4 0,.int .i64 2048,.int .i64 32768,.ptr 5 15]) 719 (hR (fieldsN 10) u1) (.tup []) (hR (fieldsN 10) u2),oB (eR (nR (k+4)) 41 [.ptr 4 0,.int .i64 1,.int .i64 32,.ptr 5 1]) 39 (hR (fieldsN 10) u0) (.tup []) (hR (fieldsN 10) u1)]):=by kernel_rfl
theorem b10 (k:Nat) (st:Rs):AllR 10 k st:=⟨_,_,_,_,a10 k st (fdS .F st) (fdS .D (fdS .F st)),(allT_mk (oB_of (RD k (fieldsN 10) rfl (fdS .F st))) (allT_mk (oB_of (RF k (fieldsN 10) rfl st)) rfl))⟩
theorem a11 (k:Nat) (u0 u1:Rs):ansM [4,5,6] (run1O Tryd.prog noPS (nR (k+5)) [300008] [] [.tup [],.tup [.ptr 4 0,.agg (penR (fieldsN 11) u1.e 6),.ptr 5 0,.agg (mCells u1.m),.ptr 6 0,.agg (rdr u1.s u1.er)]] (mask 19) 200 19 [.ptr 4 0,.ptr 5 0] (hR (fieldsN 11) u0) 7)=some (.tup [],[some (.cells false (penR (fieldsN 11) u1.e 6)),some (.cells false (mCells u1.m)),some (.cells false (rdr u1.s u1.er))],[oB (eR (nR (k+4)) 41 [.ptr 4 0,.int .i64 1,.int .i64 32,.ptr 5 1]) 39 (hR (fieldsN 11) u0) (.tup []) (hR (fieldsN 11) u1)]):=by kernel_rfl
theorem b11 (k:Nat) (st:Rs):AllR 11 k st:=⟨_,_,_,_,a11 k st (fdS .F st),(allT_mk (oB_of (RF k (fieldsN 11) rfl st)) rfl)⟩
theorem a12 (k:Nat) (u0 u1 u2:Rs):ansM [4,5,6] (run1O Tryd.prog noPS (nR (k+5)) [300008,300068] [] [.tup [],.tup [.ptr 4 0,.agg (penR (fieldsN 12) u1.e 6),.ptr 5 0,.agg (mCells u1.m),.ptr 6 0,.agg (rdr u1.s u1.er)],.tup [],.tup [.ptr 4 0,.agg (penR (fieldsN 12) u2.e 6),.ptr 5 0,.agg (mCells u2.m),.ptr 6 0,.agg (rdr u2.s u2.er)]] (mask 19) 200 19 [.ptr 4 0,.ptr 5 0] (hR (fieldsN 12) u0) 7)=some (.tup [],[some (.cells false (penR (fieldsN 12) u2.e 6)),some (.cells false (mCells u2.m)),some (.cells false (rdr u2.s u2.er))],[oB (eR (nR (k+4)) 41 [.ptr 4 0,.int .i64 128,.int .i64 16,.ptr 5 8]) 519 (hR (fieldsN 12) u1) (.tup []) (hR (fieldsN 12) u2),oB (eR (nR (k+4)) 41 [.ptr 4 0,.int .i64 1,.int .i64 32,.ptr 5 1]) 39 (hR (fieldsN 12) u0) (.tup []) (hR (fieldsN 12) u1)]):=by kernel_rfl
theorem b12 (k:Nat) (st:Rs):AllR 12 k st:=⟨_,_,_,_,a12 k st (fdS .F st) (fdS .X (fdS .F st)),(allT_mk (oB_of (RX k (fieldsN 12) rfl (fdS .F st))) (allT_mk (oB_of (RF k (fieldsN 12) rfl st)) rfl))⟩
theorem a13 (k:Nat) (u0 u1:Rs):ansM [4,5,6] (run1O Tryd.prog noPS (nR (k+5)) [300093] [] [.tup [],.tup [.ptr 4 0,.agg (penR (fieldsN 13) u1.e 6),.ptr 5 0,.agg (mCells u1.m),.ptr 6 0,.agg (rdr u1.s u1.er)]] (mask 19) 200 19 [.ptr 4 0,.ptr 5 0] (hR (fieldsN 13) u0) 7)=some (.tup [],[some (.cells false (penR (fieldsN 13) u1.e 6)),some (.cells false (mCells u1.m)),some (.cells false (rdr u1.s u1.er))],[oB (eR (nR (k+4)) 52 [.ptr 4 0,.int .i64 2048,.int .i64 32768,.ptr 5 15]) 719 (hR (fieldsN 13) u0) (.tup []) (hR (fieldsN 13) u1)]):=by kernel_rfl
theorem b13 (k:Nat) (st:Rs):AllR 13 k st:=⟨_,_,_,_,a13 k st (fdS .D st),(allT_mk (oB_of (RD k (fieldsN 13) rfl st)) rfl)⟩
theorem a14 (k:Nat) (u0 u1 u2:Rs):ansM [4,5,6] (run1O Tryd.prog noPS (nR (k+5)) [300013,300093] [] [.tup [],.tup [.ptr 4 0,.agg (penR (fieldsN 14) u1.e 6),.ptr 5 0,.agg (mCells u1.m),.ptr 6 0,.agg (rdr u1.s u1.er)],.tup [],.tup [.ptr 4 0,.agg (penR (fieldsN 14) u2.e 6),.ptr 5 0,.agg (mCells u2.m),.ptr 6 0,.agg (rdr u2.s u2.er)]] (mask 19) 200 19 [.ptr 4 0,.ptr 5 0] (hR (fieldsN 14) u0) 7)=some (.tup [],[some (.cells false (penR (fieldsN 14) u2.e 6)),some (.cells false (mCells u2.m)),some (.cells false (rdr u2.s u2.er))],[oB (eR (nR (k+4)) 52 [.ptr 4 0,.int .i64 2048,.int .i64 32768,.ptr 5 15]) 719 (hR (fieldsN 14) u1) (.tup []) (hR (fieldsN 14) u2),oB (eR (nR (k+4)) 41 [.ptr 4 0,.int .i64 2,.int .i64 32,.ptr 5 2]) 79 (hR (fieldsN 14) u0) (.tup []) (hR (fieldsN 14) u1)]):=by kernel_rfl
theorem b14 (k:Nat) (st:Rs):AllR 14 k st:=⟨_,_,_,_,a14 k st (fdS .T st) (fdS .D (fdS .T st)),(allT_mk (oB_of (RD k (fieldsN 14) rfl (fdS .T st))) (allT_mk (oB_of (RT k (fieldsN 14) rfl st)) rfl))⟩
theorem a15 (k:Nat) (u0 u1 u2:Rs):ansM [4,5,6] (run1O Tryd.prog noPS (nR (k+5)) [300008,300093] [] [.tup [],.tup [.ptr 4 0,.agg (penR (fieldsN 15) u1.e 6),.ptr 5 0,.agg (mCells u1.m),.ptr 6 0,.agg (rdr u1.s u1.er)],.tup [],.tup [.ptr 4 0,.agg (penR (fieldsN 15) u2.e 6),.ptr 5 0,.agg (mCells u2.m),.ptr 6 0,.agg (rdr u2.s u2.er)]] (mask 19) 200 19 [.ptr 4 0,.ptr 5 0] (hR (fieldsN 15) u0) 7)=some (.tup [],[some (.cells false (penR (fieldsN 15) u2.e 6)),some (.cells false (mCells u2.m)),some (.cells false (rdr u2.s u2.er))],[oB (eR (nR (k+4)) 52 [.ptr 4 0,.int .i64 2048,.int .i64 32768,.ptr 5 15]) 719 (hR (fieldsN 15) u1) (.tup []) (hR (fieldsN 15) u2),oB (eR (nR (k+4)) 41 [.ptr 4 0,.int .i64 1,.int .i64 32,.ptr 5 1]) 39 (hR (fieldsN 15) u0) (.tup []) (hR (fieldsN 15) u1)]):=by kernel_rfl
theorem b15 (k:Nat) (st:Rs):AllR 15 k st:=⟨_,_,_,_,a15 k st (fdS .F st) (fdS .D (fdS .F st)),(allT_mk (oB_of (RD k (fieldsN 15) rfl (fdS .F st))) (allT_mk (oB_of (RF k (fieldsN 15) rfl st)) rfl))⟩
theorem a16 (k:Nat) (u0 u1:Rs):ansM [4,5,6] (run1O Tryd.prog noPS (nR (k+5)) [300013] [] [.tup [],.tup [.ptr 4 0,.agg (penR (fieldsN 16) u1.e 6),.ptr 5 0,.agg (mCells u1.m),.ptr 6 0,.agg (rdr u1.s u1.er)]] (mask 19) 200 19 [.ptr 4 0,.ptr 5 0] (hR (fieldsN 16) u0) 7)=some (.tup [],[some (.cells false (penR (fieldsN 16) u1.e 6)),some (.cells false (mCells u1.m)),some (.cells false (rdr u1.s u1.er))],[oB (eR (nR (k+4)) 41 [.ptr 4 0,.int .i64 2,.int .i64 32,.ptr 5 2]) 79 (hR (fieldsN 16) u0) (.tup []) (hR (fieldsN 16) u1)]):=by kernel_rfl
theorem b16 (k:Nat) (st:Rs):AllR 16 k st:=⟨_,_,_,_,a16 k st (fdS .T st),(allT_mk (oB_of (RT k (fieldsN 16) rfl st)) rfl)⟩
theorem a17 (k:Nat) (u0 u1 u2:Rs):ansM [4,5,6] (run1O Tryd.prog noPS (nR (k+5)) [300023,300093] [] [.tup [],.tup [.ptr 4 0,.agg (penR (fieldsN 17) u1.e 6),.ptr 5 0,.agg (mCells u1.m),.ptr 6 0,.agg (rdr u1.s u1.er)],.tup [],.tup [.ptr 4 0,.agg (penR (fieldsN 17) u2.e 6),.ptr 5 0,.agg (mCells u2.m),.ptr 6 0,.agg (rdr u2.s u2.er)]] (mask 19) 200 19 [.ptr 4 0,.ptr 5 0] (hR (fieldsN 17) u0) 7)=some (.tup [],[some (.cells false (penR (fieldsN 17) u2.e 6)),some (.cells false (mCells u2.m)),some (.cells false (rdr u2.s u2.er))],[oB (eR (nR (k+4)) 52 [.ptr 4 0,.int .i64 2048,.int .i64 32768,.ptr 5 15]) 719 (hR (fieldsN 17) u1) (.tup []) (hR (fieldsN 17) u2),oB (eR (nR (k+4)) 42 [.ptr 4 0,.int .i64 4,.ptr 5 3,.mth 43 6 0,.fn 44 []]) 159 (hR (fieldsN 17) u0) (.tup []) (hR (fieldsN 17) u1)]):=by kernel_rfl
theorem b17 (k:Nat) (st:Rs):AllR 17 k st:=⟨_,_,_,_,a17 k st (fdS .I st) (fdS .D (fdS .I st)),(allT_mk (oB_of (RD k (fieldsN 17) rfl (fdS .I st))) (allT_mk (oB_of (RI k (fieldsN 17) rfl st)) rfl))⟩
theorem a18 (k:Nat) (u0 u1 u2 u3:Rs):ansM [4,5,6] (run1O Tryd.prog noPS (nR (k+5)) [300023,300033,300093] [] [.tup [],.tup [.ptr 4 0,.agg (penR (fieldsN 18) u1.e 6),.ptr 5 0,.agg (mCells u1.m),.ptr 6 0,.agg (rdr u1.s u1.er)],.tup [],.tup [.ptr 4 0,.agg (penR (fieldsN 18) u2.e 6),.ptr 5 0,.agg (mCells u2.m),.ptr 6 0,.agg (rdr u2.s u2.er)],.tup [],.tup [.ptr 4 0,.agg (penR (fieldsN 18) u3.e 6),.ptr 5 0,.agg (mCells u3.m),.ptr 6 0,.agg (rdr u3.s u3.er)]] (mask 19) 200 19 [.ptr 4 0,.ptr 5 0] (hR (fieldsN 18) u0) 7)=some (.tup [],[some (.cells false (penR (fieldsN 18) u3.e 6)),some (.cells false (mCells u3.m)),some (.cells false (rdr u3.s u3.er))],[oB (eR (nR (k+4)) 52 [.ptr 4 0,.int .i64 2048,.int .i64 32768,.ptr 5 15]) 719 (hR (fieldsN 18) u2) (.tup []) (hR (fieldsN 18) u3),oB (eR (nR (k+4)) 42 [.ptr 4 0,.int .i64 8,.ptr 5 4,.mth 43 6 0,.fn 44 []]) 239 (hR (fieldsN 18) u1) (.tup []) (hR (fieldsN 18) u2),oB (eR (nR (k+4)) 42 [.ptr 4 0,.int .i64 4,.ptr 5 3,.mth 43 6 0,.fn 44 []]) 159 (hR (fieldsN 18) u0) (.tup []) (hR (fieldsN 18) u1)]):=by kernel_rfl
theorem b18 (k:Nat) (st:Rs):AllR 18 k st:=⟨_,_,_,_,a18 k st (fdS .I st) (fdS .P (fdS .I st)) (fdS .D (fdS .P (fdS .I st))),(allT_mk (oB_of (RD k (fieldsN 18) rfl (fdS .P (fdS .I st)))) (allT_mk (oB_of (RP k (fieldsN 18) rfl (fdS .I st))) (allT_mk (oB_of (RI k (fieldsN 18) rfl st)) rfl)))⟩
theorem a19 (k:Nat) (u0 u1 u2 u3:Rs):ansM [4,5,6] (run1O Tryd.prog noPS (nR (k+5)) [300033,300043,300093] [] [.tup [],.tup [.ptr 4 0,.agg (penR (fieldsN 19) u1.e 6),.ptr 5 0,.agg (mCells u1.m),.ptr 6 0,.agg (rdr u1.s u1.er)],.tup [],.tup [.ptr 4 0,.agg (penR (fieldsN 19) u2.e 6),.ptr 5 0,.agg (mCells u2.m),.ptr 6 0,.agg (rdr u2.s u2.er)],.tup [],.tup [.ptr 4 0,.agg (penR (fieldsN 19) u3.e 6),.ptr 5 0,.agg (mCells u3.m),.ptr 6 0,.agg (rdr u3.s u3.er)]] (mask 19) 200 19 [.ptr 4 0,.ptr 5 0] (hR (fieldsN 19) u0) 7)=some (.tup [],[some (.cells false (penR (fieldsN 19) u3.e 6)),some (.cells false (mCells u3.m)),some (.cells false (rdr u3.s u3.er))],[oB (eR (nR (k+4)) 52 [.ptr 4 0,.int .i64 2048,.int .i64 32768,.ptr 5 15]) 719 (hR (fieldsN 19) u2) (.tup []) (hR (fieldsN 19) u3),oB (eR (nR (k+4)) 45 [.ptr 4 0,.int .i64 16,.ptr 5 5,.mth 46 6 0,.fn 47 []]) 319 (hR (fieldsN 19) u1) (.tup []) (hR (fieldsN 19) u2),oB (eR (nR (k+4)) 42 [.ptr 4 0,.int .i64 8,.ptr 5 4,.mth 43 6 0,.fn 44 []]) 239 (hR (fieldsN 19) u0) (.tup []) (hR (fieldsN 19) u1)]):=by kernel_rfl
theorem b19 (k:Nat) (st:Rs):AllR 19 k st:=⟨_,_,_,_,a19 k st (fdS .P st) (fdS .C (fdS .P st)) (fdS .D (fdS .C (fdS .P st))),(allT_mk (oB_of (RD k (fieldsN 19) rfl (fdS .C (fdS .P st)))) (allT_mk (oB_of (RC k (fieldsN 19) rfl (fdS .P st))) (allT_mk (oB_of (RP k (fieldsN 19) rfl st)) rfl)))⟩
theorem a20 (k:Nat) (u0 u1 u2:Rs):ansM [4,5,6] (run1O Tryd.prog noPS (nR (k+5)) [300008,300068] [] [.tup [],.tup [.ptr 4 0,.agg (penR (fieldsN 20) u1.e 6),.ptr 5 0,.agg (mCells u1.m),.ptr 6 0,.agg (rdr u1.s u1.er)],.tup [],.tup [.ptr 4 0,.agg (penR (fieldsN 20) u2.e 6),.ptr 5 0,.agg (mCells u2.m),.ptr 6 0,.agg (rdr u2.s u2.er)]] (mask 19) 200 19 [.ptr 4 0,.ptr 5 0] (hR (fieldsN 20) u0) 7)=some (.tup [],[some (.cells false (penR (fieldsN 20) u2.e 6)),some (.cells false (mCells u2.m)),some (.cells false (rdr u2.s u2.er))],[oB (eR (nR (k+4)) 41 [.ptr 4 0,.int .i64 128,.int .i64 16,.ptr 5 8]) 519 (hR (fieldsN 20) u1) (.tup []) (hR (fieldsN 20) u2),oB (eR (nR (k+4)) 41 [.ptr 4 0,.int .i64 1,.int .i64 32,.ptr 5 1]) 39 (hR (fieldsN 20) u0) (.tup []) (hR (fieldsN 20) u1)]):=by kernel_rfl
theorem b20 (k:Nat) (st:Rs):AllR 20 k st:=⟨_,_,_,_,a20 k st (fdS .F st) (fdS .X (fdS .F st)),(allT_mk (oB_of (RX k (fieldsN 20) rfl (fdS .F st))) (allT_mk (oB_of (RF k (fieldsN 20) rfl st)) rfl))⟩
theorem a21 (k:Nat) (u0 u1 u2:Rs):ansM [4,5,6] (run1O Tryd.prog noPS (nR (k+5)) [300068,300073] [] [.tup [],.tup [.ptr 4 0,.agg (penR (fieldsN 21) u1.e 6),.ptr 5 0,.agg (mCells u1.m),.ptr 6 0,.agg (rdr u1.s u1.er)],.tup [],.tup [.ptr 4 0,.agg (penR (fieldsN 21) u2.e 6),.ptr 5 0,.agg (mCells u2.m),.ptr 6 0,.agg (rdr u2.s u2.er)]] (mask 19) 200 19 [.ptr 4 0,.ptr 5 0] (hR (fieldsN 21) u0) 7)=some (.tup [],[some (.cells false (penR (fieldsN 21) u2.e 6)),some (.cells false (mCells u2.m)),some (.cells false (rdr u2.s u2.er))],[oB (eR (nR (k+4)) 48 [.ptr 4 0,.ptr 5 9]) 559 (hR (fieldsN 21) u1) (.tup []) (hR (fieldsN 21) u2),oB (eR (nR (k+4)) 41 [.ptr 4 0,.int .i64 128,.int .i64 16,.ptr 5 8]) 519 (hR (fieldsN 21) u0) (.tup []) (hR (fieldsN 21) u1)]):=by kernel_rfl
theorem b21 (k:Nat) (st:Rs):AllR 21 k st:=⟨_,_,_,_,a21 k st (fdS .X st) (fdS .E (fdS .X st)),(allT_mk (oB_of (RE k (fieldsN 21) rfl (fdS .X st))) (allT_mk (oB_of (RX k (fieldsN 21) rfl st)) rfl))⟩
theorem all_read (t:UInt8) (hne:(fds t.toNat).isEmpty=false) (k:Nat) (st:Rs):AllR t k st:=by
 have h:∀ n,(fds n).isEmpty=false→AllR (UInt8.ofNat n) k st:=fun n hn=>by
  unfold fds at hn
  split at hn
  ·exact b1 k st
  ·exact b2 k st
  ·exact b3 k st
  ·exact b4 k st
  ·exact b5 k st
  ·exact b6 k st
  ·exact b7 k st
  ·exact b8 k st
  ·exact b9 k st
  ·exact b10 k st
  ·exact b11 k st
  ·exact b12 k st
  ·exact b13 k st
  ·exact b14 k st
  ·exact b15 k st
  ·exact b16 k st
  ·exact b17 k st
  ·exact b18 k st
  ·exact b19 k st
  ·exact b20 k st
  ·exact b21 k st
  ·cases hn
 have:=h t.toNat hne
 rwa [UInt8.ofNat_toNat] at this
end Go.Proofs.YthlemfnkmpikjaaDoor
namespace Go.Proofs.YthlemfnkmpikjaaDoor
open Go Go.Eng Go.Num Go.Msg
theorem run39 (s:List UInt8):newP (run1 Tryd.prog noCS (mask 39) 200 39 [.str s] [] Tryd.prog.globals.size)=some (28,rdr s 0):=by kernel_rfl
def k39:List AVal→Option EffA
 | [.str s]=>some (.alloc (.cells false (rdr s 0)) fun b=>.ptr b 0)
 | _=>none
theorem k39_ok:CSOk Tryd.prog (csOne 39 k39):=csOne_ok fun args e he=>by
 unfold k39 at he
 split at he
 ·cases he
  exact callOk_newP (noCS_ok _) hmix rfl (run39 _) rfl rfl
 ·cases he
noncomputable def nQ (k:Nat):CS:=csAlt (csAlt (csOne 39 k39) (csOne 18 k18)) (nR (k+6))
theorem nQ_ok (k:Nat):CSOk Tryd.prog (nQ k):=csAlt_ok (csAlt_ok k39_ok k18_ok) (nR_ok _)
end Go.Proofs.YthlemfnkmpikjaaDoor
namespace Go.Proofs.YthlemfnkmpikjaaDoor
open Go Go.Eng Go.Num Go.Msg
def Stands (r:Int × Ms × List UInt8) (u:Rs):Prop:=(r.1=0→u=⟨0,r.2.1,r.2.2,0⟩)∧(r.1 ≠ 0→u.e=r.1)
theorem takeR_0 (n:Nat) (s:List UInt8):takeR n s 0=cond (Nat.ble n s.length) (s.take n,true,s.drop n,0) ([],false,s,7):=rfl
theorem takeR_7 (n:Nat) (s:List UInt8):takeR n s 7=([],false,s,7):=rfl
theorem stands_take {n:Nat}{g:List UInt8→Ms}{m:Ms}{s:List UInt8}:Stands (takeF n s m g) (tkS n g ⟨0,m,s,0⟩):=by
 have e:tkS n g ⟨0,m,s,0⟩=⟨(takeR n s 0).2.2.2,g (takeR n s 0).1,(takeR n s 0).2.2.1,(takeR n s 0).2.2.2⟩:=rfl
 rw [e,takeR_0]
 unfold takeF
 cases hb:Nat.ble n s.length
 ·exact ⟨fun h=>absurd h (by show (7:Int) ≠ 0; decide),fun _=>rfl⟩
 ·exact ⟨fun _=>rfl,fun h=>absurd rfl h⟩
theorem stands_aux {most l:Int}{g:List UInt8→Ms}{m:Ms}{s s2:List UInt8}:Stands (cond (decide (most < l)) (4,m,s) (cond (Nat.ble l.toNat s2.length) (0,g (s2.take l.toNat),s2.drop l.toNat) (7,m,s)))
  (cond (decide (most < l)) ⟨4,m,s2,0⟩ ⟨(takeR l.toNat s2 0).2.2.2,g (takeR l.toNat s2 0).1,(takeR l.toNat s2 0).2.2.1,(takeR l.toNat s2 0).2.2.2⟩):=by
 rw [takeR_0]
 cases hl:decide (most < l)
 ·simp only [cond_false]
  cases hc:Nat.ble l.toNat s2.length
  ·exact ⟨fun h=>absurd h (by show (7:Int) ≠ 0; decide),fun _=>rfl⟩
  ·exact ⟨fun _=>rfl,fun h=>absurd rfl h⟩
 ·exact ⟨fun h=>absurd h (by show (4:Int) ≠ 0; decide),fun _=>rfl⟩
theorem stands_text {most:Int}{g:List UInt8→Ms}{m:Ms}{s:List UInt8}:Stands (textF cdR most s m g) (txS most g ⟨0,m,s,0⟩):=by
 have e:txS most g ⟨0,m,s,0⟩=cond ((takeR 2 s 0).2.2.2 == 0) (cond (decide (most < rd2 (takeR 2 s 0).1)) ⟨4,m,(takeR 2 s 0).2.2.1,(takeR 2 s 0).2.2.2⟩
   ⟨(takeR (rd2 (takeR 2 s 0).1).toNat (takeR 2 s 0).2.2.1 (takeR 2 s 0).2.2.2).2.2.2,g (takeR (rd2 (takeR 2 s 0).1).toNat (takeR 2 s 0).2.2.1 (takeR 2 s 0).2.2.2).1,(takeR (rd2 (takeR 2 s 0).1).toNat (takeR 2 s 0).2.2.1 (takeR 2 s 0).2.2.2).2.2.1,(takeR (rd2 (takeR 2 s 0).1).toNat (takeR 2 s 0).2.2.1 (takeR 2 s 0).2.2.2).2.2.2⟩)
  ⟨(takeR 2 s 0).2.2.2,m,(takeR 2 s 0).2.2.1,(takeR 2 s 0).2.2.2⟩:=rfl
 rw [e,takeR_0]
 unfold textF
 cases hb:Nat.ble 2 s.length
 ·exact ⟨fun h=>absurd h (by show (7:Int) ≠ 0; decide),fun _=>rfl⟩
 ·simp only [cond_true]
  rw [show (((0:Int)) == 0)=true from rfl,cond_true]
  exact stands_aux
theorem rdB_one (v:UInt8):rdB [v]=v:=by
 apply UInt8.toNat_inj.1
 show ((st8 (0:UInt8).toUInt64 v).toUInt8).toNat=v.toNat
 rw [UInt64.toNat_toUInt8,st8_val]
 have:=v.toNat_lt
 have e:(0:UInt8).toUInt64.toNat=0:=rfl
 rw [e]
 omega
theorem takeR_yes {n:Nat}{s:List UInt8}(h:n≤s.length):takeR n s 0=(s.take n,true,s.drop n,0):=by
 rw [takeR_0,Nat.ble_eq_true_of_le h]
 rfl
theorem ble_no {n k:Nat}(h:k < n):Nat.ble n k=false:=by
 cases hb:Nat.ble n k
 ·rfl
 ·have:=Nat.le_of_ble_eq_true hb
  omega
theorem takeR_no {n:Nat}{s:List UInt8}(h:s.length < n):takeR n s 0=([],false,s,7):=by
 rw [takeR_0,ble_no h]
 rfl
theorem stands_end {m:Ms}{s:List UInt8}:Stands (Msg.endF cdR s m) (endS ⟨0,m,s,0⟩):=by
 have e:endS ⟨0,m,s,0⟩=rdE1 m (rdB (takeR 1 s 0).1) (takeR 1 s 0).2.2.1 (takeR 1 s 0).2.2.2:=rfl
 rw [e]
 cases s with
 | nil=>exact ⟨fun h=>absurd h (by show (7:Int) ≠ 0; decide),fun _=>rfl⟩
 | cons v s =>
  rw [takeR_yes (n:=1) (s:=v::s) (by simp)]
  simp only [List.take_succ_cons,List.take_zero,List.drop_succ_cons,List.drop_zero]
  rw [rdB_one]
  unfold rdE1
  simp only [Msg.endF]
  rw [show ((0:Int) != 0)=false from rfl,cond_false]
  cases h4:(v == 4) with
  | true =>
   simp only [cond_true]
   by_cases hl:6≤s.length
   ·have h2:2≤(s.drop 4).length:=by rw [List.length_drop]; omega
    rw [takeR_yes (n:=4) (by omega)]
    simp only
    rw [takeR_yes h2,Nat.ble_eq_true_of_le hl]
    refine ⟨fun _ => ?_,fun h=>absurd rfl h⟩
    simp only [cond_true,List.drop_drop]
    rfl
   ·rw [ble_no (by omega)]
    refine ⟨fun h=>absurd h (by show (7:Int) ≠ 0; decide),fun _ => ?_⟩
    simp only [cond_false]
    by_cases hl4:4≤s.length
    ·rw [takeR_yes hl4]
     simp only
     rw [takeR_no (by rw [List.length_drop]; omega)]
    ·rw [takeR_no (n:=4) (by omega)]
     simp only [takeR_7]
  | false =>
   simp only [cond_false]
   cases h6:(v == 6) with
   | true =>
    simp only [cond_true]
    by_cases hl:18≤s.length
    ·have h2:8≤(s.drop 8).length:=by rw [List.length_drop]; omega
     have h3:2≤((s.drop 8).drop 8).length:=by rw [List.length_drop,List.length_drop]; omega
     rw [takeR_yes (n:=8) (s:=s) (by omega)]
     simp only
     rw [takeR_yes h2]
     simp only
     rw [takeR_yes h3,Nat.ble_eq_true_of_le hl]
     refine ⟨fun _ => ?_,fun h=>absurd rfl h⟩
     simp only [cond_true,List.drop_drop]
     rfl
    ·rw [ble_no (by omega)]
     refine ⟨fun h=>absurd h (by show (7:Int) ≠ 0; decide),fun _ => ?_⟩
     simp only [cond_false]
     by_cases hl8:8≤s.length
     ·rw [takeR_yes hl8]
      simp only
      by_cases hl16:16≤s.length
      ·rw [takeR_yes (n:=8) (s:=s.drop 8) (by rw [List.length_drop]; omega)]
       simp only
       rw [takeR_no (by rw [List.length_drop,List.length_drop]; omega)]
      ·rw [takeR_no (n:=8) (s:=s.drop 8) (by rw [List.length_drop]; omega)]
       simp only [takeR_7]
     ·rw [takeR_no (n:=8) (s:=s) (by omega)]
      simp only [takeR_7]
   | false =>
    simp only [cond_false]
    exact ⟨fun h=>absurd h (by show (8:Int) ≠ 0; decide),fun _=>rfl⟩
theorem stands_fd (f:Msg.Fd) (m:Ms) (s:List UInt8):Stands (decF cdR f s m) (fdS f ⟨0,m,s,0⟩):=by
 cases f <;> first | exact stands_take | exact stands_text | exact stands_end
theorem fdS_stays (f:Msg.Fd) (st:Rs) (h:st.e ≠ 0):fdS f st=st:=by
 have he:(st.e == 0)=false:=beq_eq_false_iff_ne.2 h
 cases f <;> simp only [fdS,tkS,txS,endS,he,cond_false]
theorem rdG_stays:∀ (fs:List Msg.Fd) (st:Rs),st.e ≠ 0→rdG fs st=st
 | [],st,_=>rfl
 | f::fs,st,h=>by
  show rdG fs (fdS f st)=st
  rw [fdS_stays f st h]
  exact rdG_stays fs st h
theorem stands_rdG:∀ (fs:List Msg.Fd) (m:Ms) (s:List UInt8),Stands (decG cdR fs s m) (rdG fs ⟨0,m,s,0⟩)
 | [],m,s=>⟨fun _=>rfl,fun h=>absurd rfl h⟩
 | f::fs,m,s=>by
  have h:=stands_fd f m s
  show Stands (decG cdR (f::fs) s m) (rdG fs (fdS f ⟨0,m,s,0⟩))
  unfold decG
  generalize decF cdR f s m=r at h ⊢
  by_cases h0:r.1=0
  ·rw [decide_eq_true h0,cond_true,h.1 h0]
   exact stands_rdG fs r.2.1 r.2.2
  ·rw [decide_eq_false h0,cond_false,rdG_stays fs _ (by rw [h.2 h0]; exact h0)]
   exact h
def endR (s:List UInt8) (e:Int):Int:=cond (e == 0) (cond s.isEmpty e 8) e
def finR (u:Rs):Ms × Int:=cond (u.e == 0) (cond (endR u.s u.er != 0) (zeroM,endR u.s u.er) (u.m,0)) (zeroM,u.e)
theorem stands_fin {r:Int × Ms × List UInt8}{u:Rs}(h:Stands r u):finR u=Msg.endM r:=by
 unfold finR Msg.endM
 by_cases h0:r.1=0
 ·rw [h.1 h0,decide_eq_true h0]
  simp only [cond_true]
  rw [show ((0:Int) == 0)=true from rfl,cond_true]
  unfold endR
  rw [show ((0:Int) == 0)=true from rfl,cond_true]
  cases r.2.2.isEmpty <;> rfl
 ·rw [h.2 h0,decide_eq_false h0,beq_eq_false_iff_ne.2 h0]
  rfl
theorem dec_fin (t:UInt8) (s:List UInt8) (hne:(fds t.toNat).isEmpty=false):dec cdR (t::s)=finR (rdG (fds t.toNat) ⟨0,{ zeroM with ty:=t },s,0⟩):=by
 rw [stands_fin (stands_rdG (fds t.toNat) { zeroM with ty:=t } s)]
 simp only [dec,hne,cond_false]
end Go.Proofs.YthlemfnkmpikjaaDoor
namespace Go.Proofs.YthlemfnkmpikjaaDoor
open Go Go.Eng Go.Num Go.Msg
theorem t40a (k:Nat) (s:List UInt8) (e:Int):ansM [4] (run1O Tryd.prog noPS (nR (k+1)) [10,17] [true,true] [] (mask 40) 200 40 [.ptr 4 0] [(4,.cells false (rdr s e))] 5)=some (.int .i64 8,[some (.cells false (rdr s e))],[!(s == []),e == 0]):=by kernel_rfl
theorem t40b (k:Nat) (s:List UInt8) (e:Int):ansM [4] (run1O Tryd.prog noPS (nR (k+1)) [10,17] [true,false] [] (mask 40) 200 40 [.ptr 4 0] [(4,.cells false (rdr s e))] 5)=some (.int .i64 e,[some (.cells false (rdr s e))],[!!(s == []),e == 0]):=by kernel_rfl
theorem t40c (k:Nat) (s:List UInt8) (e:Int):ansM [4] (run1O Tryd.prog noPS (nR (k+1)) [10,17] [false] [] (mask 40) 200 40 [.ptr 4 0] [(4,.cells false (rdr s e))] 5)=some (.int .i64 e,[some (.cells false (rdr s e))],[!(e == 0)]):=by kernel_rfl
theorem E40 (k:Nat) (s:List UInt8) (e:Int){H:HL}{r base:Nat}(h:aget H r=some (.cells false (rdr s e))):(eR (nR (k+1)) 40 [.ptr r 0]).app base H=some (.int .i64 (endR s e),aset H r (.cells false (rdr s e))):=by
 unfold endR
 cases he:(e == 0) with
 | false =>
  simp only [cond_false]
  exact rd0 (t40c k s e) (allT_mk (by rw [he]; rfl) rfl) rfl h rfl
 | true =>
  cases s with
  | nil=>exact rd0 (t40b k [] e) (allT_mk rfl (allT_mk he rfl)) rfl h rfl
  | cons a s=>exact rd0 (t40a k (a::s) e) (allT_mk rfl (allT_mk he rfl)) rfl h rfl
def H17 (t:UInt8) (s:List UInt8):HL:=[(4,.cells false (mCells zeroM)),(76,.cells false (rdr s 0)),(92,.cells false (penR (fieldsN t) 0 76)),(172,.cells false (mCells { zeroM with ty:=t }))]
def HU (t:UInt8) (u:Rs):HL:=[(4,.cells false (mCells zeroM)),(76,.cells false (rdr u.s u.er)),(92,.cells false (penR (fieldsN t) u.e 76)),(172,.cells false (mCells u.m))]
def ixO (t:UInt8) (s:List UInt8):Bool:=(decide ((0:Int)≤0)) && (decide (0 < ((t::s).length:Int)))
def slO (t:UInt8) (s:List UInt8):Bool:=(decide ((0:Int)≤1)) && ((decide (1≤((t::s).length:Int))) && decide (((t::s).length:Int)≤((t::s).length:Int)))
def bU (t:UInt8) (u:Rs):AVal:=.tup [.ptr 92 0,.agg (penR (fieldsN t) u.e 76),.ptr 172 0,.agg (mCells u.m),.ptr 76 0,.agg (rdr u.s u.er)]
theorem f17n (k:Nat):ansO (run1O Tryd.prog noPS (nQ k) [7,10,13,21,24,32,45,300027,300038] [true] [] (mask 17) 200 17 [.str []] [] 4)=some (.tup [mA zeroM,.int .i64 7],[true]):=by kernel_rfl
theorem f17z (k:Nat) (t:UInt8) (s:List UInt8):ansO (run1O Tryd.prog noPS (nQ k) [7,10,13,21,24,32,45,300027,300038] [false,true] [] (mask 17) 200 17 [.str (t::s)] [] 4)=some (.tup [mA zeroM,.int .i64 150],[fieldsN t == 0,slO t s,ixO t s,true]):=by kernel_rfl
theorem f17f (k:Nat) (t:UInt8) (s:List UInt8) (u:Rs):ansO (run1O Tryd.prog noPS (nQ k) [7,10,13,21,24,32,45,300027,300038] [false,false,false,true] [.tup [],bU t u] (mask 17) 200 17 [.str (t::s)] [] 4)=some (.tup [mA zeroM,.int .i64 u.e],[u.e != 0,!(u.e == 0),oB (eR (nR (k+5)) 19 [.ptr 92 0,.ptr 172 0]) 196 (H17 t (s.take s.length)) (.tup []) (HU t u),ixO t s,!(fieldsN t == 0),slO t s,ixO t s,true]):=by kernel_rfl
theorem f17x (k:Nat) (t:UInt8) (s:List UInt8) (u:Rs) (x:Int):ansO (run1O Tryd.prog noPS (nQ k) [7,10,13,21,24,32,45,300027,300038] [false,false,true,true] [.tup [],bU t u,.int .i64 x,.tup []] (mask 17) 200 17 [.str (t::s)] [] 4)=some (.tup [mA zeroM,.int .i64 x],[x != 0,oB (eR (nR (k+5)) 40 [.ptr 76 0]) 284 (HU t u) (.int .i64 x) (HU t u),u.e == 0,oB (eR (nR (k+5)) 19 [.ptr 92 0,.ptr 172 0]) 196 (H17 t (s.take s.length)) (.tup []) (HU t u),ixO t s,!(fieldsN t == 0),slO t s,ixO t s,true]):=by kernel_rfl
theorem f17y (k:Nat) (t:UInt8) (s:List UInt8) (u:Rs) (x:Int):ansO (run1O Tryd.prog noPS (nQ k) [7,10,13,21,24,32,45,300027,300038] [false,false,true,false] [.tup [],bU t u,.int .i64 x,.tup []] (mask 17) 200 17 [.str (t::s)] [] 4)=some (.tup [mA u.m,.int .i64 0],[!(x != 0),oB (eR (nR (k+5)) 40 [.ptr 76 0]) 284 (HU t u) (.int .i64 x) (HU t u),u.e == 0,oB (eR (nR (k+5)) 19 [.ptr 92 0,.ptr 172 0]) 196 (H17 t (s.take s.length)) (.tup []) (HU t u),ixO t s,!(fieldsN t == 0),slO t s,ixO t s,true]):=by kernel_rfl
theorem E19r (k:Nat) (t:UInt8) (hne:(fds t.toNat).isEmpty=false) (s:List UInt8){base:Nat}:(eR (nR (k+5)) 19 [.ptr 92 0,.ptr 172 0]).app base (H17 t s)=some (.tup [],HU t (rdG (fds t.toNat) ⟨0,{ zeroM with ty:=t },s,0⟩)):=by
 obtain ⟨sy,os,vs,ob,hr,ha⟩:=all_read t hne k ⟨0,{ zeroM with ty:=t },s,0⟩
 exact inlE_run (noPS_ok _) (ns:=[92,172,76]) hr ha gl rfl rfl rfl rfl rfl rfl
theorem ix_yes (t:UInt8) (s:List UInt8):ixO t s=true:=by
 unfold ixO
 rw [decide_eq_true (by omega),decide_eq_true (by rw [List.length_cons]; omega)]
 rfl
theorem sl_yes (t:UInt8) (s:List UInt8):slO t s=true:=by
 unfold slO
 rw [decide_eq_true (by omega),decide_eq_true (by rw [List.length_cons]; omega),decide_eq_true (by omega)]
 rfl
def k17 (d:List UInt8→Ms × Int):List AVal→Option EffA
 | [.str s]=>some (.pure (.tup [mA (d s).1,.int .i64 (d s).2]))
 | _=>none
theorem some_fields {t:UInt8}(h:(fds t.toNat).isEmpty=false):(fieldsN t == 0)=false:=by
 have key:∀ n,(fds n).isEmpty=false→(sumF (fds n) == 0)=false:=fun n hn=>by
  unfold fds at hn ⊢
  split at hn
  all_goals first | rfl | cases hn
 exact key _ h
theorem k17_ok:CSOk Tryd.prog (csOne 17 (k17 (dec cdR))):=csOne_ok fun args e he=>by
 unfold k17 at he
 split at he
 ·rename_i s
  cases he
  cases s with
  | nil=>exact callOk_val (nQ_ok 0) hmix (ansO_run (noPS_ok _) (f17n 0) (allT_mk rfl rfl)) rfl rfl
  | cons t s =>
   cases hne:(fds t.toNat).isEmpty with
   | true =>
    have e:dec cdR (t::s)=(zeroM,150):=by simp only [dec,hne,cond_true]
    rw [e]
    exact callOk_val (nQ_ok 0) hmix (ansO_run (noPS_ok _) (f17z 0 t s) (allT_mk (emp_none hne) (allT_mk (sl_yes t s) (allT_mk (ix_yes t s) (allT_mk rfl rfl))))) rfl rfl
   | false =>
    rw [dec_fin t s hne]
    have h19:=fun base=>E19r 0 t hne s (base:=base)
    have ht:=List.take_length (l:=s)
    generalize rdG (fds t.toNat) ⟨0,{ zeroM with ty:=t },s,0⟩=u at h19 ⊢
    have hf:(!(fieldsN t == 0))=true:=by rw [some_fields hne]; rfl
    unfold finR
    cases h0:(u.e == 0) with
    | false =>
     simp only [cond_false]
     exact callOk_val (nQ_ok 0) hmix (ansO_run (noPS_ok _) (f17f 0 t s u) (allT_mk (by show (!(u.e == 0))=true; rw [h0]; rfl) (allT_mk (by rw [h0]; rfl) (allT_mk (by rw [ht]; exact oB_of (h19 _)) (allT_mk (ix_yes t s) (allT_mk hf (allT_mk (sl_yes t s) (allT_mk (ix_yes t s) (allT_mk rfl rfl))))))))) rfl rfl
    | true =>
     simp only [cond_true]
     have h40:=fun base=>E40 4 u.s u.er (H:=HU t u) (r:=76) (base:=base) rfl
     generalize endR u.s u.er=x at h40 ⊢
     cases hx:(x != 0) with
     | true =>
      simp only [cond_true]
      exact callOk_val (nQ_ok 0) hmix (ansO_run (noPS_ok _) (f17x 0 t s u x) (allT_mk hx (allT_mk (oB_of (h40 _)) (allT_mk h0 (allT_mk (by rw [ht]; exact oB_of (h19 _)) (allT_mk (ix_yes t s) (allT_mk hf (allT_mk (sl_yes t s) (allT_mk (ix_yes t s) (allT_mk rfl rfl)))))))))) rfl rfl
     | false =>
      simp only [cond_false]
      exact callOk_val (nQ_ok 0) hmix (ansO_run (noPS_ok _) (f17y 0 t s u x) (allT_mk (by rw [hx]; rfl) (allT_mk (oB_of (h40 _)) (allT_mk h0 (allT_mk (by rw [ht]; exact oB_of (h19 _)) (allT_mk (ix_yes t s) (allT_mk hf (allT_mk (sl_yes t s) (allT_mk (ix_yes t s) (allT_mk rfl rfl)))))))))) rfl rfl
 ·cases he
end Go.Proofs.YthlemfnkmpikjaaDoor
namespace Go.Proofs.YthlemfnkmpikjaaDoor
open Go Go.Eng Go.Num
noncomputable def nV:CS:=csAlt (csOne 22 k22) (inlW Tryd.prog mask 200 noCS 4)
theorem nV_ok:CSOk Tryd.prog nV:=csAlt_ok k22_ok nI_ok
end Go.Proofs.YthlemfnkmpikjaaDoor
namespace Go.Proofs.YthlemfnkmpikjaaDoor
open Go Go.Eng Go.Num
def namesL:List (List UInt8):=[[114,101,103,105,115,116,101,114],[114,101,103,105,115,116,101,114,101,100],[112,111,108,108],[102,117,108,108],[100,101,108,116,97],[114,101,102,117,115,101,100],[112,114,111,98,101],[115,101,101,110],[112,105,110,103],[112,111,110,103],[104,101,108,108,111],[99,104,97,108,108,101,110,103,101],[112,114,111,111,102],[115,101,110,100],[99,97,109,101],[103,111,110,101],[105,110,105,116],[114,101,115,112],[108,111,97,100],[97,115,107],[116,111,108,100]]
def ofN (s:List UInt8):Int:=Lib.idxOfS (namesL.map bas) (bas s)
def ofT (s:List UInt8):UInt8:=cond (decide ((0:Int)≤ofN s)) (UInt8.ofInt (IntKind.wrap .i64 (ofN s+1))) 0
def ofE (s:List UInt8):Int:=cond (decide ((0:Int)≤ofN s)) 0 150
theorem of_a (s:List UInt8):ansO (run1O Tryd.prog noPS nV [9] [true] [] (mask 11) 200 11 [.str s] [] Tryd.prog.globals.size)=some (.tup [.u8 (UInt8.ofInt (IntKind.wrap .i64 (ofN s+1))),.int .i64 0],[decide ((0:Int)≤ofN s)]):=by kernel_rfl
theorem of_b (s:List UInt8):ansO (run1O Tryd.prog noPS nV [9] [false] [] (mask 11) 200 11 [.str s] [] Tryd.prog.globals.size)=some (.tup [.u8 0,.int .i64 150],[!decide ((0:Int)≤ofN s)]):=by kernel_rfl
def k11:List AVal→Option EffA
 | [.str s]=>some (.pure (.tup [.u8 (ofT s),.int .i64 (ofE s)]))
 | _=>none
theorem k11_ok:CSOk Tryd.prog (csOne 11 k11):=csOne_ok fun args e he=>by
 unfold k11 at he
 split at he
 ·rename_i s
  cases he
  unfold ofT ofE
  cases h:decide ((0:Int)≤ofN s) with
  | true=>exact callOk_val nV_ok hmix (ansO_run (noPS_ok _) (of_a s) (by rw [h]; rfl)) rfl rfl
  | false=>exact callOk_val nV_ok hmix (ansO_run (noPS_ok _) (of_b s) (by rw [h]; rfl)) rfl rfl
 ·cases he
def nameT (t:UInt8):List UInt8:=cond (Nat.beq t.toNat 0) [] (namesL.getD (t.toNat - 1) [])
noncomputable def chk16 (n:Nat):Bool:=match run1 Tryd.prog nI (mask 16) 200 16 [.u8 (UInt8.ofNat n)] [] 4 with
 | some (.str x,_,_)=>x == nameT (UInt8.ofNat n)
 | _=>false
theorem n16_0:(List.range 32).all (fun j=>chk16 (0+j))=true:=by kernel_rfl
theorem n16_1:(List.range 32).all (fun j=>chk16 (32+j))=true:=by kernel_rfl
theorem n16_2:(List.range 32).all (fun j=>chk16 (64+j))=true:=by kernel_rfl
theorem n16_3:(List.range 32).all (fun j=>chk16 (96+j))=true:=by kernel_rfl
theorem n16_4:(List.range 32).all (fun j=>chk16 (128+j))=true:=by kernel_rfl
theorem n16_5:(List.range 32).all (fun j=>chk16 (160+j))=true:=by kernel_rfl
theorem n16_6:(List.range 32).all (fun j=>chk16 (192+j))=true:=by kernel_rfl
theorem n16_7:(List.range 32).all (fun j=>chk16 (224+j))=true:=by kernel_rfl
theorem n16_at {k:Nat}(h:(List.range 32).all (fun j=>chk16 (k+j))=true){n:Nat}(h1:k≤n) (h2:n < k+32):chk16 n=true:=by
 have:=List.all_eq_true.1 h (n - k) (List.mem_range.2 (by omega))
 rw [show k+(n - k)=n by omega] at this
 exact this
theorem all16 (n:Nat) (h:n < 256):chk16 n=true:=by
 by_cases c0:n < 32
 ·exact n16_at n16_0 (by omega) (by omega)
 by_cases c1:n < 64
 ·exact n16_at n16_1 (by omega) (by omega)
 by_cases c2:n < 96
 ·exact n16_at n16_2 (by omega) (by omega)
 by_cases c3:n < 128
 ·exact n16_at n16_3 (by omega) (by omega)
 by_cases c4:n < 160
 ·exact n16_at n16_4 (by omega) (by omega)
 by_cases c5:n < 192
 ·exact n16_at n16_5 (by omega) (by omega)
 by_cases c6:n < 224
 ·exact n16_at n16_6 (by omega) (by omega)
 exact n16_at n16_7 (by omega) (by omega)
def k16:List AVal→Option EffA
 | [.u8 t]=>some (.pure (.str (nameT t)))
 | _=>none
theorem k16_ok:CSOk Tryd.prog (csOne 16 k16):=csOne_ok fun args e he=>by
 unfold k16 at he
 split at he
 ·rename_i t
  cases he
  have h:=all16 t.toNat (by have:=t.toNat_lt; omega)
  unfold chk16 at h
  rw [UInt8.ofNat_toNat] at h
  split at h
  ·rename_i x H' fr' hr
   have hx:=eq_of_beq h
   subst hx
   rw [← gl] at hr
   exact callOk_run nI_ok hmix hr rfl rfl
  ·cases h
 ·cases he
end Go.Proofs.YthlemfnkmpikjaaDoor
namespace Go.Proofs.YthlemfnkmpikjaaDoor
open Go Go.Eng Go.Num Go.Msg
structure Fy where
 ev:Ms→List UInt8
 mv:Ms→Int
 dv:List UInt8→Ms × Int
 ot:List UInt8→UInt8
 oe:List UInt8→Int
 nm:UInt8→List UInt8
 hv:Ms→Bool
def q11 (φ:Fy):List AVal→Option EffA
 | [.str s]=>some (.pure (.tup [.u8 (φ.ot s),.int .i64 (φ.oe s)]))
 | _=>none
def q16 (φ:Fy):List AVal→Option EffA
 | [.u8 t]=>some (.pure (.str (φ.nm t)))
 | _=>none
def q7 (hv:Ms→Bool):List AVal→Option EffA
 | [.agg [.u8 ty,.str fr,.str tt,.u32 ix,.u32 pe,.u64 co,.u64 ba,.u64 ve,.str tx,.bool v6,.u64 hi,.u64 lo,.int .u16 po,.int .u16 cd,.str te,.str da,.str sg]]=>some (.pure (.bool (hv ⟨ty,fr,tt,ix,pe,co,ba,ve,tx,v6,hi,lo,po,cd,te,da,sg⟩)))
 | _=>none
def p15 (ev:Ms→List UInt8):List AVal→Option (EffA × Bool)
 | [.agg [.u8 ty,.str fr,.str tt,.u32 ix,.u32 pe,.u64 co,.u64 ba,.u64 ve,.str tx,.bool v6,.u64 hi,.u64 lo,.int .u16 po,.int .u16 cd,.str te,.str da,.str sg]]=>some (tL (some (.int .i64 ((ev ⟨ty,fr,tt,ix,pe,co,ba,ve,tx,v6,hi,lo,po,cd,te,da,sg⟩).length:Int))),rngB ⟨ty,fr,tt,ix,pe,co,ba,ve,tx,v6,hi,lo,po,cd,te,da,sg⟩)
 | _=>none
def ps9 (φ:Fy):PS:=psOne 9 (pEnc φ.ev φ.mv)
def ps10 (φ:Fy):PS:=psOne 10 (pEnc φ.ev φ.mv)
def psQ (φ:Fy):PS:=psAlt (ps9 φ) (psAlt (ps10 φ) (psOne 15 (p15 φ.ev)))
def n15 (φ:Fy):CS:=csAlt (csP (ps9 φ)) noCS
theorem t15 (φ:Fy) (m:Ms):ansO (run1O Tryd.prog (ps9 φ) (n15 φ) [7] [] [] (mask 15) 200 15 [mA m] H0 4)=some (.int .i64 ((φ.ev m).length:Int),[rngB m]):=by kernel_rfl
def w64 (x:Int):Int:=IntKind.wrap .i64 x
def hvA (m:Ms):Bool:=decide (4096 < w64 (w64 (w64 (w64 ((m.fr.length:Int)+(m.tt.length:Int))+(m.tx.length:Int))+(m.te.length:Int))+(m.sg.length:Int)))
def hvM (m:Ms):Bool:=cond (hvA m) true (decide (65536 < (m.da.length:Int)))
theorem t7a (m:Ms):ansO (run1O Tryd.prog noPS noCS [22,27] [true] [] (mask 7) 200 7 [mA m] [] Tryd.prog.globals.size)=some (.bool true,[hvA m]):=by kernel_rfl
theorem t7b (m:Ms):ansO (run1O Tryd.prog noPS noCS [22,27] [false] [] (mask 7) 200 7 [mA m] [] Tryd.prog.globals.size)=some (.bool (decide (65536 < (m.da.length:Int))),[!hvA m]):=by kernel_rfl
theorem q7_ok:CSOk Tryd.prog (csOne 7 (q7 hvM)):=csOne_ok fun args e he=>by
 unfold q7 at he
 split at he
 ·rename_i ty fr tt ix pe co ba ve tx0 v6 hi lo po cd te da sg
  cases he
  have e:hvM ⟨ty,fr,tt,ix,pe,co,ba,ve,tx0,v6,hi,lo,po,cd,te,da,sg⟩=cond (hvA ⟨ty,fr,tt,ix,pe,co,ba,ve,tx0,v6,hi,lo,po,cd,te,da,sg⟩) true (decide (65536 < (da.length:Int))):=rfl
  have ra:=t7a ⟨ty,fr,tt,ix,pe,co,ba,ve,tx0,v6,hi,lo,po,cd,te,da,sg⟩
  have rb:=t7b ⟨ty,fr,tt,ix,pe,co,ba,ve,tx0,v6,hi,lo,po,cd,te,da,sg⟩
  rw [e]
  generalize hvA ⟨ty,fr,tt,ix,pe,co,ba,ve,tx0,v6,hi,lo,po,cd,te,da,sg⟩=b at ra rb ⊢
  cases b with
  | true=>exact callOk_val (noCS_ok _) hmix (ansO_run (noPS_ok _) ra (allT_mk rfl rfl)) rfl rfl
  | false=>exact callOk_val (noCS_ok _) hmix (ansO_run (noPS_ok _) rb (allT_mk rfl rfl)) rfl rfl
 ·cases he
def rF (hv:Ms→Bool):Fy:=⟨encS,mayS,dec cdR,ofT,ofE,nameT,hv⟩
theorem p15_ok:CSOk Tryd.prog (csP (psOne 15 (p15 encS))):=psOne_ok fun args e he=>by
 unfold p15 at he
 split at he
 ·rename_i ty fr tt ix pe co ba ve tx0 v6 hi lo po cd te da sg
  simp only [Option.some.injEq,Prod.mk.injEq] at he
  obtain ⟨rfl,hl⟩:=he
  refine callOk_tL (cs:=n15 (rF hvM)) (csAlt_ok p9_ok (noCS_ok _)) (by kernel_rfl) fun y hy => ?_
  cases hy
  exact ⟨rfl,_,_,run_of (ansO_run csP_ok (t15 (rF hvM) ⟨ty,fr,tt,ix,pe,co,ba,ve,tx0,v6,hi,lo,po,cd,te,da,sg⟩) (allT_mk hl rfl))⟩
 ·cases he
theorem psQ_ok (hv:Ms→Bool):CSOk Tryd.prog (csP (psQ (rF hv))):=csP_alt p9_ok (csP_alt p10_ok p15_ok)
noncomputable def nW (φ:Fy):CS:=csAlt (csP (psQ φ)) (csAlt (csOne 11 (q11 φ)) (csAlt (csOne 13 (k13 φ.mv)) (csAlt (csOne 16 (q16 φ)) (csAlt (csOne 17 (k17 φ.dv)) nI))))
theorem k13r_ok:CSOk Tryd.prog (csOne 13 (k13 mayS)):=by
 have e:mayC (tx far)=mayS:=funext mayC_eq
 have h:=k13_ok
 rw [e] at h
 exact h
theorem k14r_ok:CSOk Tryd.prog (csOne 14 (k13 mayS)):=by
 have e:mayD=mayS:=funext mayD_eq
 have h:=k14_ok
 rw [e] at h
 exact h
theorem nW_ok (hv:Ms→Bool):CSOk Tryd.prog (nW (rF hv)):=csAlt_ok (psQ_ok hv) (csAlt_ok k11_ok (csAlt_ok k13r_ok (csAlt_ok k16_ok (csAlt_ok k17_ok nI_ok))))
end Go.Proofs.YthlemfnkmpikjaaDoor
namespace Go.Proofs.YthlemfnkmpikjaaDoor
open Go Go.Eng Go.Num Go.Msg
def eqMs (a b:Ms):Bool:=(a.ty == b.ty) && ((a.fr == b.fr) && ((a.tt == b.tt) && ((a.ix == b.ix) && ((a.pe == b.pe) && ((a.co == b.co) && ((a.ba == b.ba) && ((a.ve == b.ve) && ((a.tx == b.tx) && ((((a.v6 == b.v6) && ((a.hi == b.hi) && ((a.lo == b.lo) && true))) && ((a.po == b.po) && true)) && ((a.cd == b.cd) && ((a.te == b.te) && ((a.da == b.da) && ((a.sg == b.sg) && true)))))))))))))
theorem eqMs_rfl (a:Ms):eqMs a a=true:=by
 unfold eqMs
 simp only [beq_self_eq_true,Bool.and_self]
def m0:Ms:=⟨17,[],[],7,0,0,0,0,[],false,0,0,0,0,[],[97,98],[]⟩
def y0:Ms:=⟨17,[0,0,0,0,0,0,0,0,0,0,0,0,0,0,0,0,0,0,0,0,0,0,0,0,0,0,0,0,0,0,0,0],[],7,0,0,0,0,[],false,0,0,0,0,[],[97,98],[]⟩
theorem t8 (φ:Fy):ansO (run1O Tryd.prog (psQ φ) (nW φ) [12,62,29,32,36,41,46,50,54,58,63] [true,true,true,true,true,true,true,true] [] (mask 8) 200 8 [] H0 4)=some (.bool (((φ.ev m0).length:Int) == 9),[true,φ.nm 19 == [108,111,97,100],φ.oe [105,110,105,116] == 0,φ.ot [105,110,105,116] == 17,φ.mv y0 == 151,eqMs (φ.dv (φ.ev m0)).1 m0,(φ.dv (φ.ev m0)).2 == 0,φ.ev m0 == [17,0,0,0,7,0,2,97,98],φ.mv m0 == 0,true]):=by kernel_rfl
theorem e_m0:encS m0=[17,0,0,0,7,0,2,97,98]:=by kernel_rfl
theorem d_m0:dec cdR [17,0,0,0,7,0,2,97,98]=(m0,0):=by kernel_rfl
theorem v_m0:mayS m0=0:=by kernel_rfl
theorem v_y0:mayS y0=151:=by kernel_rfl
theorem o_i:ofT [105,110,105,116]=17:=by kernel_rfl
theorem o_e:ofE [105,110,105,116]=0:=by kernel_rfl
theorem n_l:nameT 19=[108,111,97,100]:=by kernel_rfl
theorem works_run (hv:Ms→Bool):(run1 Tryd.prog (nW (rF hv)) (mask 8) 200 8 [] H0 4).map (·.1)=some (.bool true):=by
 have h:=t8 (rF hv)
 have e:(((((rF hv).ev m0).length:Nat):Int) == 9)=true:=by
  show (((encS m0).length:Int) == 9)=true
  rw [e_m0]
  rfl
 rw [e] at h
 refine ansO_run csP_ok h ?_
 show allT [true,nameT 19 == [108,111,97,100],ofE [105,110,105,116] == 0,ofT [105,110,105,116] == 17,mayS y0 == 151,eqMs (dec cdR (encS m0)).1 m0,(dec cdR (encS m0)).2 == 0,encS m0 == [17,0,0,0,7,0,2,97,98],mayS m0 == 0,true]=true
 rw [e_m0,d_m0,v_m0,v_y0,o_i,o_e,n_l,eqMs_rfl]
 rfl
def k8:List AVal→Option EffA
 | []=>some (tL (some (.bool true)))
 | _=>none
theorem k8_ok:CSOk Tryd.prog (csOne 8 k8):=csOne_ok fun args e he=>by
 unfold k8 at he
 split at he
 ·cases he
  refine callOk_tL (nW_ok hvM) (by kernel_rfl) fun y hy => ?_
  cases hy
  exact ⟨rfl,_,_,run_of (works_run hvM)⟩
 ·cases he
noncomputable def nY (φ:Fy):CS:=csAlt (csP (psQ φ)) (csAlt (csOne 8 k8) (csAlt (csOne 7 (q7 φ.hv)) (csAlt (csOne 14 (k13 φ.mv)) (nW φ))))
theorem nY_ok:CSOk Tryd.prog (nY (rF hvM)):=csAlt_ok (psQ_ok hvM) (csAlt_ok k8_ok (csAlt_ok q7_ok (csAlt_ok k14r_ok (nW_ok hvM))))
theorem nY_ps (φ:Fy):PSOk (psQ φ) (nY φ):=csP_ok
end Go.Proofs.YthlemfnkmpikjaaDoor
namespace Go.Proofs.YthlemfnkmpikjaaDoor
open Go Go.Eng Go.Num Go.Msg
theorem encS_eq {m:Ms}(h:mayS m=0):encS m=enc cdR m:=by
 unfold encS
 rw [decide_eq_true h]
 rfl
theorem dec_of_enc {m:Ms}(hr:rngM m) (h:mayS m=0) (r:List UInt8):dec cdR (encS m++r)=cond r.isEmpty (m,0) (zeroM,8):=by
 obtain ⟨g1,g2,g3⟩:=may_good hr h
 rw [encS_eq h]
 exact dec_enc cdR_ok g1 (nodup_fds _) g2 g3 r
theorem dec_of_cut {m:Ms}(hr:rngM m) (h:mayS m=0){k:Nat}(hk:k < (encS m).length):dec cdR ((encS m).take k)=(zeroM,7):=by
 obtain ⟨g1,g2,g3⟩:=may_good hr h
 rw [encS_eq h] at hk ⊢
 exact dec_cut cdR_ok g1 (nodup_fds _) g2 hk
theorem dec_err (s:List UInt8) (h:(dec cdR s).2 ≠ 0):(dec cdR s).1=zeroM:=by
 cases s with
 | nil=>rfl
 | cons t s =>
  simp only [dec] at h ⊢
  cases he:(fds t.toNat).isEmpty with
  | true=>rfl
  | false =>
   rw [he] at h
   simp only [cond_false] at h ⊢
   generalize decG cdR (fds t.toNat) s { zeroM with ty:=t }=r at h ⊢
   unfold Msg.endM at h ⊢
   cases h0:decide (r.1=0) with
   | false=>rfl
   | true =>
    rw [h0] at h
    simp only [cond_true] at h ⊢
    cases h1:r.2.2.isEmpty with
    | false=>rfl
    | true =>
     rw [h1] at h
     exact absurd rfl h
theorem dec_good {s:List UInt8}(h:(dec cdR s).2=0):rngM (dec cdR s).1∧mayS (dec cdR s).1=0∧encS (dec cdR s).1=s:=by
 obtain ⟨x,e⟩:∃ x,dec cdR s=(x,0):=⟨(dec cdR s).1,by rw [← h]⟩
 rw [e]
 obtain ⟨g1,g2,g3,g4⟩:=dec_back cdR_ok u32_64 nodup_fds e
 have hm:=good_may g1 g2 g3
 refine ⟨⟨?_,?_⟩,hm,?_⟩
 ·by_cases hE:Msg.Fd.E ∈ fds x.ty.toNat
  ·exact (g2 _ hE).2
  ·have:=(g3 _ hE).2.2.2
   show 0≤x.po∧x.po < 65536
   rw [this]
   exact ⟨by decide,by decide⟩
 ·by_cases hK:Msg.Fd.K ∈ fds x.ty.toNat
  ·exact g2 _ hK
  ·have:x.cd=zeroM.cd:=g3 _ hK
   rw [this]
   exact ⟨by decide,by decide⟩
 ·rw [encS_eq hm]
  exact g4
theorem rngB_of {m:Ms}(h:rngM m):rngB m=true:=by
 unfold rngB
 obtain ⟨⟨a,b⟩,c,d⟩:=h
 rw [decide_eq_true a,decide_eq_true b,decide_eq_true c,decide_eq_true d]
 rfl
theorem enc_pos {m:Ms}(h:mayS m=0):∃ l,encS m=m.ty::l:=⟨(fds m.ty.toNat).flatMap (encF cdR m),by rw [encS_eq h]; rfl⟩
theorem enc_short {m:Ms}(hr:rngM m) (h:mayS m=0):(encS m).length≤1000000:=by
 obtain ⟨g1,g2,g3⟩:=may_good hr h
 rw [encS_eq h]
 unfold enc
 rw [List.length_cons]
 have key:∀ l:List Msg.Fd,(∀ f ∈ l,good m f)→(l.flatMap (encF cdR m)).length≤40000 * l.length:=fun l=>by
  induction l with
  | nil=>intro _; simp
  | cons f l ih =>
   intro hg
   have:=enc_len1 (hg f (List.mem_cons_self ..))
   have:=ih fun f hf=>hg f (List.mem_cons_of_mem _ hf)
   rw [List.flatMap_cons,List.length_append,List.length_cons]
   omega
 have hk:=key _ g2
 have hlen:(fds m.ty.toNat).length≤10:=by
  generalize m.ty.toNat=n
  unfold fds
  split <;> decide
 omega
section
variable (φ:Fy) (m:Ms) (s:List UInt8)
noncomputable def runL4 (os:List Bool):Option (AVal × List Bool):=ansO (run1O Tryd.prog (psQ φ) (nY φ) [14,18,23,27,34,38,46,49,55,59,63,68] os [] (mask 4) 200 4 [mA m,.str s] H0 4)
theorem l4a:runL4 φ m s [true]=some (.bool true,[φ.hv m]):=by kernel_rfl
theorem l4b:runL4 φ m s [false,true]=some (.bool true,[decide (131072 < (s.length:Int)),!φ.hv m]):=by kernel_rfl
theorem l4c:runL4 φ m s [false,false,true,false,false,true,true]=some (.bool true,[eqMs (φ.dv s).1 zeroM,(φ.dv s).2 != 0,!!(eqMs (φ.dv (φ.ev m)).1 m),!((φ.dv (φ.ev m)).2 != 0),φ.mv m == 0,rngB m,!(decide (131072 < (s.length:Int))),!φ.hv m]):=by kernel_rfl
theorem l4d:runL4 φ m s [false,false,true,false,false,false,true,true,true]=some (.bool true,[φ.mv (φ.dv s).1 == 0,φ.ev (φ.dv s).1 == s,φ.mv (φ.dv s).1 == 0,rngB (φ.dv s).1,!((φ.dv s).2 != 0),!!(eqMs (φ.dv (φ.ev m)).1 m),!((φ.dv (φ.ev m)).2 != 0),φ.mv m == 0,rngB m,!(decide (131072 < (s.length:Int))),!φ.hv m]):=by kernel_rfl
theorem l4e:runL4 φ m s [false,false,false,true,true]=some (.bool true,[eqMs (φ.dv s).1 zeroM,(φ.dv s).2 != 0,!(φ.mv m == 0),rngB m,!(decide (131072 < (s.length:Int))),!φ.hv m]):=by kernel_rfl
theorem l4f:runL4 φ m s [false,false,false,false,true,true,true]=some (.bool true,[φ.mv (φ.dv s).1 == 0,φ.ev (φ.dv s).1 == s,φ.mv (φ.dv s).1 == 0,rngB (φ.dv s).1,!((φ.dv s).2 != 0),!(φ.mv m == 0),rngB m,!(decide (131072 < (s.length:Int))),!φ.hv m]):=by kernel_rfl
end
theorem law4 (m:Ms) (hr:rngM m) (s:List UInt8):(run1 Tryd.prog (nY (rF hvM)) (mask 4) 200 4 [mA m,.str s] H0 4).map (·.1)=some (.bool true):=by
 have hb:=rngB_of hr
 have hd:∀ x:List UInt8,(rF hvM).dv x=dec cdR x:=fun _=>rfl
 have he:∀ x:Ms,(rF hvM).ev x=encS x:=fun _=>rfl
 have hm:∀ x:Ms,(rF hvM).mv x=mayS x:=fun _=>rfl
 cases h7:(rF hvM).hv m with
 | true=>exact ansO_run (nY_ps _) (l4a (rF hvM) m s) (allT_mk h7 rfl)
 | false =>
  cases hl:decide (131072 < (s.length:Int)) with
  | true=>exact ansO_run (nY_ps _) (l4b (rF hvM) m s) (allT_mk hl (allT_mk (by rw [h7]; rfl) rfl))
  | false =>
   have tail:allT [rngB m,!(decide (131072 < (s.length:Int))),!(rF hvM).hv m]=true:=by
    rw [hb,hl,h7]
    rfl
   have back:∀ {os:List Bool} {ob:List Bool} {e:Int},(dec cdR s).2=e→True:=fun _=>trivial
   by_cases h0:mayS m=0
   ·have hdm:=dec_of_enc hr h0 []
    rw [List.append_nil] at hdm
    have t2:allT [!!(eqMs ((rF hvM).dv ((rF hvM).ev m)).1 m),!(((rF hvM).dv ((rF hvM).ev m)).2 != 0),(rF hvM).mv m == 0,rngB m,!(decide (131072 < (s.length:Int))),!(rF hvM).hv m]=true:=by
     rw [hd,he,hm,hdm,h0]
     exact allT_mk (by show (!!(eqMs m m))=true; rw [eqMs_rfl]; rfl) (allT_mk rfl (allT_mk rfl tail))
    by_cases hs:(dec cdR s).2=0
    ·obtain ⟨g1,g2,g3⟩:=dec_good hs
     refine ansO_run (nY_ps _) (l4d (rF hvM) m s) ?_
     rw [hd s,hm (dec cdR s).1,he (dec cdR s).1,g2,g3,hs,rngB_of g1]
     exact allT_mk rfl (allT_mk (beq_self_eq_true s) (allT_mk rfl (allT_mk rfl (allT_mk rfl t2))))
    ·refine ansO_run (nY_ps _) (l4c (rF hvM) m s) ?_
     rw [hd s,dec_err s hs]
     exact allT_mk (eqMs_rfl _) (allT_mk (bne_iff_ne.2 hs) t2)
   ·have t2:allT [!((rF hvM).mv m == 0),rngB m,!(decide (131072 < (s.length:Int))),!(rF hvM).hv m]=true:=by
     rw [hm]
     exact allT_mk (by rw [beq_eq_false_iff_ne.2 h0]; rfl) tail
    by_cases hs:(dec cdR s).2=0
    ·obtain ⟨g1,g2,g3⟩:=dec_good hs
     refine ansO_run (nY_ps _) (l4f (rF hvM) m s) ?_
     rw [hd s,hm (dec cdR s).1,he (dec cdR s).1,g2,g3,hs,rngB_of g1]
     exact allT_mk rfl (allT_mk (beq_self_eq_true s) (allT_mk rfl (allT_mk rfl (allT_mk rfl t2))))
    ·refine ansO_run (nY_ps _) (l4e (rF hvM) m s) ?_
     rw [hd s,dec_err s hs]
     exact allT_mk (eqMs_rfl _) (allT_mk (bne_iff_ne.2 hs) t2)
section
variable (φ:Fy) (m n:Ms)
noncomputable def runL5 (os:List Bool):Option (AVal × List Bool):=ansO (run1O Tryd.prog (psQ φ) (nY φ) [10,13,18,23,27,30,37,46,55,66,73,77,81,83,84] os [] (mask 5) 200 5 [mA m,mA n] H0 4)
theorem l5a:runL5 φ m n [true]=some (.bool true,[φ.hv m]):=by kernel_rfl
theorem l5b:runL5 φ m n [false,true]=some (.bool true,[φ.hv n,!φ.hv m]):=by kernel_rfl
theorem l5c:runL5 φ m n [false,false,true]=some (.bool true,[φ.mv m != 0,rngB n,rngB m,!φ.hv n,!φ.hv m]):=by kernel_rfl
theorem l5d:runL5 φ m n [false,false,false,true]=some (.bool true,[φ.mv n != 0,!(φ.mv m != 0),rngB n,rngB m,!φ.hv n,!φ.hv m]):=by kernel_rfl
theorem l5e:runL5 φ m n [false,false,false,false,true]=some (.bool true,[m.ty != n.ty,!(φ.mv n != 0),!(φ.mv m != 0),rngB n,rngB m,!φ.hv n,!φ.hv m]):=by kernel_rfl
theorem l5f:runL5 φ m n [false,false,false,false,false,true]=some (.bool true,[(m.te.length:Int) != (n.te.length:Int),!(m.ty != n.ty),!(φ.mv n != 0),!(φ.mv m != 0),rngB n,rngB m,!φ.hv n,!φ.hv m]):=by kernel_rfl
theorem l5g:runL5 φ m n [false,false,false,false,false,false,true]=some (.bool true,[(m.da.length:Int) != (n.da.length:Int),!((m.te.length:Int) != (n.te.length:Int)),!(m.ty != n.ty),!(φ.mv n != 0),!(φ.mv m != 0),rngB n,rngB m,!φ.hv n,!φ.hv m]):=by kernel_rfl
theorem l5h:runL5 φ m n [false,false,false,false,false,false,false,true]=some (.bool true,[!(m.v6 == n.v6),!((m.da.length:Int) != (n.da.length:Int)),!((m.te.length:Int) != (n.te.length:Int)),!(m.ty != n.ty),!(φ.mv n != 0),!(φ.mv m != 0),rngB n,rngB m,!φ.hv n,!φ.hv m]):=by kernel_rfl
theorem l5i:runL5 φ m n [false,false,false,false,false,false,false,false,true,true,true]=some (.bool true,[(φ.ev m).getD 0 0 == (φ.ev n).getD 0 0,decide ((0:Int)≤0) && decide (0 < ((φ.ev n).length:Int)),decide ((0:Int)≤0) && decide (0 < ((φ.ev m).length:Int)),decide (0 < ((φ.ev m).length:Int)),((φ.ev m).length:Int) == ((φ.ev n).length:Int),!!(m.v6 == n.v6),!((m.da.length:Int) != (n.da.length:Int)),!((m.te.length:Int) != (n.te.length:Int)),!(m.ty != n.ty),!(φ.mv n != 0),!(φ.mv m != 0),rngB n,rngB m,!φ.hv n,!φ.hv m]):=by kernel_rfl
end
theorem law5 (m n:Ms) (hr:rngM m) (hr2:rngM n):(run1 Tryd.prog (nY (rF hvM)) (mask 5) 200 5 [mA m,mA n] H0 4).map (·.1)=some (.bool true):=by
 have hb:=rngB_of hr
 have hb2:=rngB_of hr2
 have he:∀ x:Ms,(rF hvM).ev x=encS x:=fun _=>rfl
 have hm:∀ x:Ms,(rF hvM).mv x=mayS x:=fun _=>rfl
 cases h7:(rF hvM).hv m with
 | true=>exact ansO_run (nY_ps _) (l5a (rF hvM) m n) (allT_mk h7 rfl)
 | false =>
  cases h72:(rF hvM).hv n with
  | true=>exact ansO_run (nY_ps _) (l5b (rF hvM) m n) (allT_mk h72 (allT_mk (by rw [h7]; rfl) rfl))
  | false =>
   have t1:allT [rngB n,rngB m,!(rF hvM).hv n,!(rF hvM).hv m]=true:=by rw [hb,hb2,h7,h72]; rfl
   by_cases h0:mayS m=0
   ·have t2:=allT_mk (a:=!((rF hvM).mv m != 0)) (by rw [hm,h0]; rfl) t1
    by_cases h02:mayS n=0
    ·have t3:=allT_mk (a:=!((rF hvM).mv n != 0)) (by rw [hm,h02]; rfl) t2
     cases e1:(m.ty != n.ty) with
     | true=>exact ansO_run (nY_ps _) (l5e (rF hvM) m n) (allT_mk e1 t3)
     | false =>
      have t4:=allT_mk (a:=!(m.ty != n.ty)) (by rw [e1]; rfl) t3
      cases e2:((m.te.length:Int) != (n.te.length:Int)) with
      | true=>exact ansO_run (nY_ps _) (l5f (rF hvM) m n) (allT_mk e2 t4)
      | false =>
       have t5:=allT_mk (a:=!((m.te.length:Int) != (n.te.length:Int))) (by rw [e2]; rfl) t4
       cases e3:((m.da.length:Int) != (n.da.length:Int)) with
       | true=>exact ansO_run (nY_ps _) (l5g (rF hvM) m n) (allT_mk e3 t5)
       | false =>
        have t6:=allT_mk (a:=!((m.da.length:Int) != (n.da.length:Int))) (by rw [e3]; rfl) t5
        cases e4:(m.v6 == n.v6) with
        | false=>exact ansO_run (nY_ps _) (l5h (rF hvM) m n) (allT_mk (by rw [e4]; rfl) t6)
        | true =>
         have t7:=allT_mk (a:=!!(m.v6 == n.v6)) (by rw [e4]; rfl) t6
         have f1:m.ty=n.ty:=by simpa using e1
         have f2:m.te.length=n.te.length:=by
          have:(m.te.length:Int)=(n.te.length:Int):=by simpa using e2
          omega
         have f3:m.da.length=n.da.length:=by
          have:(m.da.length:Int)=(n.da.length:Int):=by simpa using e3
          omega
         have f4:m.v6=n.v6:=by simpa using e4
         obtain ⟨g1,g2,g3⟩:=may_good hr h0
         obtain ⟨g4,g5,g6⟩:=may_good hr2 h02
         have hlen:=enc_len (c:=cdR) cdR_ok f1 f2 f3 f4 g2 g5
         rw [← encS_eq h0,← encS_eq h02] at hlen
         obtain ⟨l1,p1⟩:=enc_pos h0
         obtain ⟨l2,p2⟩:=enc_pos h02
         refine ansO_run (nY_ps _) (l5i (rF hvM) m n) ?_
         rw [he,he,hlen]
         have q1:(encS m).getD 0 0=(encS n).getD 0 0:=by rw [p1,p2]; exact f1
         have q2:0 < (encS n).length:=by rw [p2]; simp
         have q3:decide (0 < ((encS n).length:Int))=true:=decide_eq_true (by omega)
         rw [q1,q3]
         exact allT_mk (beq_self_eq_true _) (allT_mk rfl (allT_mk rfl (allT_mk rfl (allT_mk (beq_self_eq_true _) t7))))
    ·exact ansO_run (nY_ps _) (l5d (rF hvM) m n) (allT_mk (by rw [hm]; exact bne_iff_ne.2 h02) t2)
   ·exact ansO_run (nY_ps _) (l5c (rF hvM) m n) (allT_mk (by rw [hm]; exact bne_iff_ne.2 h0) t1)
section
variable (φ:Fy) (m:Ms) (cut:Int) (s:List UInt8)
noncomputable def runL6 (os:List Bool):Option (AVal × List Bool):=ansO (run1O Tryd.prog (psQ φ) (nY φ) [14,18,23,27,30,37,38,45,50,52,55,60,66,69] os [] (mask 6) 200 6 [mA m,.int .u16 cut,.str s] H0 4)
def cutI:Int:=Int.tmod (IntKind.wrap .i64 cut) ((φ.ev m).length:Int)
theorem l6a:runL6 φ m cut s [true]=some (.bool true,[φ.hv m]):=by kernel_rfl
theorem l6b:runL6 φ m cut s [false,true]=some (.bool true,[decide (1024 < (s.length:Int)),!φ.hv m]):=by kernel_rfl
theorem l6c:runL6 φ m cut s [false,false,true]=some (.bool true,[φ.mv m != 0,rngB m,!(decide (1024 < (s.length:Int))),!φ.hv m]):=by kernel_rfl
theorem l6d:runL6 φ m cut s [false,false,false,false,true,true,true,true]=some (.bool true,[eqMs (φ.dv (φ.ev m++s)).1 m,(φ.dv (φ.ev m++s)).2 == 0,(φ.dv ((φ.ev m).take (cutI φ m cut).toNat)).2 == 7,s == [],Nat.ble ((φ.ev m).length+s.length) 9223372036854775807,(decide ((0:Int)≤0)) && ((decide (0≤cutI φ m cut)) && (decide (cutI φ m cut≤((φ.ev m).length:Int)))),!(((φ.ev m).length:Int) == 0),!(φ.ev m == []),!(φ.mv m != 0),rngB m,!(decide (1024 < (s.length:Int))),!φ.hv m]):=by kernel_rfl
theorem l6e:runL6 φ m cut s [false,false,false,false,false,true,true]=some (.bool true,[(φ.dv (φ.ev m++s)).2 == 8,(φ.dv ((φ.ev m).take (cutI φ m cut).toNat)).2 == 7,!(s == []),Nat.ble ((φ.ev m).length+s.length) 9223372036854775807,(decide ((0:Int)≤0)) && ((decide (0≤cutI φ m cut)) && (decide (cutI φ m cut≤((φ.ev m).length:Int)))),!(((φ.ev m).length:Int) == 0),!(φ.ev m == []),!(φ.mv m != 0),rngB m,!(decide (1024 < (s.length:Int))),!φ.hv m]):=by kernel_rfl
end
theorem law6 (m:Ms) (hr:rngM m) (cut:Int) (hc0:0≤cut) (hc1:cut < 65536) (s:List UInt8):(run1 Tryd.prog (nY (rF hvM)) (mask 6) 200 6 [mA m,.int .u16 cut,.str s] H0 4).map (·.1)=some (.bool true):=by
 have hb:=rngB_of hr
 have hd:∀ x:List UInt8,(rF hvM).dv x=dec cdR x:=fun _=>rfl
 have he:∀ x:Ms,(rF hvM).ev x=encS x:=fun _=>rfl
 have hm:∀ x:Ms,(rF hvM).mv x=mayS x:=fun _=>rfl
 cases h7:(rF hvM).hv m with
 | true=>exact ansO_run (nY_ps _) (l6a (rF hvM) m cut s) (allT_mk h7 rfl)
 | false =>
  cases hl:decide (1024 < (s.length:Int)) with
  | true=>exact ansO_run (nY_ps _) (l6b (rF hvM) m cut s) (allT_mk hl (allT_mk (by rw [h7]; rfl) rfl))
  | false =>
   have t1:allT [rngB m,!(decide (1024 < (s.length:Int))),!(rF hvM).hv m]=true:=by rw [hb,hl,h7]; rfl
   by_cases h0:mayS m=0
   ·have t2:=allT_mk (a:=!((rF hvM).mv m != 0)) (by rw [hm,h0]; rfl) t1
    have hs:s.length≤1024:=by have:=of_decide_eq_false hl; omega
    obtain ⟨l,p⟩:=enc_pos h0
    have hlen:=enc_short hr h0
    have hpos:0 < (encS m).length:=by rw [p]; simp
    have hw:IntKind.wrap .i64 cut=cut:=wrap_i64 cut (by omega) (by omega)
    have hci:cutI (rF hvM) m cut=(((cut.toNat % (encS m).length:Nat)):Int):=by
     unfold cutI
     rw [he,hw]
     obtain ⟨n,rfl⟩:=Int.eq_ofNat_of_zero_le hc0
     rw [Int.toNat_natCast]
     rfl
    have hlt:=Nat.mod_lt cut.toNat hpos
    generalize hkk:cut.toNat % (encS m).length=k at hci hlt
    have t3:allT [Nat.ble ((encS m).length+s.length) 9223372036854775807,(decide ((0:Int)≤0)) && ((decide (0≤(k:Int))) && (decide ((k:Int)≤((encS m).length:Int)))),!(((encS m).length:Int) == 0),!(encS m == []),!((rF hvM).mv m != 0),rngB m,!(decide (1024 < (s.length:Int))),!(rF hvM).hv m]=true:=by
     refine allT_mk (Nat.ble_eq_true_of_le (by omega)) (allT_mk ?_ (allT_mk ?_ (allT_mk ?_ t2)))
     ·rw [decide_eq_true (by omega:(0:Int)≤(k:Int)),decide_eq_true (by omega:(k:Int)≤((encS m).length:Int))]
      rfl
     ·rw [beq_eq_false_iff_ne.2 (by omega:((encS m).length:Int) ≠ 0)]
      rfl
     ·rw [p]
      rfl
    have hcut:=dec_of_cut hr h0 hlt
    cases s with
    | nil =>
     refine ansO_run (nY_ps _) (l6d (rF hvM) m cut []) ?_
     rw [he,hd,hd,hci,Int.toNat_natCast,hcut,dec_of_enc hr h0]
     exact allT_mk (eqMs_rfl m) (allT_mk rfl (allT_mk rfl (allT_mk rfl t3)))
    | cons a s =>
     refine ansO_run (nY_ps _) (l6e (rF hvM) m cut (a::s)) ?_
     rw [he,hd,hd,hci,Int.toNat_natCast,hcut,dec_of_enc hr h0]
     exact allT_mk rfl (allT_mk rfl (allT_mk rfl t3))
   ·exact ansO_run (nY_ps _) (l6c (rF hvM) m cut s) (allT_mk (by rw [hm]; exact bne_iff_ne.2 h0) t1)
end Go.Proofs.YthlemfnkmpikjaaDoor
namespace Go.Proofs.YthlemfnkmpikjaaDoor
open Go Go.Eng Go.Num Go.Msg
noncomputable def p3:List Code:=pieces (bodyOf Tryd.f3)
noncomputable def lb3:Code:=loopOf (p3.getD 9 .skip)
theorem p3_9:p3[9]? = some (.block 0 (.loop lb3)):=by kernel_rfl
theorem f3_at:Tryd.prog.funcs[3]? = some Tryd.f3:=by kernel_rfl
theorem f3_body:Tryd.f3.body=some (bodyOf Tryd.f3):=by kernel_rfl
def S3 (φ:Fy) (m:Ms) (s:List UInt8) (C:List AVal) (fd:UInt8) (td:List UInt8) (i:Nat):SA:=⟨[(0,mA m),(1,.str s),(2,.ptr 4 0),(4,.bool false),(21,.bool false),(5,.str (φ.ev m)),(6,.int .i64 (φ.mv m)),(7,.str (φ.ev m)),(8,.int .i64 (φ.mv m)),(9,.u8 (φ.ot s)),(10,.int .i64 (φ.oe s)),(11,.slice 244 0 21 1),(12,.u8 fd),(13,.str td),(14,.int .i64 (i:Int))],H0++[(4,.cells false (mCells m)),(244,.cells false C)],284⟩
def namesC:List AVal:=namesL.map .str
section
variable (φ:Fy) (m:Ms) (s td x:List UInt8) (C:List AVal) (fd fd0:UInt8) (td0:List UInt8) (i j:Nat)
theorem s3:segO (evSO Tryd.prog (psQ φ) (nY φ) [16,20,25,30,42,50,59,66,70,77,81,84,91,96,100,102,103,107,110] Tryd.f3.ntmps (mask 3) 200 4 ((pieces (bodyOf Tryd.f3)).take 9) ⟨startT [mA m,.str s] 0,H0,4⟩ ⟨[false,false],[],[]⟩)=some (S3 φ m s namesC 0 [] 0,[rngB m,rngB m,!(decide (4096 < (s.length:Int))),!φ.hv m]):=by kernel_rfl
theorem g3a:ansO (run1O Tryd.prog (psQ φ) (nY φ) [16,20] [true] [] (mask 3) 200 3 [mA m,.str s] H0 4)=some (.bool true,[φ.hv m]):=by kernel_rfl
theorem g3b:ansO (run1O Tryd.prog (psQ φ) (nY φ) [16,20] [false,true] [] (mask 3) 200 3 [mA m,.str s] H0 4)=some (.bool true,[decide (4096 < (s.length:Int)),!φ.hv m]):=by kernel_rfl
def tyI:Bool:=((m.ty.toNat:Nat):Int) == IntKind.wrap .i64 ((i:Int)+1)
def atB:Bool:=(decide (0≤(i:Int))) && (decide ((i:Int) < ((21:Nat):Int)))
def fdI:UInt8:=UInt8.ofInt (IntKind.wrap .i64 ((i:Int)+1))
noncomputable def rd3 (os:List Bool) (vs:List AVal):Option (SA × List Bool):=roundO2 Tryd.prog (psQ φ) (nY φ) [42,47,48,50,59,62,63,53,200044] os vs Tryd.f3.ntmps (mask 3) 200 4 lb3 (S3 φ m s C fd0 td0 0) (S3 φ m s C fd td i)
theorem r3a:rd3 φ m s td C fd fd0 td0 i [true,true,true] [.str x,.str x,.int .i64 (j:Int)]=some (S3 φ m s C (fdI i) x j,[eqS (.int .i64 (IntKind.wrap .i64 ((i:Int)+1))) (.int .i64 (j:Int)),isAt C (0+(i:Int).toNat * 1) (.str x),atB i,tyI m i,x == s,isAt C (0+(i:Int).toNat * 1) (.str x),atB i,decide ((i:Int) < ((21:Nat):Int))]):=by kernel_rfl
theorem r3b:rd3 φ m s td C fd fd0 td0 i [true,true,false] [.str x,.int .i64 (j:Int)]=some (S3 φ m s C (fdI i) td j,[eqS (.int .i64 (IntKind.wrap .i64 ((i:Int)+1))) (.int .i64 (j:Int)),!tyI m i,x == s,isAt C (0+(i:Int).toNat * 1) (.str x),atB i,decide ((i:Int) < ((21:Nat):Int))]):=by kernel_rfl
theorem r3c:rd3 φ m s td C fd fd0 td0 i [true,false,true] [.str x,.str x,.int .i64 (j:Int)]=some (S3 φ m s C fd x j,[eqS (.int .i64 (IntKind.wrap .i64 ((i:Int)+1))) (.int .i64 (j:Int)),isAt C (0+(i:Int).toNat * 1) (.str x),atB i,tyI m i,!(x == s),isAt C (0+(i:Int).toNat * 1) (.str x),atB i,decide ((i:Int) < ((21:Nat):Int))]):=by kernel_rfl
theorem r3d:rd3 φ m s td C fd fd0 td0 i [true,false,false] [.str x,.int .i64 (j:Int)]=some (S3 φ m s C fd td j,[eqS (.int .i64 (IntKind.wrap .i64 ((i:Int)+1))) (.int .i64 (j:Int)),!tyI m i,!(x == s),isAt C (0+(i:Int).toNat * 1) (.str x),atB i,decide ((i:Int) < ((21:Nat):Int))]):=by kernel_rfl
noncomputable def en3 (os:List Bool):Option (AVal × List Bool):=endO Tryd.prog (psQ φ) (nY φ) [42,66,70,77,81,84,91,96,100,102,103,107,110] Tryd.f3 (mask 3) 200 4 0 lb3 ((pieces (bodyOf Tryd.f3)).drop 10) (S3 φ m s C fd td i) ⟨os,[],[]⟩
def tl3:List Bool:=[φ.ot s == fd,φ.nm m.ty == td,((φ.ev m).length:Int) == ((φ.ev m).length:Int),rngB m,φ.mv m == φ.mv m,φ.mv m == φ.mv m,φ.ev m == φ.ev m,!(decide ((i:Int) < ((21:Nat):Int)))]
theorem e3a:en3 φ m s td C fd i [false,true,true,true,true,true,true,true,true,true,true]=some (.bool true,(φ.oe s == 0)::true::(decide (0 < fd))::(φ.oe s == 0)::tl3 φ m s td fd i):=by kernel_rfl
theorem e3b:en3 φ m s td C fd i [false,true,true,true,true,true,true,false,false,true,false,true]=some (.bool true,(φ.oe s == 150)::(!(φ.oe s == 0))::true::(!(decide (0 < fd)))::(!(φ.oe s == 0))::tl3 φ m s td fd i):=by kernel_rfl
end
theorem ok3 (φ:Fy) (m:Ms) (s:List UInt8) (fd:UInt8) (td:List UInt8) (i:Nat):Go.Eng.okS Tryd.prog (S3 φ m s namesC fd td i)=true:=by kernel_rfl
def fnd (s:List UInt8):Nat→UInt8
 | 0=>0
 | i+1=>cond (namesL.getD i [] == s) (fdI i) (fnd s i)
def tld (m:Ms):Nat→List UInt8
 | 0=>[]
 | i+1=>cond (tyI m i) (namesL.getD i []) (tld m i)
theorem at_names {i:Nat}(h:i < 21):isAt namesC (0+(i:Int).toNat * 1) (.str (namesL.getD i []))=true:=by
 have key:(List.range 21).all (fun i=>isAt namesC (0+(i:Int).toNat * 1) (.str (namesL.getD i [])))=true:=by kernel_rfl
 exact List.all_eq_true.1 key i (List.mem_range.2 h)
theorem in21 {i:Nat}(h:i < 21):decide ((i:Int) < ((21:Nat):Int))=true∧atB i=true:=by
 have a:decide ((i:Int) < ((21:Nat):Int))=true:=decide_eq_true (by omega)
 refine ⟨a,?_⟩
 unfold atB
 rw [a,decide_eq_true (by omega)]
 rfl
theorem step3 (φ:Fy) (m:Ms) (s:List UInt8){i:Nat}(h:i < 21):roundA (evC Tryd.prog (nY φ) Tryd.f3.ntmps (mask 3) 200 4 lb3) (headA Tryd.prog 4 (S3 φ m s namesC 0 [] 0)) (S3 φ m s namesC (fnd s i) (tld m i) i)=some (S3 φ m s namesC (fnd s (i+1)) (tld m (i+1)) (i+1)):=by
 have c:=at_names h
 obtain ⟨a,b⟩:=in21 h
 have p:=plus1 (i:=i) (by omega)
 show _=some (S3 φ m s namesC (cond (namesL.getD i [] == s) (fdI i) (fnd s i)) (cond (tyI m i) (namesL.getD i []) (tld m i)) (i+1))
 generalize namesL.getD i []=x at c
 cases hs:(x == s) <;> cases ht:tyI m i <;> simp only [cond_true,cond_false]
 ·exact roundO2_ok (nY_ps φ) (r3d φ m s (tld m i) x namesC (fnd s i) 0 [] i (i+1)) (by rw [hs,ht,c,b,a,p]; rfl) (ok3 ..)
 ·exact roundO2_ok (nY_ps φ) (r3c φ m s (tld m i) x namesC (fnd s i) 0 [] i (i+1)) (by rw [hs,ht,c,b,a,p]; rfl) (ok3 ..)
 ·exact roundO2_ok (nY_ps φ) (r3b φ m s (tld m i) x namesC (fnd s i) 0 [] i (i+1)) (by rw [hs,ht,c,b,a,p]; rfl) (ok3 ..)
 ·exact roundO2_ok (nY_ps φ) (r3a φ m s (tld m i) x namesC (fnd s i) 0 [] i (i+1)) (by rw [hs,ht,c,b,a,p]; rfl) (ok3 ..)
theorem tld_end (m:Ms):tld m 21=nameT m.ty:=by
 have key:(List.range 256).all (fun n=>tld { zeroM with ty:=UInt8.ofNat n } 21 == nameT (UInt8.ofNat n))=true:=by kernel_rfl
 have h:=eq_of_beq (List.all_eq_true.1 key m.ty.toNat (List.mem_range.2 m.ty.toNat_lt))
 rw [UInt8.ofNat_toNat] at h
 exact h
theorem fnd_in:namesL.all (fun s=>(fnd s 21 == ofT s) && (decide (0 < fnd s 21)) && (ofE s == 0))=true:=by kernel_rfl
theorem fnd_out {s:List UInt8}(h:s ∉ namesL):∀ i,i≤21→fnd s i=0
 | 0,_=>rfl
 | i+1,hi=>by
  have hn:(namesL.getD i [] == s)=false:=beq_eq_false_iff_ne.2 fun e=>h (by
   rw [← e]
   have hl:i < namesL.length:=by show i < 21; omega
   rw [List.getD_eq_getElem?_getD,List.getElem?_eq_getElem hl]
   exact List.getElem_mem hl)
  show cond (namesL.getD i [] == s) (fdI i) (fnd s i)=0
  rw [hn,cond_false]
  exact fnd_out h i (by omega)
theorem of_out {s:List UInt8}(h:s ∉ namesL):ofT s=0∧ofE s=150:=by
 have hn:decide ((0:Int)≤ofN s)=false:=decide_eq_false fun hp=>by
  unfold ofN at hp
  rw [Lib.idxOfS_nonneg_iff] at hp
  obtain ⟨l,hl,e⟩:=List.mem_map.1 hp
  have:l=s:=by
   have:=congrArg (fun b:ByteArray=>b.data.toList) e
   simpa [bas] using this
  exact h (this ▸ hl)
 unfold ofT ofE
 rw [hn]
 exact ⟨rfl,rfl⟩
theorem law3 (m:Ms) (hr:rngM m) (s:List UInt8):(run1 Tryd.prog (nY (rF hvM)) (mask 3) 200 3 [mA m,.str s] H0 4).map (·.1)=some (.bool true):=by
 have hb:=rngB_of hr
 cases h7:(rF hvM).hv m with
 | true=>exact ansO_run (nY_ps _) (g3a (rF hvM) m s) (allT_mk h7 rfl)
 | false =>
  cases hl:decide (4096 < (s.length:Int)) with
  | true=>exact ansO_run (nY_ps _) (g3b (rF hvM) m s) (allT_mk hl (allT_mk (by rw [h7]; rfl) rfl))
  | false =>
   have hpre:allT [rngB m,rngB m,!(decide (4096 < (s.length:Int))),!(rF hvM).hv m]=true:=by rw [hb,hl,h7]; rfl
   have tail:ofT s=fnd s 21→allT (tl3 (rF hvM) m s (tld m 21) (fnd s 21) 21)=true:=fun e=>by
    unfold tl3
    show allT [ofT s == fnd s 21,nameT m.ty == tld m 21,_,rngB m,_,_,_,_]=true
    rw [e,tld_end,hb,beq_self_eq_true,beq_self_eq_true,beq_self_eq_true,beq_self_eq_true,beq_self_eq_true]
    rfl
   by_cases hin:s ∈ namesL
   ·have h:=List.all_eq_true.1 fnd_in s hin
    simp only [Bool.and_eq_true] at h
    obtain ⟨⟨h1,h2⟩,h3⟩:=h
    refine run_loopO (nY_ps _) f3_at f3_body (by kernel_rfl) 9 p3_9 (fun i=>S3 (rF hvM) m s namesC (fnd s i) (tld m i) i) 21 (s3 (rF hvM) m s) hpre (fun j hj=>step3 _ m s hj) (e3a (rF hvM) m s (tld m 21) namesC (fnd s 21) 21) ?_ (by omega)
    have h3':((rF hvM).oe s == 0)=true:=h3
    rw [h3',h2]
    exact allT_mk rfl (allT_mk rfl (allT_mk rfl (allT_mk rfl (tail (eq_of_beq h1).symm))))
   ·obtain ⟨o1,o2⟩:=of_out hin
    have hf:=fnd_out hin 21 (by omega)
    refine run_loopO (nY_ps _) f3_at f3_body (by kernel_rfl) 9 p3_9 (fun i=>S3 (rF hvM) m s namesC (fnd s i) (tld m i) i) 21 (s3 (rF hvM) m s) hpre (fun j hj=>step3 _ m s hj) (e3b (rF hvM) m s (tld m 21) namesC (fnd s 21) 21) ?_ (by omega)
    have e:(rF hvM).oe s=150:=o2
    have t:=tail (o1.trans hf.symm)
    rw [e]
    refine allT_mk rfl (allT_mk rfl (allT_mk rfl (allT_mk ?_ (allT_mk rfl t))))
    rw [hf]
    rfl
end Go.Proofs.YthlemfnkmpikjaaDoor
namespace Go.Eng
open Go Go.WideShapes Go.ChangeShapes
inductive Kd where
 | bool
 | int (k:IntKind)
 | str
def HasK:Kd→Value→Prop
 | .bool,v => ∃ b,v=.bool b
 | .int k,v => ∃ n,v=.int k n∧(Lit.int k n).wf=true
 | .str,v => ∃ s:ByteArray,v=.string s∧s.size≤maxLen
def KindsP:List Kd→List Value→Prop
 | [],[]=>True
 | k::ks,v::vs=>HasK k v∧KindsP ks vs
 | _,_=>False
theorem KindsP.append:∀ {ks ks':List Kd}{vs vs':List Value},KindsP ks vs→KindsP ks' vs'→KindsP (ks++ks') (vs++vs')
 | [],_,[],_,_,h=>h
 | k::ks,_,v::vs,_,h,h'=>⟨h.1,h.2.append h'⟩
def kindsFs (rec:TypeId→Option (List Kd)) (P:Program):List Field→Nat→Option (List Kd)
 | [],_=>some []
 | f::l,a=>match rec f.type with
  | some ks=>cond (Nat.beq f.offset a && Nat.beq ks.length (P.cellsOf f.type)) (match kindsFs rec P l (a+ks.length) with
   | some r=>some (ks++r)
   | none=>none) none
  | none=>none
def kindsOf (P:Program):Nat→TypeId→Option (List Kd)
 | 0,_=>none
 | n+1,t=>match P.underlying t with
  | some .bool=>some [.bool]
  | some (.int k)=>some [.int k]
  | some .string=>some [.str]
  | some (.struct fs)=>match kindsFs (kindsOf P n) P fs.toList 0 with
   | some ks=>cond (Nat.beq ks.length (P.cellsOf t)) (some ks) none
   | none=>none
  | _=>none
section
variable {H:Type}{enc:TypeId × Value→H}{P:Program}{w:World}{base:Nat}{spare:Nat→Bool}{held:Bool}
theorem kindsFs_ok {rec:TypeId→Option (List Kd)}{m:Nat}{cs:List Value}(hr:∀ t ks cs' x,rec t=some ks→DataW.trod enc P w base spare held m t cs'=some x→KindsP ks cs') :
  ∀ (l:List Field) (a:Nat) (ks:List Kd),kindsFs rec P l a=some ks→a+ks.length≤cs.length→(∀ f ∈ l,∃ x,DataW.trod enc P w base spare held m f.type ((cs.drop f.offset).take (P.cellsOf f.type))=some x)→KindsP ks ((cs.drop a).take ks.length)
 | [],a,ks,h,_,_=>by
  cases h
  rw [List.length_nil,List.take_zero]; trivial
 | f::l,a,ks,h,hle,hx=>by
  unfold kindsFs at h
  split at h
  ·rename_i k1 hk1
   cases hc:(Nat.beq f.offset a && Nat.beq k1.length (P.cellsOf f.type)) with
   | false=>rw [hc] at h; cases h
   | true =>
    rw [hc,cond_true] at h
    simp only [Bool.and_eq_true] at hc
    have e1:=Nat.eq_of_beq_eq_true hc.1
    have e2:=Nat.eq_of_beq_eq_true hc.2
    split at h
    ·rename_i r hr2
     cases h
     obtain ⟨x,hx1⟩:=hx f (List.mem_cons_self ..)
     have h1:=hr _ _ _ _ hk1 hx1
     rw [e1,← e2] at h1
     rw [List.length_append] at hle
     have h2:=kindsFs_ok hr l (a+k1.length) r hr2 (by omega) (fun g hg=>hx g (List.mem_cons_of_mem _ hg))
     have:=h1.append h2
     rw [List.length_append,List.take_add]
     rw [List.drop_drop]
     exact this
    ·cases h
  ·cases h
theorem kindsOf_ok:∀ (n:Nat) (t:TypeId) (ks:List Kd),kindsOf P n t=some ks→∀ (m:Nat) (cs:List Value) (x:DataW H × List MemPlace),DataW.trod enc P w base spare held m t cs=some x→KindsP ks cs
 | 0,_,_,h,_,_,_,_=>by cases h
 | n+1,t,ks,h,m,cs,x,hx=>by
  unfold kindsOf at h
  split at h
  ·rename_i ht
   cases h
   obtain ⟨b,rfl,_⟩:=DataW.trod_bool ht hx
   exact ⟨⟨b,rfl⟩,trivial⟩
  ·rename_i k ht
   cases h
   obtain ⟨z,rfl,_,hz⟩:=DataW.trod_int ht hx
   exact ⟨⟨z,rfl,hz⟩,trivial⟩
  ·rename_i ht
   cases h
   obtain ⟨s,rfl,_,hs⟩:=DataW.trod_string ht hx
   exact ⟨⟨s,rfl,hs⟩,trivial⟩
  ·rename_i fs ht
   split at h
   ·rename_i ks' hk
    cases hc:Nat.beq ks'.length (P.cellsOf t) with
    | false=>rw [hc] at h; cases h
    | true =>
     rw [hc] at h
     cases h
     have e:=Nat.eq_of_beq_eq_true hc
     obtain ⟨xs,m',rfl,_,hl,hxl,hf⟩:=DataW.trod_struct ht hx
     have:=kindsFs_ok (cs:=cs) (m:=m') (fun t ks cs' x h1 h2=>kindsOf_ok n t ks h1 m' cs' x h2) fs.toList 0 _ hk (by omega) (fun f hmem=>by
      obtain ⟨i,hi⟩:=List.getElem?_of_mem hmem
      have hi2:fs[i]? = some f:=by simpa using hi
      have:=hf i f hi2
      have hlt:i < xs.length:=by rw [hxl]; exact (Array.getElem?_eq_some_iff.1 hi2).1
      exact ⟨xs[i],by rw [this]; simp [hlt]⟩)
     rw [List.drop_zero,e,← hl,List.take_length] at this
     exact this
   ·cases h
  ·cases h
end
theorem KindsP.cons {k:Kd}{ks:List Kd}{cs:List Value}(h:KindsP (k::ks) cs):∃ v vs,cs=v::vs∧HasK k v∧KindsP ks vs:=by
 cases cs with
 | nil=>exact h.elim
 | cons v vs=>exact ⟨v,vs,rfl,h.1,h.2⟩
theorem KindsP.none {cs:List Value}(h:KindsP [] cs):cs=[]:=by
 cases cs with
 | nil=>rfl
 | cons v vs=>exact h.elim
inductive VRs:List AVal→List Value→Prop where
 | nil:VRs [] []
 | cons {u v us vs} (h:∀ σ,VR σ u v) (t:VRs us vs):VRs (u::us) (v::vs)
theorem VRs.get {us:List AVal}{vs:List Value}(h:VRs us vs):∀ (j:Nat) u v,us[j]? = some u→vs[j]? = some v→∀ σ,VR σ u v:=by
 induction h with
 | nil=>intro j u v hj; simp at hj
 | cons h t ih =>
  intro j u v h1 h2 σ
  cases j with
  | zero=>simp at h1 h2; subst h1 h2; exact h σ
  | succ j=>exact ih j u v (by simpa using h1) (by simpa using h2) σ
def Still (W w':World):Prop:=∀ b,b < W.heap.size→w'.heap[b]? = W.heap[b]?
theorem hrel_ro {σ:Sig}{H:Heap}{w:World}(h:∀ n o,H n=some o→o.ro=true∧∃ p,σ n=some p∧ORel σ w p o):HRel σ H w:=
 ⟨fun n o hn=>(h n o hn).2,fun n m o o' p q hn hm _ _ _=>.inr ⟨(h n o hn).1,(h m o' hm).1⟩⟩
theorem law_calls_H {P:Program}{cs:CS}(hcs:CSOk P cs) (hm:P.follows .mixedOrders=true){nn F:Nat}{f:FuncId}{args:List AVal}{H:HL}{fr:Nat}(h:(run1 P cs nn F f args H fr).map (·.1)=some (.bool true))
  {σ:Sig} {args':Array Value} {w:World} (hro:∀ n o,aget H n=some o→o.ro=true∧∃ p,σ n=some p∧ORel σ w p o) (hg:GRel P σ) (hfr:Fresh σ fr) (hl:LR σ args args') :
  Calls P f args' w fun r w'=>r=.returned (.bool true)∧Grew w w'∧Still w w':=by
 obtain ⟨r,hr,hrv⟩:=optMap h
 obtain ⟨v,H',fr'⟩:=r
 obtain ⟨fn,c,hf,hb,hrun⟩:=run1_some hr
 refine (runF_ok hcs hm hf hb hrun hl (hrel_ro hro) hg hfr).mono fun r w' ⟨σ',v',h1,h2,_,h4,_⟩ => ?_
 have hv:v=.bool true:=hrv
 subst hv
 cases h2
 have hs:Still w w':=fun b hb=>(h4.old b hb (by
  rintro ⟨n,o,p,g1,g2,_⟩
  rw [(hro n o g1).1] at g2
  cases g2)).1
 exact ⟨h1,grew_of h4.os h4.output h4.size hs,hs⟩
theorem args_stay {H:Type}{enc:TypeId × Value→H}{P:Program}(hl:laidOutB P=true){W W':World}(hs:Still W W') :
  ∀ {ts:List TypeId} {vs:List Value} {ds:List (DataW H)} {ps:List MemPlace},(ts.all fun t=>P.readableRec t && decide (t < P.types.size))=true→DataW.TrodAll enc P W 0 (fun _=>true) true ts vs ds ps→(∀ p ∈ ps,p.block < W.heap.size) →
  ∀ sp:Nat→Bool,(∀ p ∈ ps,sp p.block=true)→DataW.TrodAll enc P W' 0 sp true ts vs ds ps
 | [],[],[],_,_,h,_,_,_=>h
 | t::ts,v::vs,d::ds,ps,ht,⟨p,q,h1,h2,e⟩,hlt,sp,hsp=>by
  simp only [List.all_cons,Bool.and_eq_true,decide_eq_true_eq] at ht
  subst e
  have same:∀ x:MemPlace,x.block < W.heap.size→W.sameAt W' x:=fun x hx=>by
   cases x with
   | cell b off =>
    show W'.cell? _=W.cell? _
    unfold World.cell?
    rw [show W'.heap[(⟨b,off,none⟩:Addr).block]? = W.heap[b]? from hs b hx]
   | map b=>exact hs b hx
  exact ⟨p,q,Go.WideElems.Trod_stays hl ht.1.1 ht.1.2 h1 (fun x hx=>same x (hlt x (List.mem_append_left _ hx))) (fun x hx=>hsp x (List.mem_append_left _ hx)),
   args_stay hl hs (by simpa using ht.2) h2 (fun x hx=>hlt x (List.mem_append_right _ hx)) sp (fun x hx=>hsp x (List.mem_append_right _ hx)),rfl⟩
end Go.Eng
namespace Go.Eng
open Go
theorem table_u64 {H:Type}{enc:TypeId × Value→H}{P:Program}{W:World}{n:String}{g:Nat}{t e:TypeId}{cs:Array Value}{k:Nat}{l:List UInt64}{base:Nat}{spare:Nat→Bool}{held:Bool}{fuel:Nat}{x:DataW H × List MemPlace}
  (hg:P.globalNamed n=some g) (hv:W.var? P n=some cs) (ht:P.underlying t=some (.array k e)) (he:P.underlying e=some (.int .u64)) (hc:P.cellsOf e=1)
  (hd:DataW.trod enc P W base spare held fuel t cs.toList=some x) (hx:x.1=.agg (l.map fun y=>.lit (.int .u64 (y.toNat:Int)))) (σ:Sig):ORel σ W ⟨g,0,cs.size,none⟩ (.cells true (l.map .u64)):=by
 have hb:∃ t' fz,W.heap[g]? = some (.cells cs t' fz):=by
  simp only [World.var?,hg,Option.bind_some] at hv
  split at hv
  ·rename_i hh
   simp only [Option.some.injEq] at hv
   subst hv
   exact ⟨_,_,hh⟩
  ·cases hv
 obtain ⟨t',fz,hb⟩:=hb
 refine ⟨cs,t',fz,hb,rfl,fun i v hi => ?_,(fun h=>by cases h),fun T h=>by cases h⟩
 obtain ⟨xs,m,rfl,hx1,hlen,hn,hel⟩:=DataW.trod_array ht hd
 rw [hx1] at hx
 simp only [DataW.agg.injEq] at hx
 rw [List.getElem?_map] at hi
 cases hl:l[i]? with
 | none=>rw [hl] at hi; cases hi
 | some y =>
  rw [hl] at hi
  simp only [Option.map_some,Option.some.injEq] at hi
  subst hi
  have hxi:(xs.map (·.1))[i]? = some (.lit (.int .u64 (y.toNat:Int))):=by rw [hx,List.getElem?_map,hl]; rfl
  rw [List.getElem?_map] at hxi
  cases hxs:xs[i]? with
  | none=>rw [hxs] at hxi; cases hxi
  | some z =>
   rw [hxs] at hxi
   simp only [Option.map_some,Option.some.injEq] at hxi
   have hin:i < k:=by
    have:=(List.getElem?_eq_some_iff.1 hxs).1
    omega
   have h1:=hel i hin
   rw [hxs,hc,Nat.mul_one] at h1
   obtain ⟨r,e1,e2,_⟩:=DataW.trod_int he h1
   rw [e2] at hxi
   simp only [DataW.lit.injEq,Lit.int.injEq,true_and] at hxi
   have h2:cs.toList[i]? = some (.int .u64 r):=by
    have:(List.take 1 (cs.toList.drop i))[0]? = some (.int .u64 r):=by rw [e1]; rfl
    rw [List.getElem?_take_of_lt (by omega),List.getElem?_drop,Nat.add_zero] at this
    exact this
   refine ⟨.int .u64 r,by rw [Nat.zero_add]; simpa using h2,?_⟩
   rw [hxi]
   exact .u64 y
end Go.Eng
namespace Go.Eng
open Go
theorem table_u8 {H:Type}{enc:TypeId × Value→H}{P:Program}{W:World}{n:String}{g:Nat}{t e:TypeId}{cs:Array Value}{k:Nat}{l:List UInt8}{base:Nat}{spare:Nat→Bool}{held:Bool}{fuel:Nat}{x:DataW H × List MemPlace}
  (hg:P.globalNamed n=some g) (hv:W.var? P n=some cs) (ht:P.underlying t=some (.array k e)) (he:P.underlying e=some (.int .u8)) (hc:P.cellsOf e=1)
  (hd:DataW.trod enc P W base spare held fuel t cs.toList=some x) (hx:x.1=.agg (l.map fun y=>.lit (.int .u8 (y.toNat:Int)))) (σ:Sig):ORel σ W ⟨g,0,cs.size,none⟩ (.cells true (l.map .u8)):=by
 have hb:∃ t' fz,W.heap[g]? = some (.cells cs t' fz):=by
  simp only [World.var?,hg,Option.bind_some] at hv
  split at hv
  ·rename_i hh
   simp only [Option.some.injEq] at hv
   subst hv
   exact ⟨_,_,hh⟩
  ·cases hv
 obtain ⟨t',fz,hb⟩:=hb
 refine ⟨cs,t',fz,hb,rfl,fun i v hi => ?_,(fun h=>by cases h),fun T h=>by cases h⟩
 obtain ⟨xs,m,rfl,hx1,hlen,hn,hel⟩:=DataW.trod_array ht hd
 rw [hx1] at hx
 simp only [DataW.agg.injEq] at hx
 rw [List.getElem?_map] at hi
 cases hl:l[i]? with
 | none=>rw [hl] at hi; cases hi
 | some y =>
  rw [hl] at hi
  simp only [Option.map_some,Option.some.injEq] at hi
  subst hi
  have hxi:(xs.map (·.1))[i]? = some (.lit (.int .u8 (y.toNat:Int))):=by rw [hx,List.getElem?_map,hl]; rfl
  rw [List.getElem?_map] at hxi
  cases hxs:xs[i]? with
  | none=>rw [hxs] at hxi; cases hxi
  | some z =>
   rw [hxs] at hxi
   simp only [Option.map_some,Option.some.injEq] at hxi
   have hin:i < k:=by
    have:=(List.getElem?_eq_some_iff.1 hxs).1
    omega
   have h1:=hel i hin
   rw [hxs,hc,Nat.mul_one] at h1
   obtain ⟨r,e1,e2,_⟩:=DataW.trod_int he h1
   rw [e2] at hxi
   simp only [DataW.lit.injEq,Lit.int.injEq,true_and] at hxi
   have h2:cs.toList[i]? = some (.int .u8 r):=by
    have:(List.take 1 (cs.toList.drop i))[0]? = some (.int .u8 r):=by rw [e1]; rfl
    rw [List.getElem?_take_of_lt (by omega),List.getElem?_drop,Nat.add_zero] at this
    exact this
   refine ⟨.int .u8 r,by rw [Nat.zero_add]; simpa using h2,?_⟩
   rw [hxi]
   exact .u8 y
end Go.Eng
namespace Go.Proofs.YthlemfnkmpikjaaDoor
open Go Go.Eng Go.ChangeShapes Go.WideShapes Go.ChangeAt Go.RowKit
set_option maxRecDepth 1000000
def laid1 : List (String × DataW Unit) := [("math/bits.deBruijn32tab", Rows.laid_math_bits_deBruijn32tab), ("math/bits.deBruijn64tab", Rows.laid_math_bits_deBruijn64tab), ("internal/strconv.uint64pow10", Rows.laid_internal_strconv_uint64pow10)]
theorem gT0 : Tryd.prog.globalNamed "internal/strconv.uint64pow10" = some 0 := by kernel_rfl
theorem gT3 : Tryd.prog.globalNamed "math/bits.deBruijn64tab" = some 3 := by kernel_rfl
theorem tT0:(Tryd.prog.globals[0]?).map (·.type)=some 124:=by kernel_rfl
theorem tT3:(Tryd.prog.globals[3]?).map (·.type)=some 129:=by kernel_rfl
theorem uT0:Tryd.prog.underlying 124=some (.array 20 23):=by kernel_rfl
theorem uT3:Tryd.prog.underlying 129=some (.array 64 5):=by kernel_rfl
theorem u64E:Tryd.prog.underlying 23=some (.int .u64):=by kernel_rfl
theorem u8E:Tryd.prog.underlying 5=some (.int .u8):=by kernel_rfl
theorem door_met (os:Os) (args:Array Value):laidMetH Tryd.prog laid1 ((World.doorLaid Tryd.prog 400 os).forCall (fun _ _=>0) ⟨#[],args,[]⟩).memory:=
 laidMetH_of_parts3 (fuel:=8) (laidMet_of_run' 8 (by kernel_rfl) (by kernel_rfl)) (by kernel_rfl) (by kernel_rfl)
theorem tD0 {H:Type}:(Rows.laid_internal_strconv_uint64pow10:DataW H)=.agg (pow10L.map fun y=>.lit (.int .u64 (y.toNat:Int))):=by kernel_rfl
theorem tD3 {H:Type}:(Rows.laid_math_bits_deBruijn64tab:DataW H)=.agg (brL.map fun y=>.lit (.int .u8 (y.toNat:Int))):=by kernel_rfl
theorem tA0:T0=pow10L.map .u64:=by kernel_rfl
theorem tA3:T3=brL.map .u8:=by kernel_rfl
theorem of_laid {W:World}(h:laidMetH Tryd.prog laid1 W):∃ n m,∀ σ,ORel σ W ⟨0,0,n,none⟩ (.cells true T0)∧ORel σ W ⟨3,0,m,none⟩ (.cells true T3):=by
 rw [MakeChecks.laidMetH_plain _ _ _ (by kernel_rfl)] at h
 obtain ⟨ps,⟨g2,t2,cs2,f2,p2,q2,hg2,ht2,hv2,hd2,r1,_⟩,_,_⟩:=h
 obtain ⟨g3,t3,cs3,f3,p3,q3,hg3,ht3,hv3,hd3,r2,_⟩:=r1
 obtain ⟨g0,t0,cs0,f0,p0,q0,hg0,ht0,hv0,hd0,_⟩:=r2
 obtain rfl:=Option.some.inj (gT0.symm.trans hg0)
 obtain rfl:=Option.some.inj (tT0.symm.trans ht0)
 obtain rfl:=Option.some.inj (gT3.symm.trans hg3)
 obtain rfl:=Option.some.inj (tT3.symm.trans ht3)
 refine ⟨cs0.size,cs3.size,fun σ=>⟨?_,?_⟩⟩
 ·rw [tA0]
  exact table_u64 hg0 hv0 uT0 u64E (by kernel_rfl) hd0 tD0 σ
 ·rw [tA3]
  exact table_u8 hg3 hv3 uT3 u8E (by kernel_rfl) hd3 tD3 σ
def sigT (n m:Nat):Sig:=fun g=>if g=0 then some ⟨0,0,n,none⟩ else if g=1 then some ⟨1,0,0,none⟩ else if g=2 then some ⟨2,0,0,none⟩ else if g=3 then some ⟨3,0,m,none⟩ else none
theorem sigT_g (n m:Nat):GRel Tryd.prog (sigT n m):=fun g hg=>by
 have e1:Tryd.prog.globals.size=4:=gl
 have:g=0 ∨ g=1 ∨ g=2 ∨ g=3:=by omega
 rcases this with rfl | rfl | rfl | rfl
 ·exact ⟨n,rfl⟩
 ·exact ⟨0,rfl⟩
 ·exact ⟨0,rfl⟩
 ·exact ⟨m,rfl⟩
theorem sigT_fresh (n m:Nat):Fresh (sigT n m) 4:=fun k hk=>by
 unfold sigT
 rw [if_neg (by omega),if_neg (by omega),if_neg (by omega),if_neg (by omega)]
end Go.Proofs.YthlemfnkmpikjaaDoor
namespace Go.Proofs.YthlemfnkmpikjaaDoor
open Go Go.Eng Go.Num Go.Msg
theorem law_calls_TS {cs:CS}(hcs:CSOk Tryd.prog cs){f:FuncId}{args:List AVal}(h:∃ nn F,(run1 Tryd.prog cs nn F f args H0 4).map (·.1)=some (.bool true)){args':Array Value}{W:World}(hL:laidMetH Tryd.prog laid1 W) (hl:∀ σ,LR σ args args') :
  Calls Tryd.prog f args' W fun r w'=>r=.returned (.bool true)∧Grew W w'∧Still W w':=by
 obtain ⟨nn,F,h⟩:=h
 obtain ⟨n,m,ho⟩:=of_laid hL
 refine law_calls_H hcs hmix h (σ:=sigT n m) (fun k o hk => ?_) (sigT_g n m) (sigT_fresh n m) (hl _)
 unfold H0 at hk
 rcases beq_cases 0 k with ⟨e,hb⟩ | ⟨e,hb⟩
 ·simp only [aget,hb,cond_true,Option.some.injEq] at hk
  subst hk
  subst e
  exact ⟨rfl,_,rfl,(ho _).1⟩
 ·simp only [aget,hb,cond_false] at hk
  rcases beq_cases 3 k with ⟨e,hb⟩ | ⟨e,hb⟩
  ·simp only [hb,cond_true,Option.some.injEq] at hk
   subst hk
   subst e
   exact ⟨rfl,_,rfl,(ho _).2⟩
  ·simp only [hb,cond_false] at hk
   cases hk
theorem agg_of {v:Value}{a b:Kd}{ks:List Kd}(h:KindsP (a::b::ks) v.cells.toList):∃ cs,v=.agg cs∧KindsP (a::b::ks) cs.toList:=by
 cases v with
 | agg cs=>exact ⟨cs,rfl,h⟩
 | _=>exact absurd h (by simp [Value.cells,KindsP])
theorem vr_agg {us:List AVal}{cs:Array Value}(h:VRs us cs.toList) (hl:us.length=cs.size) (σ:Sig):VR σ (.agg us) (.agg cs):=
 .agg hl fun i u v h1 h2=>h.get i u v h1 (by simpa using h2) σ
theorem u16_in {n:Int}(h:(Lit.int .u16 n).wf=true):0≤n∧n < 65536:=by
 simp [Lit.wf,IntKind.min,IntKind.max,IntKind.bits,IntKind.signed] at h
 omega
theorem msg_arg {v:Value}(h:KindsP [.int .u8,.str,.str,.int .u32,.int .u32,.int .u64,.int .u64,.int .u64,.str,.bool,.int .u64,.int .u64,.int .u16,.int .u16,.str,.str,.str] v.cells.toList):∃ m:Ms,rngM m∧∀ σ,VR σ (mA m) v:=by
 obtain ⟨cs,rfl,hk⟩:=agg_of h
 obtain ⟨c0,r0,e0,⟨s0,rfl,w0⟩,k1⟩:=hk.cons
 obtain ⟨c1,r1,e1,⟨s1,rfl,_⟩,k2⟩:=k1.cons
 obtain ⟨c2,r2,e2,⟨s2,rfl,_⟩,k3⟩:=k2.cons
 obtain ⟨c3,r3,e3,⟨s3,rfl,w3⟩,k4⟩:=k3.cons
 obtain ⟨c4,r4,e4,⟨s4,rfl,w4⟩,k5⟩:=k4.cons
 obtain ⟨c5,r5,e5,⟨s5,rfl,w5⟩,k6⟩:=k5.cons
 obtain ⟨c6,r6,e6,⟨s6,rfl,w6⟩,k7⟩:=k6.cons
 obtain ⟨c7,r7,e7,⟨s7,rfl,w7⟩,k8⟩:=k7.cons
 obtain ⟨c8,r8,e8,⟨s8,rfl,_⟩,k9⟩:=k8.cons
 obtain ⟨c9,r9,e9,⟨s9,rfl⟩,k10⟩:=k9.cons
 obtain ⟨c10,r10,e10,⟨s10,rfl,w10⟩,k11⟩:=k10.cons
 obtain ⟨c11,r11,e11,⟨s11,rfl,w11⟩,k12⟩:=k11.cons
 obtain ⟨c12,r12,e12,⟨s12,rfl,w12⟩,k13⟩:=k12.cons
 obtain ⟨c13,r13,e13,⟨s13,rfl,w13⟩,k14⟩:=k13.cons
 obtain ⟨c14,r14,e14,⟨s14,rfl,_⟩,k15⟩:=k14.cons
 obtain ⟨c15,r15,e15,⟨s15,rfl,_⟩,k16⟩:=k15.cons
 obtain ⟨c16,r16,e16,⟨s16,rfl,_⟩,k17⟩:=k16.cons
 have e17:=k17.none
 subst e17 e16 e15 e14 e13 e12 e11 e10 e9 e8 e7 e6 e5 e4 e3 e2 e1
 obtain ⟨x0,hx0⟩:=vr_u8 w0
 obtain ⟨x3,hx3⟩:=vr_u32 w3
 obtain ⟨x4,hx4⟩:=vr_u32 w4
 obtain ⟨x5,hx5⟩:=vr_u64 w5
 obtain ⟨x6,hx6⟩:=vr_u64 w6
 obtain ⟨x7,hx7⟩:=vr_u64 w7
 obtain ⟨x10,hx10⟩:=vr_u64 w10
 obtain ⟨x11,hx11⟩:=vr_u64 w11
 refine ⟨⟨x0,s1.data.toList,s2.data.toList,x3,x4,x5,x6,x7,s8.data.toList,s9,x10,x11,s12,s13,s14.data.toList,s15.data.toList,s16.data.toList⟩,⟨u16_in w12,u16_in w13⟩,vr_agg ?_ ?_⟩
 ·rw [e0]
  exact (.cons hx0 (.cons (fun σ=>vr_str σ s1) (.cons (fun σ=>vr_str σ s2) (.cons hx3 (.cons hx4 (.cons hx5 (.cons hx6 (.cons hx7 (.cons (fun σ=>vr_str σ s8) (.cons (fun σ=>.bool s9) (.cons hx10 (.cons hx11 (.cons (fun σ=>.int .u16 s12) (.cons (fun σ=>.int .u16 s13) (.cons (fun σ=>vr_str σ s14) (.cons (fun σ=>vr_str σ s15) (.cons (fun σ=>vr_str σ s16) .nil)))))))))))))))))
 ·rw [← Array.length_toList,e0]
  rfl
theorem law5r (m:Ms) (hr:rngM m) (n:Ms) (hr2:rngM n):(run1 Tryd.prog (nY (rF hvM)) (mask 5) 200 5 [mA m,mA n] H0 4).map (·.1)=some (.bool true):=law5 m n hr hr2
end Go.Proofs.YthlemfnkmpikjaaDoor
