/- Texts Rn3, Rn4, Rn5, Num9, Num10, Num11, Num12, Prime, NumF, Mo1: what they show that this claim uses. -/
import Derived.Test.YtlchjbidkdokmaaGreatDoorP6
import Derived.Test.YtlchjbidkdokmaaGreatDoorP7
import Derived.WalkKit
set_option maxRecDepth 100000
set_option maxHeartbeats 1000000
set_option linter.unusedVariables false
set_option linter.unusedSimpArgs false
namespace Go.Proofs.YtlchjbidkdokmaaGreatDoor
open Go Go.Eng Go.Num
theorem run135 (a b:N16):(run1 Tryz.prog cs0 (mask 135) 100 135 [a.av,b.av] [] Tryz.prog.globals.size).map (·.1)=some (.bool (lessN a b)):=by
 cases h15:(a.x15 != b.x15)
 rotate_left
 ·have e:lessN a b=decide (a.x15 < b.x15):=by simp [lessN,N16.list,lessL,h15]
  rw [e]
  exact ansO_run (noPS_ok _) (P:=Tryz.prog) (cs:=cs0) (sy:=[16]) (os:=[true]) (vs:=[]) (nn:=mask 135) (F:=100) (f:=135) (ob:=[(a.x15 != b.x15)]) (show ansO (run1O Tryz.prog noPS cs0 [16] [true] [] (mask 135) 100 135 [a.av,b.av] [] Tryz.prog.globals.size)=some (.bool (decide (a.x15 < b.x15)),[(a.x15 != b.x15)]) from by kernel_rfl) (by simp [allT,h15])
 cases h14:(a.x14 != b.x14)
 rotate_left
 ·have e:lessN a b=decide (a.x14 < b.x14):=by simp [lessN,N16.list,lessL,h15,h14]
  rw [e]
  exact ansO_run (noPS_ok _) (P:=Tryz.prog) (cs:=cs0) (sy:=[16]) (os:=[false,true]) (vs:=[]) (nn:=mask 135) (F:=100) (f:=135) (ob:=[(a.x14 != b.x14),!(a.x15 != b.x15)]) (show ansO (run1O Tryz.prog noPS cs0 [16] [false,true] [] (mask 135) 100 135 [a.av,b.av] [] Tryz.prog.globals.size)=some (.bool (decide (a.x14 < b.x14)),[(a.x14 != b.x14),!(a.x15 != b.x15)]) from by kernel_rfl) (by simp [allT,h15,h14])
 cases h13:(a.x13 != b.x13)
 rotate_left
 ·have e:lessN a b=decide (a.x13 < b.x13):=by simp [lessN,N16.list,lessL,h15,h14,h13]
  rw [e]
  exact ansO_run (noPS_ok _) (P:=Tryz.prog) (cs:=cs0) (sy:=[16]) (os:=[false,false,true]) (vs:=[]) (nn:=mask 135) (F:=100) (f:=135) (ob:=[(a.x13 != b.x13),!(a.x14 != b.x14),!(a.x15 != b.x15)]) (show ansO (run1O Tryz.prog noPS cs0 [16] [false,false,true] [] (mask 135) 100 135 [a.av,b.av] [] Tryz.prog.globals.size)=some (.bool (decide (a.x13 < b.x13)),[(a.x13 != b.x13),!(a.x14 != b.x14),!(a.x15 != b.x15)]) from by kernel_rfl) (by simp [allT,h15,h14,h13])
 cases h12:(a.x12 != b.x12)
 rotate_left
 ·have e:lessN a b=decide (a.x12 < b.x12):=by simp [lessN,N16.list,lessL,h15,h14,h13,h12]
  rw [e]
  exact ansO_run (noPS_ok _) (P:=Tryz.prog) (cs:=cs0) (sy:=[16]) (os:=[false,false,false,true]) (vs:=[]) (nn:=mask 135) (F:=100) (f:=135) (ob:=[(a.x12 != b.x12),!(a.x13 != b.x13),!(a.x14 != b.x14),!(a.x15 != b.x15)]) (show ansO (run1O Tryz.prog noPS cs0 [16] [false,false,false,true] [] (mask 135) 100 135 [a.av,b.av] [] Tryz.prog.globals.size)=some (.bool (decide (a.x12 < b.x12)),[(a.x12 != b.x12),!(a.x13 != b.x13),!(a.x14 != b.x14),!(a.x15 != b.x15)]) from by kernel_rfl) (by simp [allT,h15,h14,h13,h12])
 cases h11:(a.x11 != b.x11)
 rotate_left
 ·have e:lessN a b=decide (a.x11 < b.x11):=by simp [lessN,N16.list,lessL,h15,h14,h13,h12,h11]
  rw [e]
  exact ansO_run (noPS_ok _) (P:=Tryz.prog) (cs:=cs0) (sy:=[16]) (os:=[false,false,false,false,true]) (vs:=[]) (nn:=mask 135) (F:=100) (f:=135) (ob:=[(a.x11 != b.x11),!(a.x12 != b.x12),!(a.x13 != b.x13),!(a.x14 != b.x14),!(a.x15 != b.x15)]) (show ansO (run1O Tryz.prog noPS cs0 [16] [false,false,false,false,true] [] (mask 135) 100 135 [a.av,b.av] [] Tryz.prog.globals.size)=some (.bool (decide (a.x11 < b.x11)),[(a.x11 != b.x11),!(a.x12 != b.x12),!(a.x13 != b.x13),!(a.x14 != b.x14),!(a.x15 != b.x15)]) from by kernel_rfl) (by simp [allT,h15,h14,h13,h12,h11])
 cases h10:(a.x10 != b.x10)
 rotate_left
 ·have e:lessN a b=decide (a.x10 < b.x10):=by simp [lessN,N16.list,lessL,h15,h14,h13,h12,h11,h10]
  rw [e]
  exact ansO_run (noPS_ok _) (P:=Tryz.prog) (cs:=cs0) (sy:=[16]) (os:=[false,false,false,false,false,true]) (vs:=[]) (nn:=mask 135) (F:=100) (f:=135) (ob:=[(a.x10 != b.x10),!(a.x11 != b.x11),!(a.x12 != b.x12),!(a.x13 != b.x13),!(a.x14 != b.x14),!(a.x15 != b.x15)]) (show ansO (run1O Tryz.prog noPS cs0 [16] [false,false,false,false,false,true] [] (mask 135) 100 135 [a.av,b.av] [] Tryz.prog.globals.size)=some (.bool (decide (a.x10 < b.x10)),[(a.x10 != b.x10),!(a.x11 != b.x11),!(a.x12 != b.x12),!(a.x13 != b.x13),!(a.x14 != b.x14),!(a.x15 != b.x15)]) from by kernel_rfl) (by simp [allT,h15,h14,h13,h12,h11,h10])
 cases h9:(a.x9 != b.x9)
 rotate_left
 ·have e:lessN a b=decide (a.x9 < b.x9):=by simp [lessN,N16.list,lessL,h15,h14,h13,h12,h11,h10,h9]
  rw [e]
  exact ansO_run (noPS_ok _) (P:=Tryz.prog) (cs:=cs0) (sy:=[16]) (os:=[false,false,false,false,false,false,true]) (vs:=[]) (nn:=mask 135) (F:=100) (f:=135) (ob:=[(a.x9 != b.x9),!(a.x10 != b.x10),!(a.x11 != b.x11),!(a.x12 != b.x12),!(a.x13 != b.x13),!(a.x14 != b.x14),!(a.x15 != b.x15)]) (show ansO (run1O Tryz.prog noPS cs0 [16] [false,false,false,false,false,false,true] [] (mask 135) 100 135 [a.av,b.av] [] Tryz.prog.globals.size)=some (.bool (decide (a.x9 < b.x9)),[(a.x9 != b.x9),!(a.x10 != b.x10),!(a.x11 != b.x11),!(a.x12 != b.x12),!(a.x13 != b.x13),!(a.x14 != b.x14),!(a.x15 != b.x15)]) from by kernel_rfl) (by simp [allT,h15,h14,h13,h12,h11,h10,h9])
 cases h8:(a.x8 != b.x8)
 rotate_left
 ·have e:lessN a b=decide (a.x8 < b.x8):=by simp [lessN,N16.list,lessL,h15,h14,h13,h12,h11,h10,h9,h8]
  rw [e]
  exact ansO_run (noPS_ok _) (P:=Tryz.prog) (cs:=cs0) (sy:=[16]) (os:=[false,false,false,false,false,false,false,true]) (vs:=[]) (nn:=mask 135) (F:=100) (f:=135) (ob:=[(a.x8 != b.x8),!(a.x9 != b.x9),!(a.x10 != b.x10),!(a.x11 != b.x11),!(a.x12 != b.x12),!(a.x13 != b.x13),!(a.x14 != b.x14),!(a.x15 != b.x15)]) (show ansO (run1O Tryz.prog noPS cs0 [16] [false,false,false,false,false,false,false,true] [] (mask 135) 100 135 [a.av,b.av] [] Tryz.prog.globals.size)=some (.bool (decide (a.x8 < b.x8)),[(a.x8 != b.x8),!(a.x9 != b.x9),!(a.x10 != b.x10),!(a.x11 != b.x11),!(a.x12 != b.x12),!(a.x13 != b.x13),!(a.x14 != b.x14),!(a.x15 != b.x15)]) from by kernel_rfl) (by simp [allT,h15,h14,h13,h12,h11,h10,h9,h8])
 cases h7:(a.x7 != b.x7)
 rotate_left
 ·have e:lessN a b=decide (a.x7 < b.x7):=by simp [lessN,N16.list,lessL,h15,h14,h13,h12,h11,h10,h9,h8,h7]
  rw [e]
  exact ansO_run (noPS_ok _) (P:=Tryz.prog) (cs:=cs0) (sy:=[16]) (os:=[false,false,false,false,false,false,false,false,true]) (vs:=[]) (nn:=mask 135) (F:=100) (f:=135) (ob:=[(a.x7 != b.x7),!(a.x8 != b.x8),!(a.x9 != b.x9),!(a.x10 != b.x10),!(a.x11 != b.x11),!(a.x12 != b.x12),!(a.x13 != b.x13),!(a.x14 != b.x14),!(a.x15 != b.x15)]) (show ansO (run1O Tryz.prog noPS cs0 [16] [false,false,false,false,false,false,false,false,true] [] (mask 135) 100 135 [a.av,b.av] [] Tryz.prog.globals.size)=some (.bool (decide (a.x7 < b.x7)),[(a.x7 != b.x7),!(a.x8 != b.x8),!(a.x9 != b.x9),!(a.x10 != b.x10),!(a.x11 != b.x11),!(a.x12 != b.x12),!(a.x13 != b.x13),!(a.x14 != b.x14),!(a.x15 != b.x15)]) from by kernel_rfl) (by simp [allT,h15,h14,h13,h12,h11,h10,h9,h8,h7])
 cases h6:(a.x6 != b.x6)
 rotate_left
 ·have e:lessN a b=decide (a.x6 < b.x6):=by simp [lessN,N16.list,lessL,h15,h14,h13,h12,h11,h10,h9,h8,h7,h6]
  rw [e]
  exact ansO_run (noPS_ok _) (P:=Tryz.prog) (cs:=cs0) (sy:=[16]) (os:=[false,false,false,false,false,false,false,false,false,true]) (vs:=[]) (nn:=mask 135) (F:=100) (f:=135) (ob:=[(a.x6 != b.x6),!(a.x7 != b.x7),!(a.x8 != b.x8),!(a.x9 != b.x9),!(a.x10 != b.x10),!(a.x11 != b.x11),!(a.x12 != b.x12),!(a.x13 != b.x13),!(a.x14 != b.x14),!(a.x15 != b.x15)]) (show ansO (run1O Tryz.prog noPS cs0 [16] [false,false,false,false,false,false,false,false,false,true] [] (mask 135) 100 135 [a.av,b.av] [] Tryz.prog.globals.size)=some (.bool (decide (a.x6 < b.x6)),[(a.x6 != b.x6),!(a.x7 != b.x7),!(a.x8 != b.x8),!(a.x9 != b.x9),!(a.x10 != b.x10),!(a.x11 != b.x11),!(a.x12 != b.x12),!(a.x13 != b.x13),!(a.x14 != b.x14),!(a.x15 != b.x15)]) from by kernel_rfl) (by simp [allT,h15,h14,h13,h12,h11,h10,h9,h8,h7,h6])
 cases h5:(a.x5 != b.x5)
 rotate_left
 ·have e:lessN a b=decide (a.x5 < b.x5):=by simp [lessN,N16.list,lessL,h15,h14,h13,h12,h11,h10,h9,h8,h7,h6,h5]
  rw [e]
  exact ansO_run (noPS_ok _) (P:=Tryz.prog) (cs:=cs0) (sy:=[16]) (os:=[false,false,false,false,false,false,false,false,false,false,true]) (vs:=[]) (nn:=mask 135) (F:=100) (f:=135) (ob:=[(a.x5 != b.x5),!(a.x6 != b.x6),!(a.x7 != b.x7),!(a.x8 != b.x8),!(a.x9 != b.x9),!(a.x10 != b.x10),!(a.x11 != b.x11),!(a.x12 != b.x12),!(a.x13 != b.x13),!(a.x14 != b.x14),!(a.x15 != b.x15)]) (show ansO (run1O Tryz.prog noPS cs0 [16] [false,false,false,false,false,false,false,false,false,false,true] [] (mask 135) 100 135 [a.av,b.av] [] Tryz.prog.globals.size)=some (.bool (decide (a.x5 < b.x5)),[(a.x5 != b.x5),!(a.x6 != b.x6),!(a.x7 != b.x7),!(a.x8 != b.x8),!(a.x9 != b.x9),!(a.x10 != b.x10),!(a.x11 != b.x11),!(a.x12 != b.x12),!(a.x13 != b.x13),!(a.x14 != b.x14),!(a.x15 != b.x15)]) from by kernel_rfl) (by simp [allT,h15,h14,h13,h12,h11,h10,h9,h8,h7,h6,h5])
 cases h4:(a.x4 != b.x4)
 rotate_left
 ·have e:lessN a b=decide (a.x4 < b.x4):=by simp [lessN,N16.list,lessL,h15,h14,h13,h12,h11,h10,h9,h8,h7,h6,h5,h4]
  rw [e]
  exact ansO_run (noPS_ok _) (P:=Tryz.prog) (cs:=cs0) (sy:=[16]) (os:=[false,false,false,false,false,false,false,false,false,false,false,true]) (vs:=[]) (nn:=mask 135) (F:=100) (f:=135) (ob:=[(a.x4 != b.x4),!(a.x5 != b.x5),!(a.x6 != b.x6),!(a.x7 != b.x7),!(a.x8 != b.x8),!(a.x9 != b.x9),!(a.x10 != b.x10),!(a.x11 != b.x11),!(a.x12 != b.x12),!(a.x13 != b.x13),!(a.x14 != b.x14),!(a.x15 != b.x15)]) (show ansO (run1O Tryz.prog noPS cs0 [16] [false,false,false,false,false,false,false,false,false,false,false,true] [] (mask 135) 100 135 [a.av,b.av] [] Tryz.prog.globals.size)=some (.bool (decide (a.x4 < b.x4)),[(a.x4 != b.x4),!(a.x5 != b.x5),!(a.x6 != b.x6),!(a.x7 != b.x7),!(a.x8 != b.x8),!(a.x9 != b.x9),!(a.x10 != b.x10),!(a.x11 != b.x11),!(a.x12 != b.x12),!(a.x13 != b.x13),!(a.x14 != b.x14),!(a.x15 != b.x15)]) from by kernel_rfl) (by simp [allT,h15,h14,h13,h12,h11,h10,h9,h8,h7,h6,h5,h4])
 cases h3:(a.x3 != b.x3)
 rotate_left
 ·have e:lessN a b=decide (a.x3 < b.x3):=by simp [lessN,N16.list,lessL,h15,h14,h13,h12,h11,h10,h9,h8,h7,h6,h5,h4,h3]
  rw [e]
  exact ansO_run (noPS_ok _) (P:=Tryz.prog) (cs:=cs0) (sy:=[16]) (os:=[false,false,false,false,false,false,false,false,false,false,false,false,true]) (vs:=[]) (nn:=mask 135) (F:=100) (f:=135) (ob:=[(a.x3 != b.x3),!(a.x4 != b.x4),!(a.x5 != b.x5),!(a.x6 != b.x6),!(a.x7 != b.x7),!(a.x8 != b.x8),!(a.x9 != b.x9),!(a.x10 != b.x10),!(a.x11 != b.x11),!(a.x12 != b.x12),!(a.x13 != b.x13),!(a.x14 != b.x14),!(a.x15 != b.x15)]) (show ansO (run1O Tryz.prog noPS cs0 [16] [false,false,false,false,false,false,false,false,false,false,false,false,true] [] (mask 135) 100 135 [a.av,b.av] [] Tryz.prog.globals.size)=some (.bool (decide (a.x3 < b.x3)),[(a.x3 != b.x3),!(a.x4 != b.x4),!(a.x5 != b.x5),!(a.x6 != b.x6),!(a.x7 != b.x7),!(a.x8 != b.x8),!(a.x9 != b.x9),!(a.x10 != b.x10),!(a.x11 != b.x11),!(a.x12 != b.x12),!(a.x13 != b.x13),!(a.x14 != b.x14),!(a.x15 != b.x15)]) from by kernel_rfl) (by simp [allT,h15,h14,h13,h12,h11,h10,h9,h8,h7,h6,h5,h4,h3])
 cases h2:(a.x2 != b.x2)
 rotate_left
 ·have e:lessN a b=decide (a.x2 < b.x2):=by simp [lessN,N16.list,lessL,h15,h14,h13,h12,h11,h10,h9,h8,h7,h6,h5,h4,h3,h2]
  rw [e]
  exact ansO_run (noPS_ok _) (P:=Tryz.prog) (cs:=cs0) (sy:=[16]) (os:=[false,false,false,false,false,false,false,false,false,false,false,false,false,true]) (vs:=[]) (nn:=mask 135) (F:=100) (f:=135) (ob:=[(a.x2 != b.x2),!(a.x3 != b.x3),!(a.x4 != b.x4),!(a.x5 != b.x5),!(a.x6 != b.x6),!(a.x7 != b.x7),!(a.x8 != b.x8),!(a.x9 != b.x9),!(a.x10 != b.x10),!(a.x11 != b.x11),!(a.x12 != b.x12),!(a.x13 != b.x13),!(a.x14 != b.x14),!(a.x15 != b.x15)]) (show ansO (run1O Tryz.prog noPS cs0 [16] [false,false,false,false,false,false,false,false,false,false,false,false,false,true] [] (mask 135) 100 135 [a.av,b.av] [] Tryz.prog.globals.size)=some (.bool (decide (a.x2 < b.x2)),[(a.x2 != b.x2),!(a.x3 != b.x3),!(a.x4 != b.x4),!(a.x5 != b.x5),!(a.x6 != b.x6),!(a.x7 != b.x7),!(a.x8 != b.x8),!(a.x9 != b.x9),!(a.x10 != b.x10),!(a.x11 != b.x11),!(a.x12 != b.x12),!(a.x13 != b.x13),!(a.x14 != b.x14),!(a.x15 != b.x15)]) from by kernel_rfl) (by simp [allT,h15,h14,h13,h12,h11,h10,h9,h8,h7,h6,h5,h4,h3,h2])
 cases h1:(a.x1 != b.x1)
 rotate_left
 ·have e:lessN a b=decide (a.x1 < b.x1):=by simp [lessN,N16.list,lessL,h15,h14,h13,h12,h11,h10,h9,h8,h7,h6,h5,h4,h3,h2,h1]
  rw [e]
  exact ansO_run (noPS_ok _) (P:=Tryz.prog) (cs:=cs0) (sy:=[16]) (os:=[false,false,false,false,false,false,false,false,false,false,false,false,false,false,true]) (vs:=[]) (nn:=mask 135) (F:=100) (f:=135) (ob:=[(a.x1 != b.x1),!(a.x2 != b.x2),!(a.x3 != b.x3),!(a.x4 != b.x4),!(a.x5 != b.x5),!(a.x6 != b.x6),!(a.x7 != b.x7),!(a.x8 != b.x8),!(a.x9 != b.x9),!(a.x10 != b.x10),!(a.x11 != b.x11),!(a.x12 != b.x12),!(a.x13 != b.x13),!(a.x14 != b.x14),!(a.x15 != b.x15)]) (show ansO (run1O Tryz.prog noPS cs0 [16] [false,false,false,false,false,false,false,false,false,false,false,false,false,false,true] [] (mask 135) 100 135 [a.av,b.av] [] Tryz.prog.globals.size)=some (.bool (decide (a.x1 < b.x1)),[(a.x1 != b.x1),!(a.x2 != b.x2),!(a.x3 != b.x3),!(a.x4 != b.x4),!(a.x5 != b.x5),!(a.x6 != b.x6),!(a.x7 != b.x7),!(a.x8 != b.x8),!(a.x9 != b.x9),!(a.x10 != b.x10),!(a.x11 != b.x11),!(a.x12 != b.x12),!(a.x13 != b.x13),!(a.x14 != b.x14),!(a.x15 != b.x15)]) from by kernel_rfl) (by simp [allT,h15,h14,h13,h12,h11,h10,h9,h8,h7,h6,h5,h4,h3,h2,h1])
 cases h0:(a.x0 != b.x0)
 rotate_left
 ·have e:lessN a b=decide (a.x0 < b.x0):=by simp [lessN,N16.list,lessL,h15,h14,h13,h12,h11,h10,h9,h8,h7,h6,h5,h4,h3,h2,h1,h0]
  rw [e]
  exact ansO_run (noPS_ok _) (P:=Tryz.prog) (cs:=cs0) (sy:=[16]) (os:=[false,false,false,false,false,false,false,false,false,false,false,false,false,false,false,true]) (vs:=[]) (nn:=mask 135) (F:=100) (f:=135) (ob:=[(a.x0 != b.x0),!(a.x1 != b.x1),!(a.x2 != b.x2),!(a.x3 != b.x3),!(a.x4 != b.x4),!(a.x5 != b.x5),!(a.x6 != b.x6),!(a.x7 != b.x7),!(a.x8 != b.x8),!(a.x9 != b.x9),!(a.x10 != b.x10),!(a.x11 != b.x11),!(a.x12 != b.x12),!(a.x13 != b.x13),!(a.x14 != b.x14),!(a.x15 != b.x15)]) (show ansO (run1O Tryz.prog noPS cs0 [16] [false,false,false,false,false,false,false,false,false,false,false,false,false,false,false,true] [] (mask 135) 100 135 [a.av,b.av] [] Tryz.prog.globals.size)=some (.bool (decide (a.x0 < b.x0)),[(a.x0 != b.x0),!(a.x1 != b.x1),!(a.x2 != b.x2),!(a.x3 != b.x3),!(a.x4 != b.x4),!(a.x5 != b.x5),!(a.x6 != b.x6),!(a.x7 != b.x7),!(a.x8 != b.x8),!(a.x9 != b.x9),!(a.x10 != b.x10),!(a.x11 != b.x11),!(a.x12 != b.x12),!(a.x13 != b.x13),!(a.x14 != b.x14),!(a.x15 != b.x15)]) from by kernel_rfl) (by simp [allT,h15,h14,h13,h12,h11,h10,h9,h8,h7,h6,h5,h4,h3,h2,h1,h0])
 have e:lessN a b=false:=by simp [lessN,N16.list,lessL,h15,h14,h13,h12,h11,h10,h9,h8,h7,h6,h5,h4,h3,h2,h1,h0]
 rw [e]
 exact ansO_run (noPS_ok _) (P:=Tryz.prog) (cs:=cs0) (sy:=[16]) (os:=[false,false,false,false,false,false,false,false,false,false,false,false,false,false,false,false]) (vs:=[]) (nn:=mask 135) (F:=100) (f:=135) (ob:=[!(a.x0 != b.x0),!(a.x1 != b.x1),!(a.x2 != b.x2),!(a.x3 != b.x3),!(a.x4 != b.x4),!(a.x5 != b.x5),!(a.x6 != b.x6),!(a.x7 != b.x7),!(a.x8 != b.x8),!(a.x9 != b.x9),!(a.x10 != b.x10),!(a.x11 != b.x11),!(a.x12 != b.x12),!(a.x13 != b.x13),!(a.x14 != b.x14),!(a.x15 != b.x15)]) (show ansO (run1O Tryz.prog noPS cs0 [16] [false,false,false,false,false,false,false,false,false,false,false,false,false,false,false,false] [] (mask 135) 100 135 [a.av,b.av] [] Tryz.prog.globals.size)=some (.bool false,[!(a.x0 != b.x0),!(a.x1 != b.x1),!(a.x2 != b.x2),!(a.x3 != b.x3),!(a.x4 != b.x4),!(a.x5 != b.x5),!(a.x6 != b.x6),!(a.x7 != b.x7),!(a.x8 != b.x8),!(a.x9 != b.x9),!(a.x10 != b.x10),!(a.x11 != b.x11),!(a.x12 != b.x12),!(a.x13 != b.x13),!(a.x14 != b.x14),!(a.x15 != b.x15)]) from by kernel_rfl) (by simp [allT,h15,h14,h13,h12,h11,h10,h9,h8,h7,h6,h5,h4,h3,h2,h1,h0])
def g135:List AVal→Option EffA
 | [.agg [.u64 a0,.u64 a1,.u64 a2,.u64 a3,.u64 a4,.u64 a5,.u64 a6,.u64 a7,.u64 a8,.u64 a9,.u64 a10,.u64 a11,.u64 a12,.u64 a13,.u64 a14,.u64 a15],.agg [.u64 b0,.u64 b1,.u64 b2,.u64 b3,.u64 b4,.u64 b5,.u64 b6,.u64 b7,.u64 b8,.u64 b9,.u64 b10,.u64 b11,.u64 b12,.u64 b13,.u64 b14,.u64 b15]]=>some (.pure (.bool (lessN (N16.mk a0 a1 a2 a3 a4 a5 a6 a7 a8 a9 a10 a11 a12 a13 a14 a15) (N16.mk b0 b1 b2 b3 b4 b5 b6 b7 b8 b9 b10 b11 b12 b13 b14 b15))))
 | _=>none
theorem g135_ok:CSOk Tryz.prog (csOne 135 g135):=csOne_ok fun args e he=>by
 unfold g135 at he
 split at he
 ·rename_i a0 a1 a2 a3 a4 a5 a6 a7 a8 a9 a10 a11 a12 a13 a14 a15 b0 b1 b2 b3 b4 b5 b6 b7 b8 b9 b10 b11 b12 b13 b14 b15
  cases he
  exact callOk_val cs0_ok hmix (run135 (N16.mk a0 a1 a2 a3 a4 a5 a6 a7 a8 a9 a10 a11 a12 a13 a14 a15) (N16.mk b0 b1 b2 b3 b4 b5 b6 b7 b8 b9 b10 b11 b12 b13 b14 b15)) rfl rfl
 ·cases he
theorem run96 (a0 a1 a2 a3 a4 a5 a6 a7 a8 a9 a10 a11 a12 a13 a14 a15 a16 a17 a18 a19 a20 a21 a22 a23 a24 a25 a26 a27 a28 a29 a30 a31:UInt8):(run1 Tryz.prog cs0 (mask 96) 100 96 [.str [a0,a1,a2,a3,a4,a5,a6,a7,a8,a9,a10,a11,a12,a13,a14,a15,a16,a17,a18,a19,a20,a21,a22,a23,a24,a25,a26,a27,a28,a29,a30,a31]] [] Tryz.prog.globals.size).map (·.1)=some (partsN [a0,a1,a2,a3,a4,a5,a6,a7,a8,a9,a10,a11,a12,a13,a14,a15,a16,a17,a18,a19,a20,a21,a22,a23,a24,a25,a26,a27,a28,a29,a30,a31]).av:=by kernel_rfl
def g96:List AVal→Option EffA
 | [.str [a0,a1,a2,a3,a4,a5,a6,a7,a8,a9,a10,a11,a12,a13,a14,a15,a16,a17,a18,a19,a20,a21,a22,a23,a24,a25,a26,a27,a28,a29,a30,a31]]=>some (.pure (partsN [a0,a1,a2,a3,a4,a5,a6,a7,a8,a9,a10,a11,a12,a13,a14,a15,a16,a17,a18,a19,a20,a21,a22,a23,a24,a25,a26,a27,a28,a29,a30,a31]).av)
 | _=>none
theorem g96_ok:CSOk Tryz.prog (csOne 96 g96):=csOne_ok fun args e he=>by
 unfold g96 at he
 split at he
 ·rename_i a0 a1 a2 a3 a4 a5 a6 a7 a8 a9 a10 a11 a12 a13 a14 a15 a16 a17 a18 a19 a20 a21 a22 a23 a24 a25 a26 a27 a28 a29 a30 a31
  cases he
  exact callOk_val cs0_ok hmix (run96 a0 a1 a2 a3 a4 a5 a6 a7 a8 a9 a10 a11 a12 a13 a14 a15 a16 a17 a18 a19 a20 a21 a22 a23 a24 a25 a26 a27 a28 a29 a30 a31) rfl rfl
 ·cases he
theorem run64 (a:N16):(run1 Tryz.prog cs0 (mask 64) 100 64 [(N16.av a)] [] Tryz.prog.globals.size).map (·.1)=some (.str (bytesN a)):=by kernel_rfl
def g64:List AVal→Option EffA
 | [.agg [.u64 a0,.u64 a1,.u64 a2,.u64 a3,.u64 a4,.u64 a5,.u64 a6,.u64 a7,.u64 a8,.u64 a9,.u64 a10,.u64 a11,.u64 a12,.u64 a13,.u64 a14,.u64 a15]]=>some (.pure (.str (bytesN (N16.mk a0 a1 a2 a3 a4 a5 a6 a7 a8 a9 a10 a11 a12 a13 a14 a15))))
 | _=>none
theorem g64_ok:CSOk Tryz.prog (csOne 64 g64):=csOne_ok fun args e he=>by
 unfold g64 at he
 split at he
 ·rename_i a0 a1 a2 a3 a4 a5 a6 a7 a8 a9 a10 a11 a12 a13 a14 a15
  cases he
  exact callOk_val cs0_ok hmix (run64 (N16.mk a0 a1 a2 a3 a4 a5 a6 a7 a8 a9 a10 a11 a12 a13 a14 a15)) rfl rfl
 ·cases he
theorem run137 (a:N16) (b:N16):(run1 Tryz.prog cs0 (mask 137) 100 137 [(N16.av a),(N16.av b)] [] Tryz.prog.globals.size).map (·.1)=some (N16.av (minusN a b)):=by kernel_rfl
def g137:List AVal→Option EffA
 | [.agg [.u64 a0,.u64 a1,.u64 a2,.u64 a3,.u64 a4,.u64 a5,.u64 a6,.u64 a7,.u64 a8,.u64 a9,.u64 a10,.u64 a11,.u64 a12,.u64 a13,.u64 a14,.u64 a15],.agg [.u64 b0,.u64 b1,.u64 b2,.u64 b3,.u64 b4,.u64 b5,.u64 b6,.u64 b7,.u64 b8,.u64 b9,.u64 b10,.u64 b11,.u64 b12,.u64 b13,.u64 b14,.u64 b15]]=>some (.pure (N16.av (minusN (N16.mk a0 a1 a2 a3 a4 a5 a6 a7 a8 a9 a10 a11 a12 a13 a14 a15) (N16.mk b0 b1 b2 b3 b4 b5 b6 b7 b8 b9 b10 b11 b12 b13 b14 b15))))
 | _=>none
theorem g137_ok:CSOk Tryz.prog (csOne 137 g137):=csOne_ok fun args e he=>by
 unfold g137 at he
 split at he
 ·rename_i a0 a1 a2 a3 a4 a5 a6 a7 a8 a9 a10 a11 a12 a13 a14 a15 b0 b1 b2 b3 b4 b5 b6 b7 b8 b9 b10 b11 b12 b13 b14 b15
  cases he
  exact callOk_val cs0_ok hmix (run137 (N16.mk a0 a1 a2 a3 a4 a5 a6 a7 a8 a9 a10 a11 a12 a13 a14 a15) (N16.mk b0 b1 b2 b3 b4 b5 b6 b7 b8 b9 b10 b11 b12 b13 b14 b15)) rfl rfl
 ·cases he
theorem run136  : (run1 Tryz.prog cs0 (mask 136) 100 136 [] [] Tryz.prog.globals.size).map (·.1)=some (primeN.av):=by kernel_rfl
def g136:List AVal→Option EffA
 | []=>some (.pure (primeN.av))
 | _=>none
theorem g136_ok:CSOk Tryz.prog (csOne 136 g136):=csOne_ok fun args e he=>by
 unfold g136 at he
 split at he
 ·skip
  cases he
  exact callOk_val cs0_ok hmix (run136 ) rfl rfl
 ·cases he
theorem run95 (a:N16):(run1 Tryz.prog cs0 (mask 95) 100 95 [(N16.av a)] [] Tryz.prog.globals.size).map (·.1)=some (N32.av (wideN a)):=by kernel_rfl
def g95:List AVal→Option EffA
 | [.agg [.u64 a0,.u64 a1,.u64 a2,.u64 a3,.u64 a4,.u64 a5,.u64 a6,.u64 a7,.u64 a8,.u64 a9,.u64 a10,.u64 a11,.u64 a12,.u64 a13,.u64 a14,.u64 a15]]=>some (.pure (N32.av (wideN (N16.mk a0 a1 a2 a3 a4 a5 a6 a7 a8 a9 a10 a11 a12 a13 a14 a15))))
 | _=>none
theorem g95_ok:CSOk Tryz.prog (csOne 95 g95):=csOne_ok fun args e he=>by
 unfold g95 at he
 split at he
 ·rename_i a0 a1 a2 a3 a4 a5 a6 a7 a8 a9 a10 a11 a12 a13 a14 a15
  cases he
  exact callOk_val cs0_ok hmix (run95 (N16.mk a0 a1 a2 a3 a4 a5 a6 a7 a8 a9 a10 a11 a12 a13 a14 a15)) rfl rfl
 ·cases he
def nr1:CS:=(csAlt (csOne 135 g135) (csAlt (csOne 96 g96) (csAlt (csOne 64 g64) (csAlt (csOne 137 g137) (csAlt (csOne 136 g136) (csOne 95 g95))))))
theorem nr1_ok:CSOk Tryz.prog nr1:=(csAlt_ok g135_ok (csAlt_ok g96_ok (csAlt_ok g64_ok (csAlt_ok g137_ok (csAlt_ok g136_ok g95_ok)))))
def Sd1 (t0 t:N32) (k:Int):SA:=⟨[(0,t0.av),(1,.ptr 5 0),(2,.ptr 13 0),(3,.int .i64 k)],[(5,.cells false t.cells),(13,.cells false zeroN.cells)],29⟩
def Sd1e (t0 t:N32):SA:=⟨[(0,t0.av),(1,.ptr 5 0),(2,.ptr 13 0),(3,.int .i64 3),(15,.bool false)],[(5,.cells false t.cells),(13,.cells false zeroN.cells)],45⟩
def Sd2 (t0 t:N32) (k:Int):SA:=⟨[(0,t0.av),(1,.ptr 5 0),(2,.ptr 13 0),(3,.int .i64 3),(15,.bool false),(8,.int .i64 k)],[(5,.cells false t.cells),(13,.cells false zeroN.cells)],53⟩
def Sd2e (t0 t:N32):SA:=⟨[(0,t0.av),(1,.ptr 5 0),(2,.ptr 13 0),(3,.int .i64 3),(15,.bool false),(8,.int .i64 3),(58,.bool false)],[(5,.cells false t.cells),(13,.cells false zeroN.cells)],69⟩
noncomputable def prd:List Code:=pieces (bodyOf Tryz.f94)
noncomputable def bd1:Code:=loopOf (prd.getD 2 .skip)
noncomputable def bd2:Code:=loopOf (prd.getD 4 .skip)
theorem red0 (t:N32):segO (evSO Tryz.prog noPS nr1 [] 99 (mask 94) 100 Tryz.prog.globals.size ((prd.drop 0).take 2) ⟨startT [t.av] 0,[],Tryz.prog.globals.size⟩ ⟨[],[],[]⟩)=some (Sd1 t t 0,[]):=by kernel_rfl
theorem red1_0 (t0 s t:N32):roundO Tryz.prog noPS nr1 [] [] [] 99 (mask 94) 100 Tryz.prog.globals.size bd1 (Sd1 t0 s 0) (Sd1 t0 t 0)=some (Sd1 t0 (pass1 t) 1,[]):=by kernel_rfl
theorem red1_1 (t0 s t:N32):roundO Tryz.prog noPS nr1 [] [] [] 99 (mask 94) 100 Tryz.prog.globals.size bd1 (Sd1 t0 s 0) (Sd1 t0 t 1)=some (Sd1 t0 (pass1 t) 2,[]):=by kernel_rfl
theorem red1_2 (t0 s t:N32):roundO Tryz.prog noPS nr1 [] [] [] 99 (mask 94) 100 Tryz.prog.globals.size bd1 (Sd1 t0 s 0) (Sd1 t0 t 2)=some (Sd1 t0 (pass1 t) 3,[]):=by kernel_rfl
theorem red1e (t0 t:N32):evC Tryz.prog nr1 99 (mask 94) 100 Tryz.prog.globals.size bd1 (Sd1 t0 t 3)=some (.exit 0,Sd1e t0 t):=by kernel_rfl
theorem red1x (t0 t:N32):segO (evSO Tryz.prog noPS nr1 [] 99 (mask 94) 100 Tryz.prog.globals.size ((prd.drop 3).take 1) (Sd1e t0 t) ⟨[],[],[]⟩)=some (Sd2 t0 t 0,[]):=by kernel_rfl
theorem red2_0 (t0 s t:N32):roundO Tryz.prog noPS nr1 [] [] [] 99 (mask 94) 100 Tryz.prog.globals.size bd2 (Sd2 t0 s 0) (Sd2 t0 t 0)=some (Sd2 t0 (pass3 t) 1,[]):=by kernel_rfl
theorem red2_1 (t0 s t:N32):roundO Tryz.prog noPS nr1 [] [] [] 99 (mask 94) 100 Tryz.prog.globals.size bd2 (Sd2 t0 s 0) (Sd2 t0 t 1)=some (Sd2 t0 (pass3 t) 2,[]):=by kernel_rfl
theorem red2_2 (t0 s t:N32):roundO Tryz.prog noPS nr1 [] [] [] 99 (mask 94) 100 Tryz.prog.globals.size bd2 (Sd2 t0 s 0) (Sd2 t0 t 2)=some (Sd2 t0 (pass3 t) 3,[]):=by kernel_rfl
theorem red2e (t0 t:N32):evC Tryz.prog nr1 99 (mask 94) 100 Tryz.prog.globals.size bd2 (Sd2 t0 t 3)=some (.exit 6,Sd2e t0 t):=by kernel_rfl
theorem red3a (t0 t:N32):ansF Tryz.prog Tryz.f94 (evSO Tryz.prog noPS nr1 [94] 99 (mask 94) 100 Tryz.prog.globals.size (prd.drop 5) (Sd2e t0 t) ⟨[false],[],[]⟩)=some (t.lo.av,[!(!(lessN t.lo primeN))]):=by kernel_rfl
theorem red3b (t0 t:N32):ansF Tryz.prog Tryz.f94 (evSO Tryz.prog noPS nr1 [94] 99 (mask 94) 100 Tryz.prog.globals.size (prd.drop 5) (Sd2e t0 t) ⟨[true,false],[],[]⟩)=some ((minusN t.lo primeN).av,[!(!(lessN (minusN t.lo primeN) primeN)),!(lessN t.lo primeN)]):=by kernel_rfl
theorem red3c (t0 t:N32):ansF Tryz.prog Tryz.f94 (evSO Tryz.prog noPS nr1 [94] 99 (mask 94) 100 Tryz.prog.globals.size (prd.drop 5) (Sd2e t0 t) ⟨[true,true,false],[],[]⟩)=some ((minusN (minusN t.lo primeN) primeN).av,[!(!(lessN (minusN (minusN t.lo primeN) primeN) primeN)),!(lessN (minusN t.lo primeN) primeN),!(lessN t.lo primeN)]):=by kernel_rfl
theorem red3 (t0 t:N32) (h:lessN (downN (downN t.lo)) primeN=true):finV Tryz.prog Tryz.f94 (evS Tryz.prog nr1 99 (mask 94) 100 Tryz.prog.globals.size (prd.drop 5) (Sd2e t0 t))=some (downN (downN t.lo)).av:=by
 cases h1:lessN t.lo primeN
 ·have e1:downN t.lo=(minusN t.lo primeN):=by simp only [downN,h1,cond_false]
  rw [e1] at h ⊢
  cases h2:lessN (minusN t.lo primeN) primeN
  ·have e2:downN (minusN t.lo primeN)=(minusN (minusN t.lo primeN) primeN):=by simp only [downN,h2,cond_false]
   rw [e2] at h ⊢
   exact ansF_ok (noPS_ok _) (red3c t0 t) (by simp [allT,h1,h2,h])
  ·have e2:downN (minusN t.lo primeN)=(minusN t.lo primeN):=by simp only [downN,h2,cond_true]
   rw [e2]
   exact ansF_ok (noPS_ok _) (red3b t0 t) (by simp [allT,h1,h2])
 ·have e1:downN t.lo=t.lo:=by simp only [downN,h1,cond_true]
  rw [e1,e1]
  exact ansF_ok (noPS_ok _) (red3a t0 t) (by simp [allT,h1])
theorem run94 (t:N32) (hb:bndL t.list=true):(run1 Tryz.prog nr1 (mask 94) 100 94 [t.av] [] Tryz.prog.globals.size).map (·.1)=some (redN t).av:=by
 rw [run1_val (fn:=Tryz.f94) (c:=bodyOf Tryz.f94) (by kernel_rfl) (by kernel_rfl) (by kernel_rfl)]
 have hA:=segO_ok (noPS_ok _) (red0 t) rfl
 rw [List.drop_zero] at hA
 show finV Tryz.prog Tryz.f94 (evS Tryz.prog nr1 99 (mask 94) 100 Tryz.prog.globals.size prd ⟨startT [t.av] 0,[],Tryz.prog.globals.size⟩)=_
 rw [hA]
 have hB:=evS_loop (P:=Tryz.prog) (cs:=nr1) (nt:=99) (nn:=mask 94) (F:=100) (bs:=Tryz.prog.globals.size) (l:=prd) (k:=2) (id:=0) (b:=bd1) (by kernel_rfl) (fun j=>match j with | 0=>Sd1 t t 0 | 1=>Sd1 t (pass1 t) 1 | 2=>Sd1 t (pass1 (pass1 t)) 2 | _=>Sd1 t (pass1 (pass1 (pass1 t))) 3) 3 (s1:=Sd1e t (pass1 (pass1 (pass1 t))))
  (fun j hj=>match j,hj with
   | 0,_=>roundO_ok (noPS_ok _) (red1_0 t t t) rfl
   | 1,_=>roundO_ok (noPS_ok _) (red1_1 t t (pass1 t)) rfl
   | 2,_=>roundO_ok (noPS_ok _) (red1_2 t t (pass1 (pass1 t))) rfl) (red1e t _) (by omega)
 have hC:=segO_ok (noPS_ok _) (red1x t (pass1 (pass1 (pass1 t)))) rfl
 have hD:=evS_loop (P:=Tryz.prog) (cs:=nr1) (nt:=99) (nn:=mask 94) (F:=100) (bs:=Tryz.prog.globals.size) (l:=prd) (k:=4) (id:=6) (b:=bd2) (by kernel_rfl) (fun j=>match j with | 0=>Sd2 t (pass1 (pass1 (pass1 t))) 0 | 1=>Sd2 t (pass3 (pass1 (pass1 (pass1 t)))) 1 | 2=>Sd2 t (pass3 (pass3 (pass1 (pass1 (pass1 t))))) 2 | _=>Sd2 t (passes t) 3) 3 (s1:=Sd2e t (passes t))
  (fun j hj=>match j,hj with
   | 0,_=>roundO_ok (noPS_ok _) (red2_0 t (pass1 (pass1 (pass1 t))) (pass1 (pass1 (pass1 t)))) rfl
   | 1,_=>roundO_ok (noPS_ok _) (red2_1 t (pass1 (pass1 (pass1 t))) (pass3 (pass1 (pass1 (pass1 t))))) rfl
   | 2,_=>roundO_ok (noPS_ok _) (red2_2 t (pass1 (pass1 (pass1 t))) (pass3 (pass3 (pass1 (pass1 (pass1 t)))))) rfl) (red2e t _) (by omega)
 have hB':evS Tryz.prog nr1 99 (mask 94) 100 Tryz.prog.globals.size (prd.drop 2) (Sd1 t t 0)=evS Tryz.prog nr1 99 (mask 94) 100 Tryz.prog.globals.size (prd.drop 3) (Sd1e t (pass1 (pass1 (pass1 t)))):=hB
 have hD':evS Tryz.prog nr1 99 (mask 94) 100 Tryz.prog.globals.size (prd.drop 4) (Sd2 t (pass1 (pass1 (pass1 t))) 0)=evS Tryz.prog nr1 99 (mask 94) 100 Tryz.prog.globals.size (prd.drop 5) (Sd2e t (passes t)):=hD
 rw [hB',hC,hD']
 exact red3 t (passes t) (redN_less t hb)
def p94:List AVal→Option (EffA × Bool)
 | [.agg [.u64 a0,.u64 a1,.u64 a2,.u64 a3,.u64 a4,.u64 a5,.u64 a6,.u64 a7,.u64 a8,.u64 a9,.u64 a10,.u64 a11,.u64 a12,.u64 a13,.u64 a14,.u64 a15,.u64 a16,.u64 a17,.u64 a18,.u64 a19,.u64 a20,.u64 a21,.u64 a22,.u64 a23,.u64 a24,.u64 a25,.u64 a26,.u64 a27,.u64 a28,.u64 a29,.u64 a30,.u64 a31]]=>some (.pure (redN (N32.mk (N16.mk a0 a1 a2 a3 a4 a5 a6 a7 a8 a9 a10 a11 a12 a13 a14 a15) (N16.mk a16 a17 a18 a19 a20 a21 a22 a23 a24 a25 a26 a27 a28 a29 a30 a31))).av,bndL (N32.mk (N16.mk a0 a1 a2 a3 a4 a5 a6 a7 a8 a9 a10 a11 a12 a13 a14 a15) (N16.mk a16 a17 a18 a19 a20 a21 a22 a23 a24 a25 a26 a27 a28 a29 a30 a31)).list)
 | _=>none
theorem p94_ok:CSOk Tryz.prog (csP (psOne 94 p94)):=csP_one fun args v he=>by
 unfold p94 at he
 split at he
 ·rename_i a0 a1 a2 a3 a4 a5 a6 a7 a8 a9 a10 a11 a12 a13 a14 a15 a16 a17 a18 a19 a20 a21 a22 a23 a24 a25 a26 a27 a28 a29 a30 a31
  simp only [Option.some.injEq,Prod.mk.injEq] at he
  obtain ⟨rfl,h⟩:=he
  exact callOk_val nr1_ok hmix (run94 (N32.mk (N16.mk a0 a1 a2 a3 a4 a5 a6 a7 a8 a9 a10 a11 a12 a13 a14 a15) (N16.mk a16 a17 a18 a19 a20 a21 a22 a23 a24 a25 a26 a27 a28 a29 a30 a31)) h) rfl rfl
 ·cases he
def nr2:CS:=csAlt (csP (psOne 94 p94)) nr1
theorem nr2_ok:CSOk Tryz.prog nr2:=csAlt_ok p94_ok nr1_ok
theorem nr2_ps:PSOk (psOne 94 p94) nr2:=csP_ok
end Go.Proofs.YtlchjbidkdokmaaGreatDoor
namespace Go.Proofs.YtlchjbidkdokmaaGreatDoor
open Go Go.Eng Go.Num
theorem run59 (a:UInt32):(run1 Tryz.prog nr1 (mask 59) 100 59 [(.u32 a)] [] Tryz.prog.globals.size).map (·.1)=some (N16.av (smallN a)):=by kernel_rfl
def g59:List AVal→Option EffA
 | [.u32 a]=>some (.pure (N16.av (smallN a)))
 | _=>none
theorem g59_ok:CSOk Tryz.prog (csOne 59 g59):=csOne_ok fun args e he=>by
 unfold g59 at he
 split at he
 ·rename_i a
  cases he
  exact callOk_val nr1_ok hmix (run59 a) rfl rfl
 ·cases he
theorem run58t (a0 a1 a2 a3 a4 a5 a6 a7 a8 a9 a10 a11 a12 a13 a14 a15 a16 a17 a18 a19 a20 a21 a22 a23 a24 a25 a26 a27 a28 a29 a30 a31:UInt8):(run1 Tryz.prog nr2 (mask 58) 100 58 [.str [a0,a1,a2,a3,a4,a5,a6,a7,a8,a9,a10,a11,a12,a13,a14,a15,a16,a17,a18,a19,a20,a21,a22,a23,a24,a25,a26,a27,a28,a29,a30,a31]] [] Tryz.prog.globals.size).map (·.1)=some (ofP [a0,a1,a2,a3,a4,a5,a6,a7,a8,a9,a10,a11,a12,a13,a14,a15,a16,a17,a18,a19,a20,a21,a22,a23,a24,a25,a26,a27,a28,a29,a30,a31]).av:=
 ansO_run nr2_ps (P:=Tryz.prog) (cs:=nr2) (sy:=[6]) (os:=[]) (vs:=[]) (nn:=mask 58) (F:=100) (f:=58) (ob:=[bndL (wideN (partsN [a0,a1,a2,a3,a4,a5,a6,a7,a8,a9,a10,a11,a12,a13,a14,a15,a16,a17,a18,a19,a20,a21,a22,a23,a24,a25,a26,a27,a28,a29,a30,a31])).list]) (show ansO (run1O Tryz.prog (psOne 94 p94) nr2 [6] [] [] (mask 58) 100 58 [.str [a0,a1,a2,a3,a4,a5,a6,a7,a8,a9,a10,a11,a12,a13,a14,a15,a16,a17,a18,a19,a20,a21,a22,a23,a24,a25,a26,a27,a28,a29,a30,a31]] [] Tryz.prog.globals.size)=some ((ofP [a0,a1,a2,a3,a4,a5,a6,a7,a8,a9,a10,a11,a12,a13,a14,a15,a16,a17,a18,a19,a20,a21,a22,a23,a24,a25,a26,a27,a28,a29,a30,a31]).av,[bndL (wideN (partsN [a0,a1,a2,a3,a4,a5,a6,a7,a8,a9,a10,a11,a12,a13,a14,a15,a16,a17,a18,a19,a20,a21,a22,a23,a24,a25,a26,a27,a28,a29,a30,a31])).list]) from by kernel_rfl) (by rw [ofP_bnd (s:=[a0,a1,a2,a3,a4,a5,a6,a7,a8,a9,a10,a11,a12,a13,a14,a15,a16,a17,a18,a19,a20,a21,a22,a23,a24,a25,a26,a27,a28,a29,a30,a31]) rfl]; rfl)
theorem run58 (s:List UInt8) (h:isLen s 32=true):(run1 Tryz.prog nr2 (mask 58) 100 58 [.str s] [] Tryz.prog.globals.size).map (·.1)=some (ofP s).av:=by
 obtain ⟨a0,a1,a2,a3,a4,a5,a6,a7,a8,a9,a10,a11,a12,a13,a14,a15,a16,a17,a18,a19,a20,a21,a22,a23,a24,a25,a26,a27,a28,a29,a30,a31,rfl⟩:=len32 (isLen_eq.1 h)
 exact run58t a0 a1 a2 a3 a4 a5 a6 a7 a8 a9 a10 a11 a12 a13 a14 a15 a16 a17 a18 a19 a20 a21 a22 a23 a24 a25 a26 a27 a28 a29 a30 a31
def p58:List AVal→Option (EffA × Bool)
 | [.str a]=>some (.pure ((ofP a).av),isLen a 32)
 | _=>none
theorem p58_ok:CSOk Tryz.prog (csP (psOne 58 p58)):=csP_one fun args v he=>by
 unfold p58 at he
 split at he
 ·rename_i a
  simp only [Option.some.injEq,Prod.mk.injEq] at he
  obtain ⟨rfl,h⟩:=he
  exact callOk_val nr2_ok hmix (run58 a h) rfl rfl
 ·cases he
theorem run60 (a b:N16) (h:(okB a && okB b)=true):(run1 Tryz.prog nr2 (mask 60) 200 60 [a.av,b.av] [] Tryz.prog.globals.size).map (·.1)=some (addP a b).av:=by
 rw [Bool.and_eq_true,okB_iff,okB_iff] at h
 exact ansO_run nr2_ps (P:=Tryz.prog) (cs:=nr2) (sy:=[23]) (os:=[]) (vs:=[]) (nn:=mask 60) (F:=200) (f:=60) (ob:=[bndL (N32.list ⟨N16.ofL (sumL a.list b.list),zeroN⟩)]) (show ansO (run1O Tryz.prog (psOne 94 p94) nr2 [23] [] [] (mask 60) 200 60 [a.av,b.av] [] Tryz.prog.globals.size)=some ((addP a b).av,[bndL (N32.list ⟨N16.ofL (sumL a.list b.list),zeroN⟩)]) from by kernel_rfl) (by rw [(addP_bnd a b h.1 h.2).1]; rfl)
def p60:List AVal→Option (EffA × Bool)
 | [.agg [.u64 a0,.u64 a1,.u64 a2,.u64 a3,.u64 a4,.u64 a5,.u64 a6,.u64 a7,.u64 a8,.u64 a9,.u64 a10,.u64 a11,.u64 a12,.u64 a13,.u64 a14,.u64 a15],.agg [.u64 b0,.u64 b1,.u64 b2,.u64 b3,.u64 b4,.u64 b5,.u64 b6,.u64 b7,.u64 b8,.u64 b9,.u64 b10,.u64 b11,.u64 b12,.u64 b13,.u64 b14,.u64 b15]]=>some (.pure ((addP (N16.mk a0 a1 a2 a3 a4 a5 a6 a7 a8 a9 a10 a11 a12 a13 a14 a15) (N16.mk b0 b1 b2 b3 b4 b5 b6 b7 b8 b9 b10 b11 b12 b13 b14 b15)).av),okB (N16.mk a0 a1 a2 a3 a4 a5 a6 a7 a8 a9 a10 a11 a12 a13 a14 a15) && okB (N16.mk b0 b1 b2 b3 b4 b5 b6 b7 b8 b9 b10 b11 b12 b13 b14 b15))
 | _=>none
theorem p60_ok:CSOk Tryz.prog (csP (psOne 60 p60)):=csP_one fun args v he=>by
 unfold p60 at he
 split at he
 ·rename_i a0 a1 a2 a3 a4 a5 a6 a7 a8 a9 a10 a11 a12 a13 a14 a15 b0 b1 b2 b3 b4 b5 b6 b7 b8 b9 b10 b11 b12 b13 b14 b15
  simp only [Option.some.injEq,Prod.mk.injEq] at he
  obtain ⟨rfl,h⟩:=he
  exact callOk_val nr2_ok hmix (run60 (N16.mk a0 a1 a2 a3 a4 a5 a6 a7 a8 a9 a10 a11 a12 a13 a14 a15) (N16.mk b0 b1 b2 b3 b4 b5 b6 b7 b8 b9 b10 b11 b12 b13 b14 b15) h) rfl rfl
 ·cases he
theorem run61 (a b:N16) (h:(okB a && okB b)=true):(run1 Tryz.prog nr2 (mask 61) 200 61 [a.av,b.av] [] Tryz.prog.globals.size).map (·.1)=some (mulP a b).av:=by
 rw [Bool.and_eq_true,okB_iff,okB_iff] at h
 exact ansO_run nr2_ps (P:=Tryz.prog) (cs:=nr2) (sy:=[34]) (os:=[]) (vs:=[]) (nn:=mask 61) (F:=200) (f:=61) (ob:=[bndL (prodT a b).list]) (show ansO (run1O Tryz.prog (psOne 94 p94) nr2 [34] [] [] (mask 61) 200 61 [a.av,b.av] [] Tryz.prog.globals.size)=some ((mulP a b).av,[bndL (prodT a b).list]) from by kernel_rfl) (by rw [(mulP_bnd a b h.1 h.2).1]; rfl)
def p61:List AVal→Option (EffA × Bool)
 | [.agg [.u64 a0,.u64 a1,.u64 a2,.u64 a3,.u64 a4,.u64 a5,.u64 a6,.u64 a7,.u64 a8,.u64 a9,.u64 a10,.u64 a11,.u64 a12,.u64 a13,.u64 a14,.u64 a15],.agg [.u64 b0,.u64 b1,.u64 b2,.u64 b3,.u64 b4,.u64 b5,.u64 b6,.u64 b7,.u64 b8,.u64 b9,.u64 b10,.u64 b11,.u64 b12,.u64 b13,.u64 b14,.u64 b15]]=>some (.pure ((mulP (N16.mk a0 a1 a2 a3 a4 a5 a6 a7 a8 a9 a10 a11 a12 a13 a14 a15) (N16.mk b0 b1 b2 b3 b4 b5 b6 b7 b8 b9 b10 b11 b12 b13 b14 b15)).av),okB (N16.mk a0 a1 a2 a3 a4 a5 a6 a7 a8 a9 a10 a11 a12 a13 a14 a15) && okB (N16.mk b0 b1 b2 b3 b4 b5 b6 b7 b8 b9 b10 b11 b12 b13 b14 b15))
 | _=>none
theorem p61_ok:CSOk Tryz.prog (csP (psOne 61 p61)):=csP_one fun args v he=>by
 unfold p61 at he
 split at he
 ·rename_i a0 a1 a2 a3 a4 a5 a6 a7 a8 a9 a10 a11 a12 a13 a14 a15 b0 b1 b2 b3 b4 b5 b6 b7 b8 b9 b10 b11 b12 b13 b14 b15
  simp only [Option.some.injEq,Prod.mk.injEq] at he
  obtain ⟨rfl,h⟩:=he
  exact callOk_val nr2_ok hmix (run61 (N16.mk a0 a1 a2 a3 a4 a5 a6 a7 a8 a9 a10 a11 a12 a13 a14 a15) (N16.mk b0 b1 b2 b3 b4 b5 b6 b7 b8 b9 b10 b11 b12 b13 b14 b15) h) rfl rfl
 ·cases he
theorem run97 (a:N16):(run1 Tryz.prog nr2 (mask 97) 100 97 [a.av] [] Tryz.prog.globals.size).map (·.1)=some (negP a).av:=by
 cases h:isZ16 a
 ·have e:negP a=minusN primeN a:=by simp only [negP,h,cond_false]
  rw [e]
  exact ansO_run (noPS_ok _) (P:=Tryz.prog) (cs:=nr2) (sy:=[5]) (os:=[false]) (vs:=[]) (nn:=mask 97) (F:=100) (f:=97) (ob:=[!isZ16 a]) (show ansO (run1O Tryz.prog noPS nr2 [5] [false] [] (mask 97) 100 97 [a.av] [] Tryz.prog.globals.size)=some ((minusN primeN a).av,[!isZ16 a]) from by kernel_rfl) (by simp [allT,h])
 ·have e:negP a=a:=by simp only [negP,h,cond_true]
  rw [e]
  exact ansO_run (noPS_ok _) (P:=Tryz.prog) (cs:=nr2) (sy:=[5]) (os:=[true]) (vs:=[]) (nn:=mask 97) (F:=100) (f:=97) (ob:=[isZ16 a]) (show ansO (run1O Tryz.prog noPS nr2 [5] [true] [] (mask 97) 100 97 [a.av] [] Tryz.prog.globals.size)=some (a.av,[isZ16 a]) from by kernel_rfl) (by simp [allT,h])
def g97:List AVal→Option EffA
 | [.agg [.u64 a0,.u64 a1,.u64 a2,.u64 a3,.u64 a4,.u64 a5,.u64 a6,.u64 a7,.u64 a8,.u64 a9,.u64 a10,.u64 a11,.u64 a12,.u64 a13,.u64 a14,.u64 a15]]=>some (.pure (N16.av (negP (N16.mk a0 a1 a2 a3 a4 a5 a6 a7 a8 a9 a10 a11 a12 a13 a14 a15))))
 | _=>none
theorem g97_ok:CSOk Tryz.prog (csOne 97 g97):=csOne_ok fun args e he=>by
 unfold g97 at he
 split at he
 ·rename_i a0 a1 a2 a3 a4 a5 a6 a7 a8 a9 a10 a11 a12 a13 a14 a15
  cases he
  exact callOk_val nr2_ok hmix (run97 (N16.mk a0 a1 a2 a3 a4 a5 a6 a7 a8 a9 a10 a11 a12 a13 a14 a15)) rfl rfl
 ·cases he
def np1:PS:=psAlt (psOne 60 p60) (psAlt (psOne 61 p61) (psOne 58 p58))
theorem np1_ok:CSOk Tryz.prog (csP np1):=csP_alt p60_ok (csP_alt p61_ok (p58_ok))
def nr3a:CS:=(csAlt (csOne 59 g59) (csAlt (csOne 97 g97) nr2))
theorem nr3a_ok:CSOk Tryz.prog nr3a:=(csAlt_ok g59_ok (csAlt_ok g97_ok nr2_ok))
def nr3:CS:=csAlt (csP np1) nr3a
theorem nr3_ok:CSOk Tryz.prog nr3:=csAlt_ok np1_ok nr3a_ok
theorem nr3_ps:PSOk np1 nr3:=csP_ok
theorem run62 (a b:N16) (h:(okB a && okB b)=true):(run1 Tryz.prog nr3 (mask 62) 200 62 [a.av,b.av] [] Tryz.prog.globals.size).map (·.1)=some (subP a b).av:=by
 rw [Bool.and_eq_true,okB_iff,okB_iff] at h
 exact ansO_run nr3_ps (P:=Tryz.prog) (cs:=nr3) (sy:=[8]) (os:=[]) (vs:=[]) (nn:=mask 62) (F:=200) (f:=62) (ob:=[okB a && okB (negP b)]) (show ansO (run1O Tryz.prog np1 nr3 [8] [] [] (mask 62) 200 62 [a.av,b.av] [] Tryz.prog.globals.size)=some ((subP a b).av,[okB a && okB (negP b)]) from by kernel_rfl) (by rw [okB_iff.2 h.1,okB_iff.2 (negP_ok b h.2)]; rfl)
def p62:List AVal→Option (EffA × Bool)
 | [.agg [.u64 a0,.u64 a1,.u64 a2,.u64 a3,.u64 a4,.u64 a5,.u64 a6,.u64 a7,.u64 a8,.u64 a9,.u64 a10,.u64 a11,.u64 a12,.u64 a13,.u64 a14,.u64 a15],.agg [.u64 b0,.u64 b1,.u64 b2,.u64 b3,.u64 b4,.u64 b5,.u64 b6,.u64 b7,.u64 b8,.u64 b9,.u64 b10,.u64 b11,.u64 b12,.u64 b13,.u64 b14,.u64 b15]]=>some (.pure ((subP (N16.mk a0 a1 a2 a3 a4 a5 a6 a7 a8 a9 a10 a11 a12 a13 a14 a15) (N16.mk b0 b1 b2 b3 b4 b5 b6 b7 b8 b9 b10 b11 b12 b13 b14 b15)).av),okB (N16.mk a0 a1 a2 a3 a4 a5 a6 a7 a8 a9 a10 a11 a12 a13 a14 a15) && okB (N16.mk b0 b1 b2 b3 b4 b5 b6 b7 b8 b9 b10 b11 b12 b13 b14 b15))
 | _=>none
theorem p62_ok:CSOk Tryz.prog (csP (psOne 62 p62)):=csP_one fun args v he=>by
 unfold p62 at he
 split at he
 ·rename_i a0 a1 a2 a3 a4 a5 a6 a7 a8 a9 a10 a11 a12 a13 a14 a15 b0 b1 b2 b3 b4 b5 b6 b7 b8 b9 b10 b11 b12 b13 b14 b15
  simp only [Option.some.injEq,Prod.mk.injEq] at he
  obtain ⟨rfl,h⟩:=he
  exact callOk_val nr3_ok hmix (run62 (N16.mk a0 a1 a2 a3 a4 a5 a6 a7 a8 a9 a10 a11 a12 a13 a14 a15) (N16.mk b0 b1 b2 b3 b4 b5 b6 b7 b8 b9 b10 b11 b12 b13 b14 b15) h) rfl rfl
 ·cases he
def Spw (a x:N16) (bits:List Bool) (ro:Bool) (i:Int):SA:=⟨[(0,a.av),(1,.slice 5 0 bits.length 1),(2,.ptr 6 0),(4,.ptr 14 0),(5,.ptr 30 0),(6,.int .i64 i)],[(5,.cells ro (bits.map .bool)),(6,.cells false a.cells),(14,.cells false zeroN.cells),(30,.cells false x.cells)],54⟩
noncomputable def ppw:List Code:=pieces (bodyOf Tryz.f98)
noncomputable def bpw:Code:=loopOf (ppw.getD 3 .skip)
theorem powA (F:Nat) (a:N16) (bits:List Bool) (ro:Bool):segO (evSO Tryz.prog np1 nr3 [] 25 (mask 98) F 6 ((ppw.drop 0).take 3) ⟨startT [a.av,.slice 5 0 bits.length 1] 0,[(5,.cells ro (bits.map .bool))],6⟩ ⟨[],[],[]⟩)=some (Spw a (smallN 1) bits ro 0,[]):=by kernel_rfl
theorem powT (F:Nat) (a x0 x:N16) (bits:List Bool) (ro:Bool) (j i:Int):roundO2 Tryz.prog np1 nr3 [11,16,19,20,23] [true,true] [.bool true] 25 (mask 98) F 6 bpw (Spw a x0 bits ro j) (Spw a x bits ro i)=some (Spw a (mulP (mulP x x) a) bits ro (IntKind.wrap .i64 (i+1)),[okB (mulP x x) && okB a,true,isAt (bits.map .bool) (0+i.toNat * 1) (.bool true),(decide ((0:Int)≤i) && decide (i < (bits.length:Int))),okB x && okB x,decide (i < (bits.length:Int))]):=by kernel_rfl
theorem pow_ok (a x:N16) (bits:List Bool) (ro:Bool) (i:Int):okS Tryz.prog (Spw a x bits ro i)=true:=by
 have hg:Tryz.prog.globals.size=5:=by kernel_rfl
 simp [okS,hg,Spw,ltT,ltH,ltV,ltS,ltL,ltL_bool,N16.av,N16.cells,nble]
theorem powN (F:Nat) (a x0 x:N16) (bits:List Bool) (ro:Bool) (j i:Int):roundO2 Tryz.prog np1 nr3 [11,16,19,20,23] [true,false] [.bool false] 25 (mask 98) F 6 bpw (Spw a x0 bits ro j) (Spw a x bits ro i)=some (Spw a (mulP x x) bits ro (IntKind.wrap .i64 (i+1)),[true,isAt (bits.map .bool) (0+i.toNat * 1) (.bool false),(decide ((0:Int)≤i) && decide (i < (bits.length:Int))),okB x && okB x,decide (i < (bits.length:Int))]):=by kernel_rfl
theorem powR (F:Nat) (a x0 x:N16) (bits:List Bool) (ro:Bool) (j:Int) (i:Nat) (b:Bool) (hx:x.ok) (ha:a.ok) (hb:bits[i]? = some b) (hl:bits.length < 100000):roundA (evC Tryz.prog nr3 25 (mask 98) F 6 bpw) (headA Tryz.prog 6 (Spw a x0 bits ro j)) (Spw a x bits ro i)=some (Spw a (cond b (mulP (mulP x x) a) (mulP x x)) bits ro ((i+1:Nat):Int)):=by
 have hi:i < bits.length:=(List.getElem?_eq_some_iff.1 hb).1
 have hw:IntKind.wrap .i64 ((i:Int)+1)=((i+1:Nat):Int):=wrapI _ (by omega) (by omega)
 have h1:=okB_iff.2 hx
 have h2:=okB_iff.2 ha
 have h3:=okB_iff.2 (mulP_val x x hx hx).1
 have hat:∀ c,b=c→isAt (bits.map AVal.bool) (0+(i:Int).toNat * 1) (.bool c)=true:=fun c hc=>by
  subst hc
  have e:0+(i:Int).toNat * 1=i:=by omega
  unfold isAt
  rw [e,List.getElem?_map,hb]
  simp [eqS]
 have d1:decide ((0:Int)≤(i:Int))=true:=by rw [decide_eq_true_iff]; omega
 have d2:decide ((i:Int) < (bits.length:Int))=true:=by rw [decide_eq_true_iff]; omega
 cases b
 ·have:=roundO2_ok nr3_ps (powN F a x0 x bits ro j i) (by rw [hat false rfl,d1,d2,h1]; rfl) (pow_ok _ _ _ _ _)
  rw [hw] at this
  exact this
 ·have:=roundO2_ok nr3_ps (powT F a x0 x bits ro j i) (by rw [hat true rfl,d1,d2,h1,h2,h3]; rfl) (pow_ok _ _ _ _ _)
  rw [hw] at this
  exact this
theorem powE (F:Nat) (a x:N16) (bits:List Bool) (ro:Bool) (i:Int):(match evT Tryz.prog np1 nr3 [11] 25 (mask 98) F 6 bpw (Spw a x bits ro i) ⟨[false],[],[]⟩ with | some (.exit 0,s1,q)=>(match evS Tryz.prog nr3 25 (mask 98) F 6 (ppw.drop 4) s1 with | some (XA.ret,s2)=>(match resA Tryz.prog s2.T s2.H Tryz.f98.results.toList with | some [v]=>some (v,aget s2.H 5,q.ob) | _=>none) | _=>none) | _=>none)=some (x.av,some (.cells ro (bits.map .bool)),[!decide (i < (bits.length:Int))]):=by kernel_rfl
def accpw (a:N16) (bits:List Bool):Nat→N16
 | 0=>smallN 1
 | j+1=>cond (bits.getD j false) (mulP (mulP (accpw a bits j) (accpw a bits j)) a) (mulP (accpw a bits j) (accpw a bits j))
theorem accpw_eq (a:N16) (bits:List Bool):∀ j,j≤bits.length→powF a (accpw a bits j) (bits.drop j)=powP a bits
 | 0,_=>rfl
 | j+1,h=>by
  have:=accpw_eq a bits j (by omega)
  have hj:j < bits.length:=by omega
  rw [← this,List.drop_eq_getElem_cons hj]
  have e:bits[j]=bits.getD j false:=by rw [List.getD_eq_getElem?_getD,List.getElem?_eq_getElem hj]; rfl
  rw [e]; rfl
theorem accpw_ok (a:N16) (ha:a.ok) (bits:List Bool):∀ j,(accpw a bits j).ok
 | 0=>(smallN_val 1).1
 | j+1=>by
  have h1:=(mulP_val _ _ (accpw_ok a ha bits j) (accpw_ok a ha bits j)).1
  show (cond (bits.getD j false) (mulP (mulP (accpw a bits j) (accpw a bits j)) a) (mulP (accpw a bits j) (accpw a bits j))).ok
  cases bits.getD j false
  ·exact h1
  ·exact (mulP_val _ _ h1 ha).1
theorem run98 (a:N16) (ha:a.ok) (bits:List Bool) (hl:bits.length < 1000) (ro:Bool):∃ r,run1 Tryz.prog nr3 (mask 98) 1000 98 [a.av,.slice 5 0 bits.length 1] [(5,.cells ro (bits.map .bool))] 6=some r∧r.1=(powP a bits).av∧aget r.2.1 5=some (.cells ro (bits.map .bool)):=by
 have hx:accpw a bits bits.length=powP a bits:=by
  have:=accpw_eq a bits bits.length (Nat.le_refl _)
  rw [List.drop_length] at this
  exact this
 have he:=powE 1000 a (powP a bits) bits ro bits.length
 split at he
 ·rename_i s1 q h1
  split at he
  ·rename_i s2 h2
   split at he
   ·rename_i v h3
    simp only [Option.some.injEq,Prod.mk.injEq] at he
    obtain ⟨rfl,e2,e3⟩:=he
    have hA:=segO_ok nr3_ps (powA 1000 a bits ro) rfl
    rw [List.drop_zero] at hA
    have hB:=evS_loop (P:=Tryz.prog) (cs:=nr3) (nt:=25) (nn:=mask 98) (F:=1000) (bs:=6) (l:=ppw) (k:=3) (id:=0) (b:=bpw) (by kernel_rfl) (fun j=>Spw a (accpw a bits j) bits ro j) bits.length (s1:=s1)
     (fun j hj=>powR 1000 a _ _ bits ro _ j (bits.getD j false) (accpw_ok a ha bits j) ha (by rw [List.getD_eq_getElem?_getD,List.getElem?_eq_getElem hj]; rfl) (by omega))
     (by
      show evC Tryz.prog nr3 25 (mask 98) 1000 6 bpw (Spw a (accpw a bits bits.length) bits ro bits.length)=_
      rw [hx]
      exact (evT_ok nr3_ps _ _ _ _ _ _ h1 (by rw [e3]; simp [allT])).1) hl
    have hev:evS Tryz.prog nr3 Tryz.f98.ntmps (mask 98) 1000 6 (pieces (bodyOf Tryz.f98)) ⟨startT [a.av,.slice 5 0 bits.length 1] 0,[(5,.cells ro (bits.map .bool))],6⟩=some (XA.ret,s2):=by
     refine Eq.trans hA (Eq.trans hB ?_)
     exact h2
    refine ⟨_,run1_of (fn:=Tryz.f98) (c:=bodyOf Tryz.f98) (by kernel_rfl) (by kernel_rfl) (by kernel_rfl) hev rfl |>.trans (by rw [h3]),rfl,e2⟩
   ·cases he
  ·cases he
 ·cases he
def gbits (a:N16) (len:Nat) (c:List AVal):Option AVal:=
 match boolsA c with
 | some l=>cond (Nat.beq l.length len && Nat.ble l.length 999) (some (powP a l).av) none
 | none=>none
def p98:List AVal→Option (EffA × Bool)
 | [.agg [.u64 a0,.u64 a1,.u64 a2,.u64 a3,.u64 a4,.u64 a5,.u64 a6,.u64 a7,.u64 a8,.u64 a9,.u64 a10,.u64 a11,.u64 a12,.u64 a13,.u64 a14,.u64 a15],.slice n 0 len 1]=>some (.read n fun ob=>match ob with | .cells _ c=>cond (ltL 0 c) (match gbits (N16.mk a0 a1 a2 a3 a4 a5 a6 a7 a8 a9 a10 a11 a12 a13 a14 a15) len c with | some v=>cond (ltV 0 v) (some v) none | none=>none) none | .mp _=>none,okB (N16.mk a0 a1 a2 a3 a4 a5 a6 a7 a8 a9 a10 a11 a12 a13 a14 a15))
 | _=>none
theorem p98_ok:CSOk Tryz.prog (csP (psOne 98 p98)):=csP_one fun args v he=>by
 unfold p98 at he
 split at he
 ·rename_i a0 a1 a2 a3 a4 a5 a6 a7 a8 a9 a10 a11 a12 a13 a14 a15 n len
  simp only [Option.some.injEq,Prod.mk.injEq] at he
  obtain ⟨rfl,h⟩:=he
  refine callOk_slice (nn:=mask 98) (F:=1000) nr3_ok hmix rfl (fun s=>rfl) fun ro c v hg hv hc => ?_
  unfold gbits at hg
  split at hg
  ·rename_i l hl
   cases hb:(Nat.beq l.length len && Nat.ble l.length 999) with
   | false=>rw [hb] at hg; cases hg
   | true =>
    rw [hb] at hg
    cases hg
    simp only [Bool.and_eq_true] at hb
    obtain rfl:=Nat.eq_of_beq_eq_true hb.1
    have:=Nat.le_of_ble_eq_true hb.2
    rw [boolsA_eq hl]
    exact run98 (N16.mk a0 a1 a2 a3 a4 a5 a6 a7 a8 a9 a10 a11 a12 a13 a14 a15) (okB_iff.1 h) l (by omega) ro
  ·cases hg
 ·cases he
def np2:PS:=psAlt (psOne 62 p62) (psAlt (psOne 98 p98) (psAlt (psOne 60 p60) (psAlt (psOne 61 p61) (psOne 58 p58))))
theorem np2_ok:CSOk Tryz.prog (csP np2):=csP_alt p62_ok (csP_alt p98_ok (csP_alt p60_ok (csP_alt p61_ok (p58_ok))))
theorem run99_255:newR (run1 Tryz.prog nr1 (mask 99) 300 99 [.int .i64 255,.int .i64 21] [] Tryz.prog.globals.size)=some (21,255,1,(bitsL 255 21).map .bool):=by kernel_rfl
theorem run99_252:newR (run1 Tryz.prog nr1 (mask 99) 300 99 [.int .i64 252,.int .i64 2] [] Tryz.prog.globals.size)=some (21,252,1,(bitsL 252 2).map .bool):=by kernel_rfl
theorem run99_253:newR (run1 Tryz.prog nr1 (mask 99) 300 99 [.int .i64 253,.int .i64 5] [] Tryz.prog.globals.size)=some (21,253,1,(bitsL 253 5).map .bool):=by kernel_rfl
def g99:List AVal→Option EffA
 | [.int .i64 (.ofNat n),.int .i64 (.ofNat k)]=>cond (Nat.beq n 255 && Nat.beq k 21) (some (.alloc (.cells false ((bitsL 255 21).map .bool)) fun b=>.slice b 0 255 1)) (cond (Nat.beq n 252 && Nat.beq k 2) (some (.alloc (.cells false ((bitsL 252 2).map .bool)) fun b=>.slice b 0 252 1)) (cond (Nat.beq n 253 && Nat.beq k 5) (some (.alloc (.cells false ((bitsL 253 5).map .bool)) fun b=>.slice b 0 253 1)) none))
 | _=>none
theorem g99_ok:CSOk Tryz.prog (csOne 99 g99):=csOne_ok fun args e he=>by
 unfold g99 at he
 split at he
 ·rename_i n k
  cases h1:(Nat.beq n 255 && Nat.beq k 21) with
  | true =>
   rw [h1] at he
   cases he
   simp only [Bool.and_eq_true] at h1
   rw [Nat.eq_of_beq_eq_true h1.1,Nat.eq_of_beq_eq_true h1.2]
   exact callOk_new2 nr1_ok hmix rfl run99_255 (ltL_bool 0 _) (by kernel_rfl)
  | false =>
   rw [h1] at he
   cases h2:(Nat.beq n 252 && Nat.beq k 2) with
   | true =>
    rw [h2] at he
    cases he
    simp only [Bool.and_eq_true] at h2
    rw [Nat.eq_of_beq_eq_true h2.1,Nat.eq_of_beq_eq_true h2.2]
    exact callOk_new2 nr1_ok hmix rfl run99_252 (ltL_bool 0 _) (by kernel_rfl)
   | false =>
    rw [h2] at he
    cases h3:(Nat.beq n 253 && Nat.beq k 5) with
    | true =>
     rw [h3] at he
     cases he
     simp only [Bool.and_eq_true] at h3
     rw [Nat.eq_of_beq_eq_true h3.1,Nat.eq_of_beq_eq_true h3.2]
     exact callOk_new2 nr1_ok hmix rfl run99_253 (ltL_bool 0 _) (by kernel_rfl)
    | false=>rw [h3] at he; cases he
 ·cases he
def nr3b:CS:=(csAlt (csOne 99 g99) nr3a)
theorem nr3b_ok:CSOk Tryz.prog nr3b:=(csAlt_ok g99_ok nr3a_ok)
def nr4:CS:=csAlt (csP np2) nr3b
theorem nr4_ok:CSOk Tryz.prog nr4:=csAlt_ok np2_ok nr3b_ok
theorem nr4_ps:PSOk np2 nr4:=csP_ok
end Go.Proofs.YtlchjbidkdokmaaGreatDoor
namespace Go.Proofs.YtlchjbidkdokmaaGreatDoor
open Go Go.Eng Go.Num
theorem run63 (a:N16) (h:okB a=true):(run1 Tryz.prog nr4 (mask 63) 300 63 [a.av] [] Tryz.prog.globals.size).map (·.1)=some (invP a).av:=
 ansO_run nr4_ps (P:=Tryz.prog) (cs:=nr4) (sy:=[5]) (os:=[]) (vs:=[]) (nn:=mask 63) (F:=300) (f:=63) (ob:=[okB a]) (show ansO (run1O Tryz.prog np2 nr4 [5] [] [] (mask 63) 300 63 [a.av] [] Tryz.prog.globals.size)=some ((invP a).av,[okB a]) from by kernel_rfl) (by rw [h]; rfl)
def p63:List AVal→Option (EffA × Bool)
 | [.agg [.u64 a0,.u64 a1,.u64 a2,.u64 a3,.u64 a4,.u64 a5,.u64 a6,.u64 a7,.u64 a8,.u64 a9,.u64 a10,.u64 a11,.u64 a12,.u64 a13,.u64 a14,.u64 a15]]=>some (.pure ((invP (N16.mk a0 a1 a2 a3 a4 a5 a6 a7 a8 a9 a10 a11 a12 a13 a14 a15)).av),okB (N16.mk a0 a1 a2 a3 a4 a5 a6 a7 a8 a9 a10 a11 a12 a13 a14 a15))
 | _=>none
theorem p63_ok:CSOk Tryz.prog (csP (psOne 63 p63)):=csP_one fun args v he=>by
 unfold p63 at he
 split at he
 ·rename_i a0 a1 a2 a3 a4 a5 a6 a7 a8 a9 a10 a11 a12 a13 a14 a15
  simp only [Option.some.injEq,Prod.mk.injEq] at he
  obtain ⟨rfl,h⟩:=he
  exact callOk_val nr4_ok hmix (run63 (N16.mk a0 a1 a2 a3 a4 a5 a6 a7 a8 a9 a10 a11 a12 a13 a14 a15) h) rfl rfl
 ·cases he
end Go.Proofs.YtlchjbidkdokmaaGreatDoor
namespace Go.Num
open Go Go.Eng
def E5.val (a:E5):Nat:=a.x0.toNat+2251799813685248 * a.x1.toNat+5070602400912917605986812821504 * a.x2.toNat+11417981541647679048466287755595961091061972992 * a.x3.toNat+25711008708143844408671393477458601640355247900524685364822016 * a.x4.toNat
def E5.ok (a:E5):Prop:=a.x0.toNat < 2251799813947392∧a.x1.toNat < 2251799813947392∧a.x2.toNat < 2251799813947392∧a.x3.toNat < 2251799813947392∧a.x4.toNat < 2251799813947392
theorem and51 (x:UInt64):(x &&& m51).toNat=x.toNat % 2251799813685248:=and_nat x 51 _ rfl
theorem shr51 (x:UInt64):(shr_u64 x 51).toNat=x.toNat / 2251799813685248:=shr_u64_nat x 51 (by omega)
theorem low_plus (x y:UInt64):((x &&& m51)+shr_u64 y 51).toNat=x.toNat % 2251799813685248+y.toNat / 2251799813685248:=by
 have hy:=y.toNat_lt
 rw [UInt64.toNat_add,and51,shr51]
 simp only [Nat.reducePow] at *
 omega
theorem n19:(19:UInt64).toNat=19:=rfl
theorem low_plus19 (x y:UInt64):((x &&& m51)+19 * shr_u64 y 51).toNat=x.toNat % 2251799813685248+19 * (y.toNat / 2251799813685248):=by
 have hy:=y.toNat_lt
 rw [UInt64.toNat_add,UInt64.toNat_mul,and51,shr51,n19]
 simp only [Nat.reducePow] at *
 omega
theorem carried_val (a:E5):(carriedE a).ok∧(carriedE a).val+Pq * (a.x4.toNat / 2251799813685248)=a.val:=by
 have h0:=a.x0.toNat_lt; have h1:=a.x1.toNat_lt; have h2:=a.x2.toNat_lt; have h3:=a.x3.toNat_lt; have h4:=a.x4.toNat_lt
 simp only [Nat.reducePow] at h0 h1 h2 h3 h4
 have e0:=low_plus19 a.x0 a.x4
 have e1:=low_plus a.x1 a.x0
 have e2:=low_plus a.x2 a.x1
 have e3:=low_plus a.x3 a.x2
 have e4:=low_plus a.x4 a.x3
 unfold E5.ok E5.val carriedE Pq
 simp only [e0,e1,e2,e3,e4]
 omega
theorem carried_ok (a:E5):(carriedE a).ok:=(carried_val a).1
theorem carried_mod (a:E5):(carriedE a).val % Pq=a.val % Pq:=by
 rw [← (carried_val a).2,Nat.add_mul_mod_self_left]
theorem add_nat (x y:UInt64) (h:x.toNat+y.toNat < 18446744073709551616):(x+y).toNat=x.toNat+y.toNat:=by
 rw [UInt64.toNat_add]
 exact Nat.mod_eq_of_lt h
theorem addE_val (a b:E5) (ha:a.ok) (hb:b.ok):(addE a b).ok∧(addE a b).val % Pq=(a.val+b.val) % Pq:=by
 refine ⟨carried_ok _,?_⟩
 unfold addE
 rw [carried_mod]
 unfold E5.ok at ha hb
 have e:E5.val ⟨a.x0+b.x0,a.x1+b.x1,a.x2+b.x2,a.x3+b.x3,a.x4+b.x4⟩=a.val+b.val:=by
  unfold E5.val
  rw [add_nat a.x0 b.x0 (by omega),add_nat a.x1 b.x1 (by omega),add_nat a.x2 b.x2 (by omega),add_nat a.x3 b.x3 (by omega),add_nat a.x4 b.x4 (by omega)]
  omega
 rw [e]
theorem sub_nat (x k y:UInt64) (h1:x.toNat+k.toNat < 18446744073709551616) (h2:y.toNat≤k.toNat):(x+k - y).toNat=x.toNat+k.toNat - y.toNat:=by
 rw [UInt64.toNat_sub,UInt64.toNat_add]
 simp only [Nat.reducePow]
 omega
theorem k0_nat:(4503599627370458:UInt64).toNat=4503599627370458:=rfl
theorem k1_nat:(4503599627370494:UInt64).toNat=4503599627370494:=rfl
theorem subE_val (a b:E5) (ha:a.ok) (hb:b.ok):(subE a b).ok∧(subE a b).val % Pq=(a.val+(2 * Pq - b.val)) % Pq∧b.val≤2 * Pq:=by
 unfold E5.ok at ha hb
 have hle:b.val≤2 * Pq:=by unfold E5.val Pq; omega
 refine ⟨carried_ok _,?_,hle⟩
 unfold subE
 rw [carried_mod]
 have e:E5.val ⟨a.x0+4503599627370458 - b.x0,a.x1+4503599627370494 - b.x1,a.x2+4503599627370494 - b.x2,a.x3+4503599627370494 - b.x3,a.x4+4503599627370494 - b.x4⟩=a.val+(2 * Pq - b.val):=by
  have hl:=hle
  unfold E5.val Pq at *
  rw [sub_nat a.x0 _ b.x0 (by rw [k0_nat]; omega) (by rw [k0_nat]; omega),sub_nat a.x1 _ b.x1 (by rw [k1_nat]; omega) (by rw [k1_nat]; omega),sub_nat a.x2 _ b.x2 (by rw [k1_nat]; omega) (by rw [k1_nat]; omega),sub_nat a.x3 _ b.x3 (by rw [k1_nat]; omega) (by rw [k1_nat]; omega),sub_nat a.x4 _ b.x4 (by rw [k1_nat]; omega) (by rw [k1_nat]; omega),k0_nat,k1_nat]
  omega
 rw [e]
def Wd.val (w:Wd):Nat:=18446744073709551616 * w.hi.toNat+w.lo.toNat
theorem plus_val (w:Wd) (a b:UInt64) (h:w.val+a.toNat * b.toNat < 340282366920938463463374607431768211456):(plusE w a b).val=w.val+a.toNat * b.toNat:=by
 have hm:=mulHi_nat a b
 have hs:=addStep w.lo (a * b) false
 have hz:bn false=0:=rfl
 have hc:=bn_le (cyO w.lo (a * b) false)
 have hl:=w.lo.toNat_lt
 have hh:=w.hi.toNat_lt
 have hl2:=(w.lo+a * b+bit64 false).toNat_lt
 unfold Wd.val plusE at *
 simp only
 rw [UInt64.toNat_add,UInt64.toNat_add,bit64_nat]
 generalize a.toNat * b.toNat=p at *
 simp only [Nat.reducePow] at *
 omega
theorem shift_val (w:Wd) (h:w.val < 41538374868278621028243970633760768):(shiftE w).toNat=w.val / 2251799813685248:=by
 have hl:=w.lo.toNat_lt
 have hh:=w.hi.toNat_lt
 unfold shiftE
 rw [UInt64.toNat_or,shl_u64_nat _ 13 (by omega),shr51]
 unfold Wd.val at *
 simp only [Nat.reducePow] at *
 have h1:w.hi.toNat * 8192 % 18446744073709551616=w.hi.toNat * 8192:=Nat.mod_eq_of_lt (by omega)
 rw [h1]
 have h2:w.lo.toNat / 2251799813685248 < 2 ^ 13:=by simp only [Nat.reducePow]; omega
 have:=Nat.shiftLeft_add_eq_or_of_lt h2 w.hi.toNat
 rw [Nat.shiftLeft_eq] at this
 simp only [Nat.reducePow] at this
 rw [← this]
 omega
theorem lo_val (w:Wd):(w.lo &&& m51).toNat=w.val % 2251799813685248:=by
 rw [and51]
 unfold Wd.val
 have:18446744073709551616 * w.hi.toNat=2251799813685248 * (8192 * w.hi.toNat):=by omega
 omega
theorem mul19 (y:UInt64) (h:y.toNat < 2251799813947392):(19 * y).toNat=19 * y.toNat:=by
 rw [UInt64.toNat_mul,n19]
 simp only [Nat.reducePow]
 omega
theorem prod_le {x y B C:Nat}(hx:x≤B) (hy:y≤C):x * y≤B * C:=Nat.mul_le_mul hx hy
theorem five_val (w:Wd) (a0 a1 a2 a3 a4 b0 b1 b2 b3 b4:UInt64) (hw:w.val=0) (h0:a0.toNat * b0.toNat≤96342400000000000000000000000000) (h1:a1.toNat * b1.toNat≤96342400000000000000000000000000) (h2:a2.toNat * b2.toNat≤96342400000000000000000000000000) (h3:a3.toNat * b3.toNat≤96342400000000000000000000000000) (h4:a4.toNat * b4.toNat≤96342400000000000000000000000000) :
  (plusE (plusE (plusE (plusE (plusE w a0 b0) a1 b1) a2 b2) a3 b3) a4 b4).val=a0.toNat * b0.toNat+a1.toNat * b1.toNat+a2.toNat * b2.toNat+a3.toNat * b3.toNat+a4.toNat * b4.toNat:=by
 have e0:=plus_val w a0 b0 (by omega)
 have e1:=plus_val (plusE w a0 b0) a1 b1 (by omega)
 have e2:=plus_val (plusE (plusE w a0 b0) a1 b1) a2 b2 (by omega)
 have e3:=plus_val (plusE (plusE (plusE w a0 b0) a1 b1) a2 b2) a3 b3 (by omega)
 have e4:=plus_val (plusE (plusE (plusE (plusE w a0 b0) a1 b1) a2 b2) a3 b3) a4 b4 (by omega)
 omega
theorem mulE_val (a b:E5) (ha:a.ok) (hb:b.ok):(mulE a b).ok∧(mulE a b).val % Pq=a.val * b.val % Pq:=by
 refine ⟨carried_ok _,?_⟩
 unfold E5.ok at ha hb
 obtain ⟨a0,a1,a2,a3,a4⟩:=a
 obtain ⟨b0,b1,b2,b3,b4⟩:=b
 simp only at ha hb
 obtain ⟨ha0,ha1,ha2,ha3,ha4⟩:=ha
 obtain ⟨hb0,hb1,hb2,hb3,hb4⟩:=hb
 have hp:∀ x y:UInt64,x.toNat < 2251799813947392→y.toNat < 2251799813947392→x.toNat * y.toNat≤96342400000000000000000000000000:=fun x y hx hy=>Nat.le_trans (prod_le (Nat.le_of_lt hx) (Nat.le_of_lt hy)) (by omega)
 have hq:∀ x y:UInt64,x.toNat < 2251799813947392→y.toNat < 2251799813947392→x.toNat * (19 * y).toNat≤96342400000000000000000000000000∧x.toNat * (19 * y).toNat=19 * (x.toNat * y.toNat):=fun x y hx hy=>by
  rw [mul19 y hy]
  refine ⟨Nat.le_trans (prod_le (Nat.le_of_lt hx) (Nat.mul_le_mul_left 19 (Nat.le_of_lt hy))) (by omega),?_⟩
  rw [Nat.mul_left_comm]
 have hz:zeroWd.val=0:=rfl
 have w0:=five_val zeroWd a0 a1 a2 a3 a4 b0 (19 * b4) (19 * b3) (19 * b2) (19 * b1) hz (hp _ _ ha0 hb0) (hq _ _ ha1 hb4).1 (hq _ _ ha2 hb3).1 (hq _ _ ha3 hb2).1 (hq _ _ ha4 hb1).1
 have w1:=five_val zeroWd a0 a1 a2 a3 a4 b1 b0 (19 * b4) (19 * b3) (19 * b2) hz (hp _ _ ha0 hb1) (hp _ _ ha1 hb0) (hq _ _ ha2 hb4).1 (hq _ _ ha3 hb3).1 (hq _ _ ha4 hb2).1
 have w2:=five_val zeroWd a0 a1 a2 a3 a4 b2 b1 b0 (19 * b4) (19 * b3) hz (hp _ _ ha0 hb2) (hp _ _ ha1 hb1) (hp _ _ ha2 hb0) (hq _ _ ha3 hb4).1 (hq _ _ ha4 hb3).1
 have w3:=five_val zeroWd a0 a1 a2 a3 a4 b3 b2 b1 b0 (19 * b4) hz (hp _ _ ha0 hb3) (hp _ _ ha1 hb2) (hp _ _ ha2 hb1) (hp _ _ ha3 hb0) (hq _ _ ha4 hb4).1
 have w4:=five_val zeroWd a0 a1 a2 a3 a4 b4 b3 b2 b1 b0 hz (hp _ _ ha0 hb4) (hp _ _ ha1 hb3) (hp _ _ ha2 hb2) (hp _ _ ha3 hb1) (hp _ _ ha4 hb0)
 rw [(hq _ _ ha1 hb4).2,(hq _ _ ha2 hb3).2,(hq _ _ ha3 hb2).2,(hq _ _ ha4 hb1).2] at w0
 rw [(hq _ _ ha2 hb4).2,(hq _ _ ha3 hb3).2,(hq _ _ ha4 hb2).2] at w1
 rw [(hq _ _ ha3 hb4).2,(hq _ _ ha4 hb3).2] at w2
 rw [(hq _ _ ha4 hb4).2] at w3
 have b4':=hp _ _ ha0 hb4
 have p00:=hp _ _ ha0 hb0; have p01:=hp _ _ ha0 hb1; have p02:=hp _ _ ha0 hb2; have p03:=hp _ _ ha0 hb3
 have p10:=hp _ _ ha1 hb0; have p11:=hp _ _ ha1 hb1; have p12:=hp _ _ ha1 hb2; have p13:=hp _ _ ha1 hb3; have p14:=(hq _ _ ha1 hb4)
 have p20:=hp _ _ ha2 hb0; have p21:=hp _ _ ha2 hb1; have p22:=hp _ _ ha2 hb2; have p23:=(hq _ _ ha2 hb3); have p24:=(hq _ _ ha2 hb4)
 have p30:=hp _ _ ha3 hb0; have p31:=hp _ _ ha3 hb1; have p32:=(hq _ _ ha3 hb2); have p33:=(hq _ _ ha3 hb3); have p34:=(hq _ _ ha3 hb4)
 have p40:=hp _ _ ha4 hb0; have p41:=(hq _ _ ha4 hb1); have p42:=(hq _ _ ha4 hb2); have p43:=(hq _ _ ha4 hb3); have p44:=(hq _ _ ha4 hb4)
 have q14:=p14.1; have q23:=p23.1; have q24:=p24.1; have q32:=p32.1; have q33:=p33.1; have q34:=p34.1; have q41:=p41.1; have q42:=p42.1; have q43:=p43.1; have q44:=p44.1
 rw [p14.2] at q14; rw [p23.2] at q23; rw [p24.2] at q24; rw [p32.2] at q32; rw [p33.2] at q33; rw [p34.2] at q34; rw [p41.2] at q41; rw [p42.2] at q42; rw [p43.2] at q43; rw [p44.2] at q44
 have ex:E5.val ⟨a0,a1,a2,a3,a4⟩ * E5.val ⟨b0,b1,b2,b3,b4⟩ =
   (a0.toNat * b0.toNat+19 * (a1.toNat * b4.toNat)+19 * (a2.toNat * b3.toNat)+19 * (a3.toNat * b2.toNat)+19 * (a4.toNat * b1.toNat))
   + 2251799813685248 * (a0.toNat * b1.toNat+a1.toNat * b0.toNat+19 * (a2.toNat * b4.toNat)+19 * (a3.toNat * b3.toNat)+19 * (a4.toNat * b2.toNat))
   + 5070602400912917605986812821504 * (a0.toNat * b2.toNat+a1.toNat * b1.toNat+a2.toNat * b0.toNat+19 * (a3.toNat * b4.toNat)+19 * (a4.toNat * b3.toNat))
   + 11417981541647679048466287755595961091061972992 * (a0.toNat * b3.toNat+a1.toNat * b2.toNat+a2.toNat * b1.toNat+a3.toNat * b0.toNat+19 * (a4.toNat * b4.toNat))
   + 25711008708143844408671393477458601640355247900524685364822016 * (a0.toNat * b4.toNat+a1.toNat * b3.toNat+a2.toNat * b2.toNat+a3.toNat * b1.toNat+a4.toNat * b0.toNat)
   + Pq * (a1.toNat * b4.toNat+a2.toNat * b3.toNat+a3.toNat * b2.toNat+a4.toNat * b1.toNat+2251799813685248 * (a2.toNat * b4.toNat+a3.toNat * b3.toNat+a4.toNat * b2.toNat)+5070602400912917605986812821504 * (a3.toNat * b4.toNat+a4.toNat * b3.toNat)+11417981541647679048466287755595961091061972992 * (a4.toNat * b4.toNat)):=by
  unfold E5.val Pq
  simp only
  generalize a0.toNat=u0; generalize a1.toNat=u1; generalize a2.toNat=u2; generalize a3.toNat=u3; generalize a4.toNat=u4
  generalize b0.toNat=v0; generalize b1.toNat=v1; generalize b2.toNat=v2; generalize b3.toNat=v3; generalize b4.toNat=v4
  grind
 rw [ex,Nat.add_mul_mod_self_left]
 unfold mulE
 rw [carried_mod]
 unfold rowE
 simp only
 generalize hW0:plusE (plusE (plusE (plusE (plusE zeroWd a0 b0) a1 (19 * b4)) a2 (19 * b3)) a3 (19 * b2)) a4 (19 * b1)=W0 at *
 generalize hW1:plusE (plusE (plusE (plusE (plusE zeroWd a0 b1) a1 b0) a2 (19 * b4)) a3 (19 * b3)) a4 (19 * b2)=W1 at *
 generalize hW2:plusE (plusE (plusE (plusE (plusE zeroWd a0 b2) a1 b1) a2 b0) a3 (19 * b4)) a4 (19 * b3)=W2 at *
 generalize hW3:plusE (plusE (plusE (plusE (plusE zeroWd a0 b3) a1 b2) a2 b1) a3 b0) a4 (19 * b4)=W3 at *
 generalize hW4:plusE (plusE (plusE (plusE (plusE zeroWd a0 b4) a1 b3) a2 b2) a3 b1) a4 b0=W4' at *
 rw [← w0,← w1,← w2,← w3,← w4]
 have l0:W0.val≤481712000000000000000000000000000:=by omega
 have l1:W1.val≤481712000000000000000000000000000:=by omega
 have l2:W2.val≤481712000000000000000000000000000:=by omega
 have l3:W3.val≤481712000000000000000000000000000:=by omega
 have l4:W4'.val≤25353013000000000000000000000000:=by
  have r:∀ x y:UInt64,x.toNat < 2251799813947392→y.toNat < 2251799813947392→x.toNat * y.toNat≤5070602600000000000000000000000:=fun x y hx hy=>Nat.le_trans (prod_le (Nat.le_of_lt hx) (Nat.le_of_lt hy)) (by omega)
  have r1:=r _ _ ha0 hb4; have r2:=r _ _ ha1 hb3; have r3:=r _ _ ha2 hb2; have r4:=r _ _ ha3 hb1; have r5:=r _ _ ha4 hb0
  omega
 clear w0 w1 w2 w3 w4 ex p00 p01 p02 p03 p10 p11 p12 p13 p14 p20 p21 p22 p23 p24 p30 p31 p32 p33 p34 p40 p41 p42 p43 p44 q14 q23 q24 q32 q33 q34 q41 q42 q43 q44 hp hq b4'
 have s0:=shift_val W0 (by omega)
 have s1:=shift_val W1 (by omega)
 have s2:=shift_val W2 (by omega)
 have s3:=shift_val W3 (by omega)
 have s4:=shift_val W4' (by omega)
 have t0:=lo_val W0
 have t1:=lo_val W1
 have t2:=lo_val W2
 have t3:=lo_val W3
 have t4:=lo_val W4'
 have c0:((W0.lo &&& m51)+19 * shiftE W4').toNat=W0.val % 2251799813685248+19 * (W4'.val / 2251799813685248):=by
  rw [UInt64.toNat_add,UInt64.toNat_mul,n19,t0,s4]
  simp only [Nat.reducePow]
  omega
 have c1:=add_nat (W1.lo &&& m51) (shiftE W0) (by omega)
 have c2:=add_nat (W2.lo &&& m51) (shiftE W1) (by omega)
 have c3:=add_nat (W3.lo &&& m51) (shiftE W2) (by omega)
 have c4:=add_nat (W4'.lo &&& m51) (shiftE W3) (by omega)
 have fin:E5.val ⟨(W0.lo &&& m51)+19 * shiftE W4',(W1.lo &&& m51)+shiftE W0,(W2.lo &&& m51)+shiftE W1,(W3.lo &&& m51)+shiftE W2,(W4'.lo &&& m51)+shiftE W3⟩+Pq * (W4'.val / 2251799813685248)=W0.val+2251799813685248 * W1.val+5070602400912917605986812821504 * W2.val+11417981541647679048466287755595961091061972992 * W3.val+25711008708143844408671393477458601640355247900524685364822016 * W4'.val:=by
  unfold E5.val Pq
  simp only
  rw [c0,c1,c2,c3,c4,s0,s1,s2,s3,t1,t2,t3,t4]
  omega
 rw [← fin,Nat.add_mul_mod_self_left]
end Go.Num
namespace Go.Num
open Go Go.Eng
def E5.red (a:E5):Prop:=a.x0.toNat < 2251799813685248∧a.x1.toNat < 2251799813685248∧a.x2.toNat < 2251799813685248∧a.x3.toNat < 2251799813685248∧a.x4.toNat < 2251799813685248
theorem E5.ext_val {a b:E5}(ha:a.red) (hb:b.red) (h:a.val=b.val):a=b:=by
 obtain ⟨a0,a1,a2,a3,a4⟩:=a
 obtain ⟨b0,b1,b2,b3,b4⟩:=b
 unfold E5.red at ha hb
 unfold E5.val at h
 simp only at ha hb h
 have e0:a0=b0:=UInt64.toNat_inj.1 (by omega)
 have e1:a1=b1:=UInt64.toNat_inj.1 (by omega)
 have e2:a2=b2:=UInt64.toNat_inj.1 (by omega)
 have e3:a3=b3:=UInt64.toNat_inj.1 (by omega)
 have e4:a4=b4:=UInt64.toNat_inj.1 (by omega)
 rw [e0,e1,e2,e3,e4]
theorem tail_val (b:E5) (c:UInt64) (hc:c.toNat≤1) (h0:b.x0.toNat < 2251799813947392) (h1:b.x1.toNat < 2251799813947392) (h2:b.x2.toNat < 2251799813947392) (h3:b.x3.toNat < 2251799813947392) (h4:b.x4.toNat < 2251799813947392) :
  (tailE b c).red∧(tailE b c).val=(b.val+19 * c.toNat) % 57896044618658097711785492504343953926634992332820282019728792003956564819968:=by
 have e0:(b.x0+19 * c).toNat=b.x0.toNat+19 * c.toNat:=by
  rw [UInt64.toNat_add,UInt64.toNat_mul,n19]
  simp only [Nat.reducePow]
  omega
 have st:∀ x y:UInt64,x.toNat < 2251799813947392→(x+shr_u64 y 51).toNat=x.toNat+y.toNat / 2251799813685248:=fun x y hx=>by
  have hy:=y.toNat_lt
  simp only [Nat.reducePow] at hy
  rw [add_nat _ _ (by rw [shr51]; omega),shr51]
 have e1:=st b.x1 (b.x0+19 * c) h1
 have e2:=st b.x2 (b.x1+shr_u64 (b.x0+19 * c) 51) h2
 have e3:=st b.x3 (b.x2+shr_u64 (b.x1+shr_u64 (b.x0+19 * c) 51) 51) h3
 have e4:=st b.x4 (b.x3+shr_u64 (b.x2+shr_u64 (b.x1+shr_u64 (b.x0+19 * c) 51) 51) 51) h4
 unfold E5.red E5.val tailE
 simp only [and51]
 rw [e4,e3,e2,e1,e0]
 refine ⟨by omega,?_⟩
 omega
theorem top_val (b:E5) (h0:b.x0.toNat < 2251799813947392) (h1:b.x1.toNat < 2251799813947392) (h2:b.x2.toNat < 2251799813947392) (h3:b.x3.toNat < 2251799813947392) (h4:b.x4.toNat < 2251799813947392) :
  (topE b).toNat=(b.val+19) / 57896044618658097711785492504343953926634992332820282019728792003956564819968:=by
 have e0:(b.x0+19).toNat=b.x0.toNat+19:=by
  rw [UInt64.toNat_add,n19]
  simp only [Nat.reducePow]
  omega
 have st:∀ x y:UInt64,x.toNat < 2251799813947392→(x+shr_u64 y 51).toNat=x.toNat+y.toNat / 2251799813685248:=fun x y hx=>by
  have hy:=y.toNat_lt
  simp only [Nat.reducePow] at hy
  rw [add_nat _ _ (by rw [shr51]; omega),shr51]
 unfold topE
 rw [shr51,st _ _ h4,st _ _ h3,st _ _ h2,st _ _ h1,e0]
 unfold E5.val
 omega
theorem reduced_val (a:E5):(reducedE a).red∧(reducedE a).val=a.val % Pq:=by
 have o1:=carried_ok a
 obtain ⟨o2,v2⟩:=carried_val (carriedE a)
 have m2:=carried_mod (carriedE a)
 have m1:=carried_mod a
 have hb:=low_plus19 (carriedE a).x0 (carriedE a).x4
 have hb1:=low_plus (carriedE a).x1 (carriedE a).x0
 have hb2:=low_plus (carriedE a).x2 (carriedE a).x1
 have hb3:=low_plus (carriedE a).x3 (carriedE a).x2
 have hb4:=low_plus (carriedE a).x4 (carriedE a).x3
 have hv:(carriedE (carriedE a)).val < 57896044618658097711785492504343953926634992332820282019728792003956564819968+57896044618658097711785492504343953926634992332820282019728792003956564819930:=by
  unfold E5.ok at o1
  have d:carriedE (carriedE a)=⟨((carriedE a).x0 &&& m51)+19 * shr_u64 (carriedE a).x4 51,((carriedE a).x1 &&& m51)+shr_u64 (carriedE a).x0 51,((carriedE a).x2 &&& m51)+shr_u64 (carriedE a).x1 51,((carriedE a).x3 &&& m51)+shr_u64 (carriedE a).x2 51,((carriedE a).x4 &&& m51)+shr_u64 (carriedE a).x3 51⟩:=rfl
  rw [d]
  generalize carriedE a=u at *
  unfold E5.val
  simp only
  rw [hb,hb1,hb2,hb3,hb4]
  omega
 obtain ⟨q0,q1,q2,q3,q4⟩:=o2
 have ht:=top_val _ q0 q1 q2 q3 q4
 have htop:(topE (carriedE (carriedE a))).toNat≤1:=by
  rw [ht]
  omega
 obtain ⟨r1,r2⟩:=tail_val _ (topE (carriedE (carriedE a))) htop q0 q1 q2 q3 q4
 refine ⟨r1,?_⟩
 have hm:(carriedE (carriedE a)).val % Pq=a.val % Pq:=m2.trans m1
 rw [← hm]
 unfold reducedE
 simp only
 rw [r2,ht]
 generalize (carriedE (carriedE a)).val=v at *
 unfold Pq
 have h2:(v+19) / 57896044618658097711785492504343953926634992332820282019728792003956564819968=0 ∨ (v+19) / 57896044618658097711785492504343953926634992332820282019728792003956564819968=1:=by omega
 rcases h2 with h2 | h2 <;> rw [h2] <;> omega
theorem leNat_range (f:Nat→UInt8) (V:Nat):∀ n,(∀ i,i < n→(f i).toNat=V / 256 ^ i % 256)→leNat ((List.range n).map f)=V % 256 ^ n
 | 0,_=>by simp [leNat,Nat.mod_one]
 | n+1,h=>by
  rw [List.range_succ,List.map_append,leNat_append,leNat_range f V n (fun i hi=>h i (by omega))]
  simp only [List.map_cons,List.map_nil,leNat,List.length_map,List.length_range]
  rw [h n (by omega),Nat.mul_zero,Nat.add_zero,Nat.pow_succ,Nat.mod_mul]
theorem shr_byte (x:UInt64) (n:Nat) (h:n < 64):((shr_u64 x n).toUInt8).toNat=x.toNat / 2 ^ n % 256:=by
 rw [toU8_nat,shr_u64_nat x n h]
theorem or_byte (x y:UInt64) (s:Nat) (hs:44≤s) (hs2:s < 51) (hx:x.toNat < 2251799813685248) (hy:y.toNat < 2251799813685248):((shr_u64 x s).toUInt8 ||| (shl_u64 y (51 - s)).toUInt8).toNat=(x.toNat / 2 ^ s+y.toNat * 2 ^ (51 - s)) % 256:=by
 rw [UInt8.toNat_or,toU8_nat,toU8_nat,shr_u64_nat x s (by omega),shl_u64_nat y (51 - s) (by omega)]
 have h1:x.toNat / 2 ^ s < 2 ^ (51 - s):=by
  apply Nat.div_lt_of_lt_mul
  rw [← Nat.pow_add,show s+(51 - s)=51 by omega]
  simpa using hx
 have hc:s=44 ∨ s=45 ∨ s=46 ∨ s=47 ∨ s=48 ∨ s=49 ∨ s=50:=by omega
 have h2:(x.toNat / 2 ^ s) % 256=x.toNat / 2 ^ s:=Nat.mod_eq_of_lt (by rcases hc with rfl | rfl | rfl | rfl | rfl | rfl | rfl <;> simp only [Nat.reducePow,Nat.reduceSub] at h1 <;> omega)
 rw [h2]
 have h3:y.toNat * 2 ^ (51 - s) % 18446744073709551616 % 256=(y.toNat % 2 ^ (8 - (51 - s))) * 2 ^ (51 - s):=by
  rcases hc with rfl | rfl | rfl | rfl | rfl | rfl | rfl <;> simp only [Nat.reducePow,Nat.reduceSub] <;> omega
 rw [h3]
 have:=Nat.shiftLeft_add_eq_or_of_lt h1 (y.toNat % 2 ^ (8 - (51 - s)))
 rw [Nat.shiftLeft_eq] at this
 rw [Nat.or_comm,← this]
 rcases hc with rfl | rfl | rfl | rfl | rfl | rfl | rfl <;> simp only [Nat.reducePow,Nat.reduceSub] at * <;> omega
set_option maxHeartbeats 4000000 in
theorem byteE_val (r:E5) (h:r.red) (i:Nat) (hi:i < 32):(byteE r i).toNat=r.val / 256 ^ i % 256:=by
 obtain ⟨r0,r1,r2,r3,r4⟩:=r
 unfold E5.red at h
 unfold E5.val
 simp only at h ⊢
 obtain ⟨h0,h1,h2,h3,h4⟩:=h
 have hc:i=0 ∨ i=1 ∨ i=2 ∨ i=3 ∨ i=4 ∨ i=5 ∨ i=6 ∨ i=7 ∨ i=8 ∨ i=9 ∨ i=10 ∨ i=11 ∨ i=12 ∨ i=13 ∨ i=14 ∨ i=15 ∨ i=16 ∨ i=17 ∨ i=18 ∨ i=19 ∨ i=20 ∨ i=21 ∨ i=22 ∨ i=23 ∨ i=24 ∨ i=25 ∨ i=26 ∨ i=27 ∨ i=28 ∨ i=29 ∨ i=30 ∨ i=31:=by omega
 have s:∀ (x:UInt64) (n:Nat),n < 64→((shr_u64 x n).toUInt8).toNat=x.toNat / 2 ^ n % 256:=shr_byte
 have o:∀ (x y:UInt64) (n:Nat),44≤n→n < 51→x.toNat < 2251799813685248→y.toNat < 2251799813685248→((shr_u64 x n).toUInt8 ||| (shl_u64 y (51 - n)).toUInt8).toNat=(x.toNat / 2 ^ n+y.toNat * 2 ^ (51 - n)) % 256:=or_byte
 rcases hc with rfl | rfl | rfl | rfl | rfl | rfl | rfl | rfl | rfl | rfl | rfl | rfl | rfl | rfl | rfl | rfl | rfl | rfl | rfl | rfl | rfl | rfl | rfl | rfl | rfl | rfl | rfl | rfl | rfl | rfl | rfl | rfl
 ·show ((shr_u64 r0 0).toUInt8).toNat=_; rw [s _ 0 (by omega)]; simp only [Nat.reducePow]; omega
 ·show ((shr_u64 r0 8).toUInt8).toNat=_; rw [s _ 8 (by omega)]; simp only [Nat.reducePow]; omega
 ·show ((shr_u64 r0 16).toUInt8).toNat=_; rw [s _ 16 (by omega)]; simp only [Nat.reducePow]; omega
 ·show ((shr_u64 r0 24).toUInt8).toNat=_; rw [s _ 24 (by omega)]; simp only [Nat.reducePow]; omega
 ·show ((shr_u64 r0 32).toUInt8).toNat=_; rw [s _ 32 (by omega)]; simp only [Nat.reducePow]; omega
 ·show ((shr_u64 r0 40).toUInt8).toNat=_; rw [s _ 40 (by omega)]; simp only [Nat.reducePow]; omega
 ·show ((shr_u64 r0 48).toUInt8 ||| (shl_u64 r1 3).toUInt8).toNat=_; rw [o _ _ 48 (by omega) (by omega) h0 h1]; simp only [Nat.reducePow,Nat.reduceSub]; omega
 ·show ((shr_u64 r1 5).toUInt8).toNat=_; rw [s _ 5 (by omega)]; simp only [Nat.reducePow]; omega
 ·show ((shr_u64 r1 13).toUInt8).toNat=_; rw [s _ 13 (by omega)]; simp only [Nat.reducePow]; omega
 ·show ((shr_u64 r1 21).toUInt8).toNat=_; rw [s _ 21 (by omega)]; simp only [Nat.reducePow]; omega
 ·show ((shr_u64 r1 29).toUInt8).toNat=_; rw [s _ 29 (by omega)]; simp only [Nat.reducePow]; omega
 ·show ((shr_u64 r1 37).toUInt8).toNat=_; rw [s _ 37 (by omega)]; simp only [Nat.reducePow]; omega
 ·show ((shr_u64 r1 45).toUInt8 ||| (shl_u64 r2 6).toUInt8).toNat=_; rw [o _ _ 45 (by omega) (by omega) h1 h2]; simp only [Nat.reducePow,Nat.reduceSub]; omega
 ·show ((shr_u64 r2 2).toUInt8).toNat=_; rw [s _ 2 (by omega)]; simp only [Nat.reducePow]; omega
 ·show ((shr_u64 r2 10).toUInt8).toNat=_; rw [s _ 10 (by omega)]; simp only [Nat.reducePow]; omega
 ·show ((shr_u64 r2 18).toUInt8).toNat=_; rw [s _ 18 (by omega)]; simp only [Nat.reducePow]; omega
 ·show ((shr_u64 r2 26).toUInt8).toNat=_; rw [s _ 26 (by omega)]; simp only [Nat.reducePow]; omega
 ·show ((shr_u64 r2 34).toUInt8).toNat=_; rw [s _ 34 (by omega)]; simp only [Nat.reducePow]; omega
 ·show ((shr_u64 r2 42).toUInt8).toNat=_; rw [s _ 42 (by omega)]; simp only [Nat.reducePow]; omega
 ·show ((shr_u64 r2 50).toUInt8 ||| (shl_u64 r3 1).toUInt8).toNat=_; rw [o _ _ 50 (by omega) (by omega) h2 h3]; simp only [Nat.reducePow,Nat.reduceSub]; omega
 ·show ((shr_u64 r3 7).toUInt8).toNat=_; rw [s _ 7 (by omega)]; simp only [Nat.reducePow]; omega
 ·show ((shr_u64 r3 15).toUInt8).toNat=_; rw [s _ 15 (by omega)]; simp only [Nat.reducePow]; omega
 ·show ((shr_u64 r3 23).toUInt8).toNat=_; rw [s _ 23 (by omega)]; simp only [Nat.reducePow]; omega
 ·show ((shr_u64 r3 31).toUInt8).toNat=_; rw [s _ 31 (by omega)]; simp only [Nat.reducePow]; omega
 ·show ((shr_u64 r3 39).toUInt8).toNat=_; rw [s _ 39 (by omega)]; simp only [Nat.reducePow]; omega
 ·show ((shr_u64 r3 47).toUInt8 ||| (shl_u64 r4 4).toUInt8).toNat=_; rw [o _ _ 47 (by omega) (by omega) h3 h4]; simp only [Nat.reducePow,Nat.reduceSub]; omega
 ·show ((shr_u64 r4 4).toUInt8).toNat=_; rw [s _ 4 (by omega)]; simp only [Nat.reducePow]; omega
 ·show ((shr_u64 r4 12).toUInt8).toNat=_; rw [s _ 12 (by omega)]; simp only [Nat.reducePow]; omega
 ·show ((shr_u64 r4 20).toUInt8).toNat=_; rw [s _ 20 (by omega)]; simp only [Nat.reducePow]; omega
 ·show ((shr_u64 r4 28).toUInt8).toNat=_; rw [s _ 28 (by omega)]; simp only [Nat.reducePow]; omega
 ·show ((shr_u64 r4 36).toUInt8).toNat=_; rw [s _ 36 (by omega)]; simp only [Nat.reducePow]; omega
 ·show ((shr_u64 r4 44).toUInt8).toNat=_; rw [s _ 44 (by omega)]; simp only [Nat.reducePow]; omega
theorem red_lt {a:E5}(h:a.red):a.val < 57896044618658097711785492504343953926634992332820282019728792003956564819968:=by
 unfold E5.red at h
 unfold E5.val
 omega
theorem bytesE_val (a:E5):leNat (bytesE a)=a.val % Pq:=by
 obtain ⟨h1,h2⟩:=reduced_val a
 unfold bytesE
 rw [leNat_range _ (reducedE a).val 32 (fun i hi=>byteE_val _ h1 i hi),Nat.mod_eq_of_lt (Nat.lt_of_lt_of_le (red_lt h1) (by decide)),h2]
theorem bytesE_len (a:E5):(bytesE a).length=32:=by unfold bytesE; simp
theorem leNat_drop (s:List UInt8) (k:Nat):leNat (s.drop k)=leNat s / 256 ^ k:=by
 induction k generalizing s with
 | zero=>simp
 | succ k ih =>
  cases s with
  | nil=>simp [leNat]
  | cons c l =>
   have hc:=c.toNat_lt
   simp only [Nat.reducePow] at hc
   rw [List.drop_succ_cons,ih,leNat,Nat.pow_succ,Nat.mul_comm (256 ^ k),← Nat.div_div_eq_div_mul]
   congr 1
   omega
theorem byte_at (s:List UInt8) (k:Nat):(s.getD k 0).toNat=leNat s / 256 ^ k % 256:=by
 rw [← leNat_drop]
 induction k generalizing s with
 | zero =>
  cases s with
  | nil=>rfl
  | cons c l =>
   have hc:=c.toNat_lt
   simp only [Nat.reducePow] at hc
   simp only [List.getD_cons_zero,List.drop_zero,leNat]
   omega
 | succ k ih =>
  cases s with
  | nil=>simp [leNat]
  | cons c l=>rw [List.getD_cons_succ,List.drop_succ_cons]; exact ih l
theorem or_step (x:UInt64) (b:UInt8) (n:Nat) (hn:n < 57) (h:x.toNat < 2 ^ n):(x ||| shl_u64 b.toUInt64 n).toNat=x.toNat+b.toNat * 2 ^ n:=by
 have hb:=b.toNat_lt
 rw [UInt64.toNat_or,shl_u64_nat _ n (by omega),UInt8.toNat_toUInt64]
 have hlt:b.toNat * 2 ^ n < 18446744073709551616:=by
  have h1:2 ^ n≤2 ^ 56:=Nat.pow_le_pow_right (by omega) (by omega)
  have:=Nat.mul_le_mul (Nat.le_of_lt_succ hb) h1
  simp only [Nat.reducePow] at *
  omega
 rw [Nat.mod_eq_of_lt hlt]
 have:=Nat.shiftLeft_add_eq_or_of_lt h b.toNat
 rw [Nat.shiftLeft_eq] at this
 rw [Nat.or_comm,← this,Nat.add_comm]
theorem wordE_val (s:List UInt8):(wordE s).toNat=leNat s % 18446744073709551616:=by
 have b:∀ k,(s.getD k 0).toNat < 256:=fun k=>(s.getD k 0).toNat_lt
 have b0:=b 0; have b1:=b 1; have b2:=b 2; have b3:=b 3; have b4:=b 4; have b5:=b 5; have b6:=b 6; have b7:=b 7
 have hz:(0:UInt64).toNat=0:=rfl
 unfold wordE
 have e0:=or_step 0 (s.getD 0 0) 0 (by omega) (by rw [hz]; decide)
 have e1:=or_step _ (s.getD 1 0) 8 (by omega) (by rw [e0,hz]; simp only [Nat.reducePow]; omega)
 have e2:=or_step _ (s.getD 2 0) 16 (by omega) (by rw [e1,e0,hz]; simp only [Nat.reducePow]; omega)
 have e3:=or_step _ (s.getD 3 0) 24 (by omega) (by rw [e2,e1,e0,hz]; simp only [Nat.reducePow]; omega)
 have e4:=or_step _ (s.getD 4 0) 32 (by omega) (by rw [e3,e2,e1,e0,hz]; simp only [Nat.reducePow]; omega)
 have e5:=or_step _ (s.getD 5 0) 40 (by omega) (by rw [e4,e3,e2,e1,e0,hz]; simp only [Nat.reducePow]; omega)
 have e6:=or_step _ (s.getD 6 0) 48 (by omega) (by rw [e5,e4,e3,e2,e1,e0,hz]; simp only [Nat.reducePow]; omega)
 have e7:=or_step _ (s.getD 7 0) 56 (by omega) (by rw [e6,e5,e4,e3,e2,e1,e0,hz]; simp only [Nat.reducePow]; omega)
 rw [e7,e6,e5,e4,e3,e2,e1,e0,hz,byte_at s 0,byte_at s 1,byte_at s 2,byte_at s 3,byte_at s 4,byte_at s 5,byte_at s 6,byte_at s 7]
 simp only [Nat.reducePow]
 omega
theorem five_parts (V:Nat):V % 2251799813685248+19 * (V / 57896044618658097711785492504343953926634992332820282019728792003956564819968)+2251799813685248 * (V / 2251799813685248 % 2251799813685248)+5070602400912917605986812821504 * (V / 5070602400912917605986812821504 % 2251799813685248)+11417981541647679048466287755595961091061972992 * (V / 11417981541647679048466287755595961091061972992 % 2251799813685248)+25711008708143844408671393477458601640355247900524685364822016 * (V / 25711008708143844408671393477458601640355247900524685364822016 % 2251799813685248)+Pq * (V / 57896044618658097711785492504343953926634992332820282019728792003956564819968)=V:=by
 have d2:V / 5070602400912917605986812821504=V / 2251799813685248 / 2251799813685248:=by rw [Nat.div_div_eq_div_mul]
 have d3:V / 11417981541647679048466287755595961091061972992=V / 2251799813685248 / 2251799813685248 / 2251799813685248:=by rw [Nat.div_div_eq_div_mul,Nat.div_div_eq_div_mul]
 have d4:V / 25711008708143844408671393477458601640355247900524685364822016=V / 2251799813685248 / 2251799813685248 / 2251799813685248 / 2251799813685248:=by rw [Nat.div_div_eq_div_mul,Nat.div_div_eq_div_mul,Nat.div_div_eq_div_mul]
 have d5:V / 57896044618658097711785492504343953926634992332820282019728792003956564819968=V / 2251799813685248 / 2251799813685248 / 2251799813685248 / 2251799813685248 / 2251799813685248:=by rw [Nat.div_div_eq_div_mul,Nat.div_div_eq_div_mul,Nat.div_div_eq_div_mul,Nat.div_div_eq_div_mul]
 rw [d2,d3,d4,d5]
 unfold Pq
 omega
theorem zeroE_ok:zeroE.ok:=⟨by decide,by decide,by decide,by decide,by decide⟩
theorem ofE0_val (s:List UInt8) (h:s.length=32):(ofE0 s).val % Pq=leNat s % Pq:=by
 have hv:leNat s < 115792089237316195423570985008687907853269984665640564039457584007913129639936:=by
  have:=leNat_lt s
  rw [h] at this
  simpa using this
 have w0:=wordE_val s
 have w6:=wordE_val (s.drop 6)
 have w12:=wordE_val (s.drop 12)
 have w19:=wordE_val (s.drop 19)
 have w24:=wordE_val (s.drop 24)
 rw [leNat_drop] at w6 w12 w19 w24
 have b31:=byte_at s 31
 have d:∀ m n:Nat,leNat s / m / n=leNat s / (m * n):=fun m n=>Nat.div_div_eq_div_mul _ _ _
 have q:∀ Q:Nat,Q % 18446744073709551616 / 8 % 2251799813685248=Q / 8 % 2251799813685248:=fun Q=>by omega
 have q6:∀ Q:Nat,Q % 18446744073709551616 / 64 % 2251799813685248=Q / 64 % 2251799813685248:=fun Q=>by omega
 have q1:∀ Q:Nat,Q % 18446744073709551616 / 2 % 2251799813685248=Q / 2 % 2251799813685248:=fun Q=>by omega
 have q12:∀ Q:Nat,Q % 18446744073709551616 / 4096 % 2251799813685248=Q / 4096 % 2251799813685248:=fun Q=>by omega
 have q0:∀ Q:Nat,Q % 18446744073709551616 % 2251799813685248=Q % 2251799813685248:=fun Q=>by omega
 have h31:leNat s / 256 ^ 31 < 256:=by
  apply Nat.div_lt_of_lt_mul
  rw [show (256:Nat) ^ 31 * 256=115792089237316195423570985008687907853269984665640564039457584007913129639936 by decide]
  exact hv
 have e0:((wordE s &&& m51)+19 * (shr_u8 (s.getD 31 0) 7).toUInt64).toNat=leNat s % 2251799813685248+19 * (leNat s / 57896044618658097711785492504343953926634992332820282019728792003956564819968):=by
  have ed:leNat s / 57896044618658097711785492504343953926634992332820282019728792003956564819968=leNat s / 256 ^ 31 / 128:=by
   rw [d]
  rw [UInt64.toNat_add,UInt64.toNat_mul,n19,UInt8.toNat_toUInt64,shr_u8_nat _ 7 (by omega),and51,w0,b31,Nat.mod_eq_of_lt h31,ed,q0]
  generalize leNat s / 256 ^ 31=Q at *
  have:=Nat.mod_lt (leNat s) (show 0 < 2251799813685248 by omega)
  generalize leNat s % 2251799813685248=R at *
  simp only [Nat.reducePow]
  omega
 have e1:(shr_u64 (wordE (s.drop 6)) 3 &&& m51).toNat=leNat s / 2251799813685248 % 2251799813685248:=by
  rw [and51,shr_u64_nat _ 3 (by omega),w6]
  show leNat s / 256 ^ 6 % 18446744073709551616 / 8 % 2251799813685248=_
  rw [q,d]
 have e2:(shr_u64 (wordE (s.drop 12)) 6 &&& m51).toNat=leNat s / 5070602400912917605986812821504 % 2251799813685248:=by
  rw [and51,shr_u64_nat _ 6 (by omega),w12]
  show leNat s / 256 ^ 12 % 18446744073709551616 / 64 % 2251799813685248=_
  rw [q6,d]
 have e3:(shr_u64 (wordE (s.drop 19)) 1 &&& m51).toNat=leNat s / 11417981541647679048466287755595961091061972992 % 2251799813685248:=by
  rw [and51,shr_u64_nat _ 1 (by omega),w19]
  show leNat s / 256 ^ 19 % 18446744073709551616 / 2 % 2251799813685248=_
  rw [q1,d]
 have e4:(shr_u64 (wordE (s.drop 24)) 12 &&& m51).toNat=leNat s / 25711008708143844408671393477458601640355247900524685364822016 % 2251799813685248:=by
  rw [and51,shr_u64_nat _ 12 (by omega),w24]
  show leNat s / 256 ^ 24 % 18446744073709551616 / 4096 % 2251799813685248=_
  rw [q12,d]
 have ev:(ofE0 s).val+Pq * (leNat s / 57896044618658097711785492504343953926634992332820282019728792003956564819968)=leNat s:=by
  have ed:(ofE0 s).val=leNat s % 2251799813685248+19 * (leNat s / 57896044618658097711785492504343953926634992332820282019728792003956564819968)+2251799813685248 * (leNat s / 2251799813685248 % 2251799813685248)+5070602400912917605986812821504 * (leNat s / 5070602400912917605986812821504 % 2251799813685248)+11417981541647679048466287755595961091061972992 * (leNat s / 11417981541647679048466287755595961091061972992 % 2251799813685248)+25711008708143844408671393477458601640355247900524685364822016 * (leNat s / 25711008708143844408671393477458601640355247900524685364822016 % 2251799813685248):=by
   rw [← e0,← e1,← e2,← e3,← e4]
   rfl
  rw [ed]
  exact five_parts _
 rw [← ev,Nat.add_mul_mod_self_left]
theorem ofEl_ok (s:List UInt8):(ofEl s).ok:=by
 unfold ofEl
 cases isLen s 32
 ·exact zeroE_ok
 ·exact carried_ok _
theorem ofEl_val {s:List UInt8}(h:isLen s 32=true):(ofEl s).val % Pq=leNat s % Pq:=by
 unfold ofEl
 rw [h,cond_true,carried_mod,ofE0_val s (isLen_eq.1 h)]
theorem zeroE_val:zeroE.val=0:=by decide
theorem smallE_val (n:UInt32):(smallE n).ok∧(smallE n).val=n.toNat:=by
 have h:=n.toNat_lt
 simp only [Nat.reducePow] at h
 have hz:(0:UInt64).toNat=0:=rfl
 unfold E5.ok E5.val smallE
 simp only [UInt32.toNat_toUInt64,hz]
 omega
theorem eqE_eq (a b:E5):eqE a b=decide (a=b):=by
 obtain ⟨a0,a1,a2,a3,a4⟩:=a
 obtain ⟨b0,b1,b2,b3,b4⟩:=b
 rw [Bool.eq_iff_iff]
 simp [eqE]
theorem sameE_eq (a b:E5):sameE a b=decide (a.val % Pq=b.val % Pq):=by
 obtain ⟨h1,h2⟩:=reduced_val a
 obtain ⟨k1,k2⟩:=reduced_val b
 unfold sameE
 rw [eqE_eq,decide_eq_decide,← h2,← k2]
 exact ⟨fun h=>by rw [h],fun h=>E5.ext_val h1 k1 h⟩
end Go.Num
namespace Go.Num
open Go Go.Eng
structure Rel (a:E5) (x:N16):Prop where
 ok:a.ok
 okP:x.ok
 val:x.val=a.val % Pq
theorem Rel.lt {a:E5}{x:N16}(h:Rel a x):x.val < Pq:=by rw [h.val]; exact Nat.mod_lt _ Pq_pos
theorem Rel.mod {a:E5}{x:N16}(h:Rel a x):a.val % Pq=x.val:=h.val.symm
theorem Rel.bytes {a:E5}{x:N16}(h:Rel a x):bytesE a=bytesN x:=
 leNat_inj (by rw [bytesE_len,bytesN_len]) (by rw [bytesE_val,bytesN_val x h.okP,h.val])
theorem rel_of {s:List UInt8}(h:isLen s 32=true):Rel (ofEl s) (ofP s):=by
 obtain ⟨o,e⟩:=ofP_val (isLen_eq.1 h)
 exact ⟨ofEl_ok s,o,by rw [e,ofEl_val h]⟩
theorem rel_zero:Rel zeroE zeroN:=⟨zeroE_ok,zeroN_ok,by rw [zeroN_val,zeroE_val]; rfl⟩
theorem rel_small (n:UInt32):Rel (smallE n) (smallN n):=by
 obtain ⟨o,e⟩:=smallN_val n
 obtain ⟨o2,e2⟩:=smallE_val n
 refine ⟨o2,o,?_⟩
 have h:=n.toNat_lt
 simp only [Nat.reducePow] at h
 rw [e,e2,Nat.mod_eq_of_lt (by unfold Pq; omega)]
theorem rel_add {a b:E5}{x y:N16}(h:Rel a x) (k:Rel b y):Rel (addE a b) (addP x y):=by
 obtain ⟨o,e⟩:=addP_val x y h.okP k.okP
 obtain ⟨o2,e2⟩:=addE_val a b h.ok k.ok
 exact ⟨o2,o,by rw [e,e2,h.val,k.val,← Nat.add_mod]⟩
theorem rel_mul {a b:E5}{x y:N16}(h:Rel a x) (k:Rel b y):Rel (mulE a b) (mulP x y):=by
 obtain ⟨o,e⟩:=mulP_val x y h.okP k.okP
 obtain ⟨o2,e2⟩:=mulE_val a b h.ok k.ok
 exact ⟨o2,o,by rw [e,e2,h.val,k.val,← Nat.mul_mod]⟩
theorem sub_mod (a b P:Nat) (hP:0 < P) (hb:b≤2 * P):(a+(2 * P - b)) % P=(a % P+(P - b % P)) % P:=by
 have h1:=Nat.div_add_mod b P
 have h2:=Nat.mod_lt b hP
 have h3:=Nat.div_add_mod a P
 have h4:b / P≤2:=Nat.div_le_of_le_mul (by rw [Nat.mul_comm]; exact hb)
 generalize b % P=r at *
 generalize hq:b / P=q at *
 have h5:q=0 ∨ q=1 ∨ q=2:=by omega
 have h6:(a % P+(P - r)) % P=(a+(P - r)) % P:=by rw [Nat.mod_add_mod]
 rw [h6]
 rcases h5 with rfl | rfl | rfl
 ·have e:a+(2 * P - b)=(a+(P - r))+P * 1:=by omega
  rw [e,Nat.add_mul_mod_self_left]
 ·have e:a+(2 * P - b)=a+(P - r):=by omega
  rw [e]
 ·have e:a+(P - r)=a+(2 * P - b)+P * 1:=by omega
  rw [e,Nat.add_mul_mod_self_left]
theorem rel_sub {a b:E5}{x y:N16}(h:Rel a x) (k:Rel b y):Rel (subE a b) (subP x y):=by
 obtain ⟨o,e⟩:=subP_val x y h.okP k.okP k.lt
 obtain ⟨o2,e2,hle⟩:=subE_val a b h.ok k.ok
 exact ⟨o2,o,by rw [e,e2,h.val,k.val,sub_mod _ _ _ Pq_pos hle]⟩
structure PowE (a:E5) (n:Nat) (x:E5):Prop where
 ok:x.ok
 val:x.val % Pq=a.val ^ n % Pq
theorem pow_one {a:E5}(h:a.ok):PowE a 1 a:=⟨h,by rw [Nat.pow_one]⟩
theorem pow_mul {a x y:E5}{m n:Nat}(h:PowE a m x) (k:PowE a n y):PowE a (m+n) (mulE x y):=by
 obtain ⟨o,e⟩:=mulE_val x y h.ok k.ok
 exact ⟨o,by rw [e,Nat.mul_mod,h.val,k.val,← Nat.mul_mod,← Nat.pow_add]⟩
theorem pow_sq {a:E5}:∀ (n:Nat){x:E5}{m:Nat},PowE a m x→PowE a (m * 2 ^ n) (sqE x n)
 | 0,x,m,h=>by rw [Nat.pow_zero,Nat.mul_one]; exact h
 | n+1,x,m,h=>by
  have:=pow_sq n (pow_mul h h)
  have e:(m+m) * 2 ^ n=m * 2 ^ (n+1):=by rw [Nat.pow_succ,← Nat.mul_assoc,← Nat.two_mul,Nat.mul_comm 2 m,Nat.mul_assoc,Nat.mul_comm 2,← Nat.mul_assoc]
  rw [e] at this
  exact this
theorem pow_ones {a:E5}(ha:a.ok):∀ (f n:Nat),1≤n→n < 2 ^ f→PowE a (2 ^ n - 1) (onesF a f n)
 | 0,n,h1,h2=>by rw [Nat.pow_zero] at h2; omega
 | f+1,n,h1,h2=>by
  simp only [onesF]
  rcases beq_cases n 1 with ⟨e,hb⟩ | ⟨e,hb⟩
  ·rw [hb,cond_true,e]
   exact pow_one ha
  ·rw [hb,cond_false]
   have hm:1≤n / 2:=by omega
   have ih:=pow_ones ha f (n / 2) hm (by rw [Nat.pow_succ] at h2; omega)
   have p:=pow_mul (pow_sq (n / 2) ih) ih
   have hp:1≤2 ^ (n / 2):=Nat.one_le_two_pow
   have e1:(2 ^ (n / 2) - 1) * 2 ^ (n / 2)+(2 ^ (n / 2) - 1)=2 ^ (n / 2+n / 2) - 1:=by
    rw [Nat.pow_add,Nat.sub_mul,Nat.one_mul]
    have:2 ^ (n / 2)≤2 ^ (n / 2) * 2 ^ (n / 2):=Nat.le_mul_of_pos_left _ hp
    omega
   rw [e1] at p
   rcases beq_cases (n % 2) 1 with ⟨e2,hb2⟩ | ⟨e2,hb2⟩
   ·rw [hb2,cond_true]
    have p2:=pow_mul (pow_sq 1 p) (pow_one ha)
    have e3:(2 ^ (n / 2+n / 2) - 1) * 2 ^ 1+1=2 ^ n - 1:=by
     have e4:n=n / 2+n / 2+1:=by omega
     have:1≤2 ^ (n / 2+n / 2):=Nat.one_le_two_pow
     conv=>rhs; rw [e4]
     rw [Nat.pow_succ]
     omega
    rw [e3] at p2
    exact p2
   ·rw [hb2,cond_false]
    have e4:n / 2+n / 2=n:=by omega
    rw [e4] at p
    exact p
def eInv:Nat:=bitsNat 0 (bitsL 255 21)
theorem eInv_eq:(2 ^ 250 - 1) * 2 ^ 5+(1+1+1+1 * 2 ^ 3)=eInv:=by kernel_rfl
theorem pow_inv {a:E5}(ha:a.ok):PowE a eInv (invE a):=by
 have h:=pow_ones ha 8 250 (by decide) (by decide)
 have p:=pow_mul (pow_sq 5 h) (pow_mul (pow_mul (pow_mul (pow_one ha) (pow_one ha)) (pow_one ha)) (pow_sq 3 (pow_one ha)))
 rw [eInv_eq] at p
 have e:invE a=mulE (sqE (onesF a 8 250) 5) (mulE (mulE (mulE a a) a) (sqE a 3)):=by unfold invE onesE; rfl
 rw [e]
 exact p
theorem rel_pow {a b:E5}{x:N16}{l:List Bool}(h:Rel a x) (p:PowE a (bitsNat 0 l) b):Rel b (powP x l):=by
 refine ⟨p.ok,powP_ok x h.okP l,?_⟩
 rw [powP_val x h.okP,p.val,h.val,← Nat.pow_mod]
theorem rel_inv {a:E5}{x:N16}(h:Rel a x):Rel (invE a) (invP x):=rel_pow h (pow_inv h.ok)
end Go.Num
namespace Go.Num
open Go Go.Eng
end Go.Num
namespace Go.Num
open Go Go.Eng
theorem neg_nat {a:E5}(ha:a.ok):(negE a).ok∧(negE a).val % Pq=(Pq - a.val % Pq) % Pq:=by
 obtain ⟨o,e,hle⟩:=subE_val zeroE a zeroE_ok ha
 refine ⟨o,?_⟩
 unfold negE
 rw [e,sub_mod _ _ _ Pq_pos hle,zeroE_val,Nat.zero_mod,Nat.zero_add]
theorem small_mod (n:UInt32):(smallE n).val % Pq=n.toNat:=by
 have h:=n.toNat_lt
 simp only [Nat.reducePow] at h
 rw [(smallE_val n).2,Nat.mod_eq_of_lt (by unfold Pq; omega)]
end Go.Num
namespace Go.Num
def pwB (n a x:Nat):List Bool→Nat
 | []=>x
 | b::l=>pwB n a (cond b (x * x % n * a % n) (x * x % n)) l
def bN (k:Nat):List Bool→Nat
 | []=>k
 | b::l=>bN (cond b (k+k+1) (k+k)) l
theorem pwB_val (n a:Nat):∀ (l:List Bool) (x k:Nat),x=a ^ k % n→pwB n a x l=a ^ (bN k l) % n
 | [],x,k,h=>h
 | b::l,x,k,h=>by
  unfold pwB bN
  refine pwB_val n a l _ _ ?_
  have e:x * x % n=a ^ (k+k) % n:=by rw [h,Nat.pow_add,← Nat.mul_mod]
  cases b with
  | false=>exact e
  | true =>
   show x * x % n * a % n=a ^ (k+k+1) % n
   rw [e,Nat.pow_succ,Nat.mod_mul_mod]
def bitsOf (e:Nat):List Bool:=(List.range 256).map fun i=>e.testBit (255 - i)
def pwE (n a e:Nat):Nat:=pwB n a 1 (bitsOf e)
theorem pwE_val {n a e:Nat}(hn:1 < n) (h:bN 0 (bitsOf e)=e):a ^ e % n=pwE n a e:=by
 have:=pwB_val n a (bitsOf e) 1 0 (by rw [Nat.pow_zero]; exact (Nat.mod_eq_of_lt hn).symm)
 unfold pwE
 rw [this,h]
end Go.Num
namespace Go.Num
open Go Go.Eng
theorem pow_congr {P a b:Nat}(h:a % P=b % P) (k:Nat):a ^ k % P=b ^ k % P:=by rw [Nat.pow_mod,h,← Nat.pow_mod]
theorem mul_congr {P a b c d:Nat}(h:a % P=b % P) (k:c % P=d % P):a * c % P=b * d % P:=by rw [Nat.mul_mod,h,k,← Nat.mul_mod]
structure Vm (x:E5) (n:Nat):Prop where
 ok:x.ok
 val:x.val % Pq=n % Pq
theorem Vm.self {x:E5}(h:x.ok):Vm x x.val:=⟨h,rfl⟩
theorem Vm.add {x y:E5}{n m:Nat}(h:Vm x n) (k:Vm y m):Vm (addE x y) (n+m):=by
 obtain ⟨o,e⟩:=addE_val x y h.ok k.ok
 exact ⟨o,by rw [e,Nat.add_mod,h.val,k.val,← Nat.add_mod]⟩
theorem Vm.mul {x y:E5}{n m:Nat}(h:Vm x n) (k:Vm y m):Vm (mulE x y) (n * m):=by
 obtain ⟨o,e⟩:=mulE_val x y h.ok k.ok
 exact ⟨o,by rw [e]; exact mul_congr h.val k.val⟩
theorem Vm.sub {x y:E5}{n m:Nat}(h:Vm x n) (k:Vm y m):Vm (subE x y) (n+(Pq - m % Pq)):=by
 obtain ⟨o,e,hle⟩:=subE_val x y h.ok k.ok
 refine ⟨o,?_⟩
 rw [e,sub_mod _ _ _ Pq_pos hle,k.val,h.val,← Nat.add_mod_mod,Nat.add_mod_mod,Nat.add_mod]
 rw [Nat.mod_mod,← Nat.add_mod]
theorem Vm.neg {x:E5}{n:Nat}(h:Vm x n):Vm (negE x) (Pq - n % Pq):=by
 obtain ⟨o,e⟩:=neg_nat h.ok
 exact ⟨o,by rw [e,h.val]⟩
theorem Vm.same {x y:E5}{n m:Nat}(h:Vm x n) (k:Vm y m):sameE x y=decide (n % Pq=m % Pq):=by rw [sameE_eq,h.val,k.val]
theorem fInv:eInv=Pq - 2:=by kernel_rfl
theorem vm_inv {a:E5}{n:Nat}(h:Vm a n):Vm (invE a) (n ^ (Pq - 2)):=by
 have p:=pow_inv h.ok
 refine ⟨p.ok,?_⟩
 rw [p.val,fInv]
 generalize Pq - 2=e
 exact pow_congr h.val e
end Go.Num
namespace Go.Num
open Go Go.Eng
structure Ops (R:Type) where
 add:R→R→R
 sub:R→R→R
 mul:R→R→R
 small:UInt32→R
 zero:R
structure P2 (R:Type) where
 x:R
 z:R
def stepO {R:Type}(o:Ops R) (p q:P2 R) (u:R):P2 R × P2 R:=
  (⟨o.mul (o.mul (o.add p.x p.z) (o.add p.x p.z)) (o.mul (o.sub p.x p.z) (o.sub p.x p.z)),
    o.mul (o.sub (o.mul (o.add p.x p.z) (o.add p.x p.z)) (o.mul (o.sub p.x p.z) (o.sub p.x p.z))) (o.add (o.mul (o.add p.x p.z) (o.add p.x p.z)) (o.mul (o.small 121665) (o.sub (o.mul (o.add p.x p.z) (o.add p.x p.z)) (o.mul (o.sub p.x p.z) (o.sub p.x p.z)))))⟩,
   ⟨o.mul (o.add (o.mul (o.sub q.x q.z) (o.add p.x p.z)) (o.mul (o.add q.x q.z) (o.sub p.x p.z))) (o.add (o.mul (o.sub q.x q.z) (o.add p.x p.z)) (o.mul (o.add q.x q.z) (o.sub p.x p.z))),
    o.mul u (o.mul (o.sub (o.mul (o.sub q.x q.z) (o.add p.x p.z)) (o.mul (o.add q.x q.z) (o.sub p.x p.z))) (o.sub (o.mul (o.sub q.x q.z) (o.add p.x p.z)) (o.mul (o.add q.x q.z) (o.sub p.x p.z))))⟩)
def rndO {R:Type}(o:Ops R) (u:R) (b:Bool) (s:P2 R × P2 R):P2 R × P2 R:=
 cond b ((stepO o s.2 s.1 u).2,(stepO o s.2 s.1 u).1) (stepO o s.1 s.2 u)
def bitB (k:List UInt8) (i:Nat):UInt8:=shr_u8 (k.getD (i / 8) 0) (i % 8) &&& 1
def bitK (k:List UInt8) (i:Nat):Bool:=bitB k i == 1
def ladO {R:Type}(o:Ops R) (k:List UInt8) (u:R):Nat→P2 R × P2 R
 | 0=>(⟨o.small 1,o.zero⟩,⟨u,o.small 1⟩)
 | j+1=>rndO o u (bitK k (254 - j)) (ladO o k u j)
structure Keeps {R S:Type} (o:Ops R) (o':Ops S) (r:R→S→Prop):Prop where
 add:∀ {a b x y},r a x→r b y→r (o.add a b) (o'.add x y)
 sub:∀ {a b x y},r a x→r b y→r (o.sub a b) (o'.sub x y)
 mul:∀ {a b x y},r a x→r b y→r (o.mul a b) (o'.mul x y)
 small:∀ n,r (o.small n) (o'.small n)
 zero:r o.zero o'.zero
def R2 {R S:Type}(r:R→S→Prop) (p:P2 R) (q:P2 S):Prop:=r p.x q.x∧r p.z q.z
theorem step_keeps {R S:Type}{o:Ops R}{o':Ops S}{r:R→S→Prop}(k:Keeps o o' r){p q:P2 R}{p' q':P2 S}{u:R}{u':S}(hp:R2 r p p') (hq:R2 r q q') (hu:r u u') :
  R2 r (stepO o p q u).1 (stepO o' p' q' u').1∧R2 r (stepO o p q u).2 (stepO o' p' q' u').2:=by
 have a:=k.add hp.1 hp.2
 have d:=k.sub hp.1 hp.2
 have aa:=k.mul a a
 have dd:=k.mul d d
 have e:=k.sub aa dd
 have da:=k.mul (k.sub hq.1 hq.2) a
 have cb:=k.mul (k.add hq.1 hq.2) d
 have s:=k.add da cb
 have t:=k.sub da cb
 exact ⟨⟨k.mul aa dd,k.mul e (k.add aa (k.mul (k.small _) e))⟩,⟨k.mul s s,k.mul hu (k.mul t t)⟩⟩
theorem lad_keeps {R S:Type}{o:Ops R}{o':Ops S}{r:R→S→Prop}(k:Keeps o o' r) (l:List UInt8){u:R}{u':S}(hu:r u u') :
  ∀ j,R2 r (ladO o l u j).1 (ladO o' l u' j).1∧R2 r (ladO o l u j).2 (ladO o' l u' j).2
 | 0=>⟨⟨k.small 1,k.zero⟩,⟨hu,k.small 1⟩⟩
 | j+1=>by
  have ih:=lad_keeps k l hu j
  unfold ladO rndO
  cases bitK l (254 - j) with
  | false=>exact step_keeps k ih.1 ih.2 hu
  | true =>
   have:=step_keeps k ih.2 ih.1 hu
   exact ⟨this.2,this.1⟩
def opsE:Ops E5:=⟨addE,subE,mulE,smallE,zeroE⟩
def opsN:Ops N16:=⟨addP,subP,mulP,smallN,zeroN⟩
def opsM:Ops Nat:=⟨fun a b=>(a+b) % Pq,fun a b=>(a+(Pq - b)) % Pq,fun a b=>a * b % Pq,fun n=>n.toNat,0⟩
theorem keeps_EN:Keeps opsE opsN Rel:=⟨rel_add,rel_sub,rel_mul,rel_small,rel_zero⟩
structure RelM (a:E5) (n:Nat):Prop where
 ok:a.ok
 val:a.val % Pq=n
theorem relM (a:E5) (h:a.ok):RelM a (a.val % Pq):=⟨h,rfl⟩
theorem RelM.lt {a:E5}{n:Nat}(h:RelM a n):n < Pq:=by rw [← h.val]; exact Nat.mod_lt _ Pq_pos
theorem keeps_EM:Keeps opsE opsM RelM where
 add {a b x y} h k:=by
  obtain ⟨o,e⟩:=addE_val a b h.ok k.ok
  exact ⟨o,by show _=(x+y) % Pq; rw [← h.val,← k.val,← Nat.add_mod]; exact e⟩
 sub {a b x y} h k:=by
  obtain ⟨o,e,hle⟩:=subE_val a b h.ok k.ok
  refine ⟨o,?_⟩
  show _=(x+(Pq - y)) % Pq
  rw [← h.val,← k.val]
  exact e.trans (sub_mod _ _ _ Pq_pos hle)
 mul {a b x y} h k:=by
  obtain ⟨o,e⟩:=mulE_val a b h.ok k.ok
  exact ⟨o,by show _=x * y % Pq; rw [← h.val,← k.val,← Nat.mul_mod]; exact e⟩
 small n:=⟨(smallE_val n).1,small_mod n⟩
 zero:=⟨zeroE_ok,show zeroE.val % Pq=0 by rw [zeroE_val]; rfl⟩
def topL (u:List UInt8):List UInt8:=u.set 31 (u.getD 31 0 &&& 127)
def ladF (k u:List UInt8):P2 E5:=(ladO opsE (clampL k) (ofEl (topL u)) 255).1
def ladE (k u:List UInt8):List UInt8:=bytesE (mulE (ladF k u).x (invE (ladF k u).z))
def ladG (k u:List UInt8):P2 N16:=(ladO opsN (clampL k) (ofP (topL u)) 255).1
def ladP (k u:List UInt8):List UInt8:=bytesN (mulP (ladG k u).x (invP (ladG k u).z))
theorem topL_len {u:List UInt8}{n:Nat}(h:isLen u n=true):isLen (topL u) n=true:=by
 rw [isLen_eq] at h ⊢
 unfold topL
 rw [List.length_set]; exact h
theorem lad_same (k:List UInt8){u:List UInt8}(h:isLen u 32=true):ladE k u=ladP k u:=by
 have r:=(lad_keeps keeps_EN (clampL k) (rel_of (topL_len h)) 255).1
 exact (rel_mul r.1 (rel_inv r.2)).bytes
def ladM (k:List UInt8) (u:Nat):P2 Nat:=(ladO opsM (clampL k) u 255).1
def quotM (p:P2 Nat):Nat:=p.x * pwE Pq p.z (Pq - 2) % Pq
theorem pw_inv (x:Nat):pwE Pq x (Pq - 2)=x ^ (Pq - 2) % Pq:=(pwE_val (by decide) (by kernel_rfl)).symm
theorem ladE_val (k:List UInt8){u:List UInt8}:leNat (ladE k u)=quotM (ladM k ((ofEl (topL u)).val % Pq)):=by
 have r:=(lad_keeps keeps_EM (clampL k) (relM _ (ofEl_ok (topL u))) 255).1
 have vx:=Vm.self r.1.ok
 have vz:=vm_inv (Vm.self r.2.ok)
 have e:=(vx.mul vz).val
 unfold ladE
 rw [bytesE_val]
 refine e.trans ?_
 unfold quotM
 rw [pw_inv]
 generalize Pq - 2=n
 have h1:(ladF k u).x.val % Pq=(ladM k ((ofEl (topL u)).val % Pq)).x:=r.1.val
 have h2:(ladF k u).z.val % Pq=(ladM k ((ofEl (topL u)).val % Pq)).z:=r.2.val
 refine mul_congr (b:=(ladM k ((ofEl (topL u)).val % Pq)).x) ?_ ?_
 ·rw [← h1,Nat.mod_mod]; rfl
 ·rw [← h2,Nat.mod_mod]
  exact (Nat.pow_mod _ _ _).trans rfl
theorem ladE_len (k u:List UInt8):(ladE k u).length=32:=bytesE_len _
end Go.Num
