/- Numbers modulo the order: the document's functions. -/
import Derived.Test.YtalflblaefffnaaOrd1
import Derived.Test.YtalflblaefffnaaNum2
namespace Go.Proofs.Ytalflblaefffnaa
set_option linter.unusedVariables false
set_option linter.unusedSimpArgs false
open Go Go.Eng Go.Num
set_option maxRecDepth 100000
set_option maxHeartbeats 1000000
set_option linter.unusedSimpArgs false
set_option linter.unusedVariables false
theorem run27 (a b : N16) : (run1 Try.prog cs0 (mask 27) 100 27 [a.av, b.av] [] Try.prog.globals.size).map (·.1) = some (.bool (lessN a b)) := by
  cases h15 : (a.x15 != b.x15)
  rotate_left
  · have e : lessN a b = decide (a.x15 < b.x15) := by simp [lessN, N16.list, lessL, h15]
    rw [e]
    exact ansO_run (noPS_ok _) (P := Try.prog) (cs := cs0) (sy := [16]) (os := [true]) (nn := mask 27) (F := 100) (f := 27) (ob := [(a.x15 != b.x15)]) (show ansO (run1O Try.prog noPS cs0 [16] [true] (mask 27) 100 27 [a.av, b.av] [] Try.prog.globals.size) = some (.bool (decide (a.x15 < b.x15)), [(a.x15 != b.x15)]) from by kernel_rfl) (by simp [allT, h15])
  cases h14 : (a.x14 != b.x14)
  rotate_left
  · have e : lessN a b = decide (a.x14 < b.x14) := by simp [lessN, N16.list, lessL, h15, h14]
    rw [e]
    exact ansO_run (noPS_ok _) (P := Try.prog) (cs := cs0) (sy := [16]) (os := [false, true]) (nn := mask 27) (F := 100) (f := 27) (ob := [(a.x14 != b.x14), !(a.x15 != b.x15)]) (show ansO (run1O Try.prog noPS cs0 [16] [false, true] (mask 27) 100 27 [a.av, b.av] [] Try.prog.globals.size) = some (.bool (decide (a.x14 < b.x14)), [(a.x14 != b.x14), !(a.x15 != b.x15)]) from by kernel_rfl) (by simp [allT, h15, h14])
  cases h13 : (a.x13 != b.x13)
  rotate_left
  · have e : lessN a b = decide (a.x13 < b.x13) := by simp [lessN, N16.list, lessL, h15, h14, h13]
    rw [e]
    exact ansO_run (noPS_ok _) (P := Try.prog) (cs := cs0) (sy := [16]) (os := [false, false, true]) (nn := mask 27) (F := 100) (f := 27) (ob := [(a.x13 != b.x13), !(a.x14 != b.x14), !(a.x15 != b.x15)]) (show ansO (run1O Try.prog noPS cs0 [16] [false, false, true] (mask 27) 100 27 [a.av, b.av] [] Try.prog.globals.size) = some (.bool (decide (a.x13 < b.x13)), [(a.x13 != b.x13), !(a.x14 != b.x14), !(a.x15 != b.x15)]) from by kernel_rfl) (by simp [allT, h15, h14, h13])
  cases h12 : (a.x12 != b.x12)
  rotate_left
  · have e : lessN a b = decide (a.x12 < b.x12) := by simp [lessN, N16.list, lessL, h15, h14, h13, h12]
    rw [e]
    exact ansO_run (noPS_ok _) (P := Try.prog) (cs := cs0) (sy := [16]) (os := [false, false, false, true]) (nn := mask 27) (F := 100) (f := 27) (ob := [(a.x12 != b.x12), !(a.x13 != b.x13), !(a.x14 != b.x14), !(a.x15 != b.x15)]) (show ansO (run1O Try.prog noPS cs0 [16] [false, false, false, true] (mask 27) 100 27 [a.av, b.av] [] Try.prog.globals.size) = some (.bool (decide (a.x12 < b.x12)), [(a.x12 != b.x12), !(a.x13 != b.x13), !(a.x14 != b.x14), !(a.x15 != b.x15)]) from by kernel_rfl) (by simp [allT, h15, h14, h13, h12])
  cases h11 : (a.x11 != b.x11)
  rotate_left
  · have e : lessN a b = decide (a.x11 < b.x11) := by simp [lessN, N16.list, lessL, h15, h14, h13, h12, h11]
    rw [e]
    exact ansO_run (noPS_ok _) (P := Try.prog) (cs := cs0) (sy := [16]) (os := [false, false, false, false, true]) (nn := mask 27) (F := 100) (f := 27) (ob := [(a.x11 != b.x11), !(a.x12 != b.x12), !(a.x13 != b.x13), !(a.x14 != b.x14), !(a.x15 != b.x15)]) (show ansO (run1O Try.prog noPS cs0 [16] [false, false, false, false, true] (mask 27) 100 27 [a.av, b.av] [] Try.prog.globals.size) = some (.bool (decide (a.x11 < b.x11)), [(a.x11 != b.x11), !(a.x12 != b.x12), !(a.x13 != b.x13), !(a.x14 != b.x14), !(a.x15 != b.x15)]) from by kernel_rfl) (by simp [allT, h15, h14, h13, h12, h11])
  cases h10 : (a.x10 != b.x10)
  rotate_left
  · have e : lessN a b = decide (a.x10 < b.x10) := by simp [lessN, N16.list, lessL, h15, h14, h13, h12, h11, h10]
    rw [e]
    exact ansO_run (noPS_ok _) (P := Try.prog) (cs := cs0) (sy := [16]) (os := [false, false, false, false, false, true]) (nn := mask 27) (F := 100) (f := 27) (ob := [(a.x10 != b.x10), !(a.x11 != b.x11), !(a.x12 != b.x12), !(a.x13 != b.x13), !(a.x14 != b.x14), !(a.x15 != b.x15)]) (show ansO (run1O Try.prog noPS cs0 [16] [false, false, false, false, false, true] (mask 27) 100 27 [a.av, b.av] [] Try.prog.globals.size) = some (.bool (decide (a.x10 < b.x10)), [(a.x10 != b.x10), !(a.x11 != b.x11), !(a.x12 != b.x12), !(a.x13 != b.x13), !(a.x14 != b.x14), !(a.x15 != b.x15)]) from by kernel_rfl) (by simp [allT, h15, h14, h13, h12, h11, h10])
  cases h9 : (a.x9 != b.x9)
  rotate_left
  · have e : lessN a b = decide (a.x9 < b.x9) := by simp [lessN, N16.list, lessL, h15, h14, h13, h12, h11, h10, h9]
    rw [e]
    exact ansO_run (noPS_ok _) (P := Try.prog) (cs := cs0) (sy := [16]) (os := [false, false, false, false, false, false, true]) (nn := mask 27) (F := 100) (f := 27) (ob := [(a.x9 != b.x9), !(a.x10 != b.x10), !(a.x11 != b.x11), !(a.x12 != b.x12), !(a.x13 != b.x13), !(a.x14 != b.x14), !(a.x15 != b.x15)]) (show ansO (run1O Try.prog noPS cs0 [16] [false, false, false, false, false, false, true] (mask 27) 100 27 [a.av, b.av] [] Try.prog.globals.size) = some (.bool (decide (a.x9 < b.x9)), [(a.x9 != b.x9), !(a.x10 != b.x10), !(a.x11 != b.x11), !(a.x12 != b.x12), !(a.x13 != b.x13), !(a.x14 != b.x14), !(a.x15 != b.x15)]) from by kernel_rfl) (by simp [allT, h15, h14, h13, h12, h11, h10, h9])
  cases h8 : (a.x8 != b.x8)
  rotate_left
  · have e : lessN a b = decide (a.x8 < b.x8) := by simp [lessN, N16.list, lessL, h15, h14, h13, h12, h11, h10, h9, h8]
    rw [e]
    exact ansO_run (noPS_ok _) (P := Try.prog) (cs := cs0) (sy := [16]) (os := [false, false, false, false, false, false, false, true]) (nn := mask 27) (F := 100) (f := 27) (ob := [(a.x8 != b.x8), !(a.x9 != b.x9), !(a.x10 != b.x10), !(a.x11 != b.x11), !(a.x12 != b.x12), !(a.x13 != b.x13), !(a.x14 != b.x14), !(a.x15 != b.x15)]) (show ansO (run1O Try.prog noPS cs0 [16] [false, false, false, false, false, false, false, true] (mask 27) 100 27 [a.av, b.av] [] Try.prog.globals.size) = some (.bool (decide (a.x8 < b.x8)), [(a.x8 != b.x8), !(a.x9 != b.x9), !(a.x10 != b.x10), !(a.x11 != b.x11), !(a.x12 != b.x12), !(a.x13 != b.x13), !(a.x14 != b.x14), !(a.x15 != b.x15)]) from by kernel_rfl) (by simp [allT, h15, h14, h13, h12, h11, h10, h9, h8])
  cases h7 : (a.x7 != b.x7)
  rotate_left
  · have e : lessN a b = decide (a.x7 < b.x7) := by simp [lessN, N16.list, lessL, h15, h14, h13, h12, h11, h10, h9, h8, h7]
    rw [e]
    exact ansO_run (noPS_ok _) (P := Try.prog) (cs := cs0) (sy := [16]) (os := [false, false, false, false, false, false, false, false, true]) (nn := mask 27) (F := 100) (f := 27) (ob := [(a.x7 != b.x7), !(a.x8 != b.x8), !(a.x9 != b.x9), !(a.x10 != b.x10), !(a.x11 != b.x11), !(a.x12 != b.x12), !(a.x13 != b.x13), !(a.x14 != b.x14), !(a.x15 != b.x15)]) (show ansO (run1O Try.prog noPS cs0 [16] [false, false, false, false, false, false, false, false, true] (mask 27) 100 27 [a.av, b.av] [] Try.prog.globals.size) = some (.bool (decide (a.x7 < b.x7)), [(a.x7 != b.x7), !(a.x8 != b.x8), !(a.x9 != b.x9), !(a.x10 != b.x10), !(a.x11 != b.x11), !(a.x12 != b.x12), !(a.x13 != b.x13), !(a.x14 != b.x14), !(a.x15 != b.x15)]) from by kernel_rfl) (by simp [allT, h15, h14, h13, h12, h11, h10, h9, h8, h7])
  cases h6 : (a.x6 != b.x6)
  rotate_left
  · have e : lessN a b = decide (a.x6 < b.x6) := by simp [lessN, N16.list, lessL, h15, h14, h13, h12, h11, h10, h9, h8, h7, h6]
    rw [e]
    exact ansO_run (noPS_ok _) (P := Try.prog) (cs := cs0) (sy := [16]) (os := [false, false, false, false, false, false, false, false, false, true]) (nn := mask 27) (F := 100) (f := 27) (ob := [(a.x6 != b.x6), !(a.x7 != b.x7), !(a.x8 != b.x8), !(a.x9 != b.x9), !(a.x10 != b.x10), !(a.x11 != b.x11), !(a.x12 != b.x12), !(a.x13 != b.x13), !(a.x14 != b.x14), !(a.x15 != b.x15)]) (show ansO (run1O Try.prog noPS cs0 [16] [false, false, false, false, false, false, false, false, false, true] (mask 27) 100 27 [a.av, b.av] [] Try.prog.globals.size) = some (.bool (decide (a.x6 < b.x6)), [(a.x6 != b.x6), !(a.x7 != b.x7), !(a.x8 != b.x8), !(a.x9 != b.x9), !(a.x10 != b.x10), !(a.x11 != b.x11), !(a.x12 != b.x12), !(a.x13 != b.x13), !(a.x14 != b.x14), !(a.x15 != b.x15)]) from by kernel_rfl) (by simp [allT, h15, h14, h13, h12, h11, h10, h9, h8, h7, h6])
  cases h5 : (a.x5 != b.x5)
  rotate_left
  · have e : lessN a b = decide (a.x5 < b.x5) := by simp [lessN, N16.list, lessL, h15, h14, h13, h12, h11, h10, h9, h8, h7, h6, h5]
    rw [e]
    exact ansO_run (noPS_ok _) (P := Try.prog) (cs := cs0) (sy := [16]) (os := [false, false, false, false, false, false, false, false, false, false, true]) (nn := mask 27) (F := 100) (f := 27) (ob := [(a.x5 != b.x5), !(a.x6 != b.x6), !(a.x7 != b.x7), !(a.x8 != b.x8), !(a.x9 != b.x9), !(a.x10 != b.x10), !(a.x11 != b.x11), !(a.x12 != b.x12), !(a.x13 != b.x13), !(a.x14 != b.x14), !(a.x15 != b.x15)]) (show ansO (run1O Try.prog noPS cs0 [16] [false, false, false, false, false, false, false, false, false, false, true] (mask 27) 100 27 [a.av, b.av] [] Try.prog.globals.size) = some (.bool (decide (a.x5 < b.x5)), [(a.x5 != b.x5), !(a.x6 != b.x6), !(a.x7 != b.x7), !(a.x8 != b.x8), !(a.x9 != b.x9), !(a.x10 != b.x10), !(a.x11 != b.x11), !(a.x12 != b.x12), !(a.x13 != b.x13), !(a.x14 != b.x14), !(a.x15 != b.x15)]) from by kernel_rfl) (by simp [allT, h15, h14, h13, h12, h11, h10, h9, h8, h7, h6, h5])
  cases h4 : (a.x4 != b.x4)
  rotate_left
  · have e : lessN a b = decide (a.x4 < b.x4) := by simp [lessN, N16.list, lessL, h15, h14, h13, h12, h11, h10, h9, h8, h7, h6, h5, h4]
    rw [e]
    exact ansO_run (noPS_ok _) (P := Try.prog) (cs := cs0) (sy := [16]) (os := [false, false, false, false, false, false, false, false, false, false, false, true]) (nn := mask 27) (F := 100) (f := 27) (ob := [(a.x4 != b.x4), !(a.x5 != b.x5), !(a.x6 != b.x6), !(a.x7 != b.x7), !(a.x8 != b.x8), !(a.x9 != b.x9), !(a.x10 != b.x10), !(a.x11 != b.x11), !(a.x12 != b.x12), !(a.x13 != b.x13), !(a.x14 != b.x14), !(a.x15 != b.x15)]) (show ansO (run1O Try.prog noPS cs0 [16] [false, false, false, false, false, false, false, false, false, false, false, true] (mask 27) 100 27 [a.av, b.av] [] Try.prog.globals.size) = some (.bool (decide (a.x4 < b.x4)), [(a.x4 != b.x4), !(a.x5 != b.x5), !(a.x6 != b.x6), !(a.x7 != b.x7), !(a.x8 != b.x8), !(a.x9 != b.x9), !(a.x10 != b.x10), !(a.x11 != b.x11), !(a.x12 != b.x12), !(a.x13 != b.x13), !(a.x14 != b.x14), !(a.x15 != b.x15)]) from by kernel_rfl) (by simp [allT, h15, h14, h13, h12, h11, h10, h9, h8, h7, h6, h5, h4])
  cases h3 : (a.x3 != b.x3)
  rotate_left
  · have e : lessN a b = decide (a.x3 < b.x3) := by simp [lessN, N16.list, lessL, h15, h14, h13, h12, h11, h10, h9, h8, h7, h6, h5, h4, h3]
    rw [e]
    exact ansO_run (noPS_ok _) (P := Try.prog) (cs := cs0) (sy := [16]) (os := [false, false, false, false, false, false, false, false, false, false, false, false, true]) (nn := mask 27) (F := 100) (f := 27) (ob := [(a.x3 != b.x3), !(a.x4 != b.x4), !(a.x5 != b.x5), !(a.x6 != b.x6), !(a.x7 != b.x7), !(a.x8 != b.x8), !(a.x9 != b.x9), !(a.x10 != b.x10), !(a.x11 != b.x11), !(a.x12 != b.x12), !(a.x13 != b.x13), !(a.x14 != b.x14), !(a.x15 != b.x15)]) (show ansO (run1O Try.prog noPS cs0 [16] [false, false, false, false, false, false, false, false, false, false, false, false, true] (mask 27) 100 27 [a.av, b.av] [] Try.prog.globals.size) = some (.bool (decide (a.x3 < b.x3)), [(a.x3 != b.x3), !(a.x4 != b.x4), !(a.x5 != b.x5), !(a.x6 != b.x6), !(a.x7 != b.x7), !(a.x8 != b.x8), !(a.x9 != b.x9), !(a.x10 != b.x10), !(a.x11 != b.x11), !(a.x12 != b.x12), !(a.x13 != b.x13), !(a.x14 != b.x14), !(a.x15 != b.x15)]) from by kernel_rfl) (by simp [allT, h15, h14, h13, h12, h11, h10, h9, h8, h7, h6, h5, h4, h3])
  cases h2 : (a.x2 != b.x2)
  rotate_left
  · have e : lessN a b = decide (a.x2 < b.x2) := by simp [lessN, N16.list, lessL, h15, h14, h13, h12, h11, h10, h9, h8, h7, h6, h5, h4, h3, h2]
    rw [e]
    exact ansO_run (noPS_ok _) (P := Try.prog) (cs := cs0) (sy := [16]) (os := [false, false, false, false, false, false, false, false, false, false, false, false, false, true]) (nn := mask 27) (F := 100) (f := 27) (ob := [(a.x2 != b.x2), !(a.x3 != b.x3), !(a.x4 != b.x4), !(a.x5 != b.x5), !(a.x6 != b.x6), !(a.x7 != b.x7), !(a.x8 != b.x8), !(a.x9 != b.x9), !(a.x10 != b.x10), !(a.x11 != b.x11), !(a.x12 != b.x12), !(a.x13 != b.x13), !(a.x14 != b.x14), !(a.x15 != b.x15)]) (show ansO (run1O Try.prog noPS cs0 [16] [false, false, false, false, false, false, false, false, false, false, false, false, false, true] (mask 27) 100 27 [a.av, b.av] [] Try.prog.globals.size) = some (.bool (decide (a.x2 < b.x2)), [(a.x2 != b.x2), !(a.x3 != b.x3), !(a.x4 != b.x4), !(a.x5 != b.x5), !(a.x6 != b.x6), !(a.x7 != b.x7), !(a.x8 != b.x8), !(a.x9 != b.x9), !(a.x10 != b.x10), !(a.x11 != b.x11), !(a.x12 != b.x12), !(a.x13 != b.x13), !(a.x14 != b.x14), !(a.x15 != b.x15)]) from by kernel_rfl) (by simp [allT, h15, h14, h13, h12, h11, h10, h9, h8, h7, h6, h5, h4, h3, h2])
  cases h1 : (a.x1 != b.x1)
  rotate_left
  · have e : lessN a b = decide (a.x1 < b.x1) := by simp [lessN, N16.list, lessL, h15, h14, h13, h12, h11, h10, h9, h8, h7, h6, h5, h4, h3, h2, h1]
    rw [e]
    exact ansO_run (noPS_ok _) (P := Try.prog) (cs := cs0) (sy := [16]) (os := [false, false, false, false, false, false, false, false, false, false, false, false, false, false, true]) (nn := mask 27) (F := 100) (f := 27) (ob := [(a.x1 != b.x1), !(a.x2 != b.x2), !(a.x3 != b.x3), !(a.x4 != b.x4), !(a.x5 != b.x5), !(a.x6 != b.x6), !(a.x7 != b.x7), !(a.x8 != b.x8), !(a.x9 != b.x9), !(a.x10 != b.x10), !(a.x11 != b.x11), !(a.x12 != b.x12), !(a.x13 != b.x13), !(a.x14 != b.x14), !(a.x15 != b.x15)]) (show ansO (run1O Try.prog noPS cs0 [16] [false, false, false, false, false, false, false, false, false, false, false, false, false, false, true] (mask 27) 100 27 [a.av, b.av] [] Try.prog.globals.size) = some (.bool (decide (a.x1 < b.x1)), [(a.x1 != b.x1), !(a.x2 != b.x2), !(a.x3 != b.x3), !(a.x4 != b.x4), !(a.x5 != b.x5), !(a.x6 != b.x6), !(a.x7 != b.x7), !(a.x8 != b.x8), !(a.x9 != b.x9), !(a.x10 != b.x10), !(a.x11 != b.x11), !(a.x12 != b.x12), !(a.x13 != b.x13), !(a.x14 != b.x14), !(a.x15 != b.x15)]) from by kernel_rfl) (by simp [allT, h15, h14, h13, h12, h11, h10, h9, h8, h7, h6, h5, h4, h3, h2, h1])
  cases h0 : (a.x0 != b.x0)
  rotate_left
  · have e : lessN a b = decide (a.x0 < b.x0) := by simp [lessN, N16.list, lessL, h15, h14, h13, h12, h11, h10, h9, h8, h7, h6, h5, h4, h3, h2, h1, h0]
    rw [e]
    exact ansO_run (noPS_ok _) (P := Try.prog) (cs := cs0) (sy := [16]) (os := [false, false, false, false, false, false, false, false, false, false, false, false, false, false, false, true]) (nn := mask 27) (F := 100) (f := 27) (ob := [(a.x0 != b.x0), !(a.x1 != b.x1), !(a.x2 != b.x2), !(a.x3 != b.x3), !(a.x4 != b.x4), !(a.x5 != b.x5), !(a.x6 != b.x6), !(a.x7 != b.x7), !(a.x8 != b.x8), !(a.x9 != b.x9), !(a.x10 != b.x10), !(a.x11 != b.x11), !(a.x12 != b.x12), !(a.x13 != b.x13), !(a.x14 != b.x14), !(a.x15 != b.x15)]) (show ansO (run1O Try.prog noPS cs0 [16] [false, false, false, false, false, false, false, false, false, false, false, false, false, false, false, true] (mask 27) 100 27 [a.av, b.av] [] Try.prog.globals.size) = some (.bool (decide (a.x0 < b.x0)), [(a.x0 != b.x0), !(a.x1 != b.x1), !(a.x2 != b.x2), !(a.x3 != b.x3), !(a.x4 != b.x4), !(a.x5 != b.x5), !(a.x6 != b.x6), !(a.x7 != b.x7), !(a.x8 != b.x8), !(a.x9 != b.x9), !(a.x10 != b.x10), !(a.x11 != b.x11), !(a.x12 != b.x12), !(a.x13 != b.x13), !(a.x14 != b.x14), !(a.x15 != b.x15)]) from by kernel_rfl) (by simp [allT, h15, h14, h13, h12, h11, h10, h9, h8, h7, h6, h5, h4, h3, h2, h1, h0])
  have e : lessN a b = false := by simp [lessN, N16.list, lessL, h15, h14, h13, h12, h11, h10, h9, h8, h7, h6, h5, h4, h3, h2, h1, h0]
  rw [e]
  exact ansO_run (noPS_ok _) (P := Try.prog) (cs := cs0) (sy := [16]) (os := [false, false, false, false, false, false, false, false, false, false, false, false, false, false, false, false]) (nn := mask 27) (F := 100) (f := 27) (ob := [!(a.x0 != b.x0), !(a.x1 != b.x1), !(a.x2 != b.x2), !(a.x3 != b.x3), !(a.x4 != b.x4), !(a.x5 != b.x5), !(a.x6 != b.x6), !(a.x7 != b.x7), !(a.x8 != b.x8), !(a.x9 != b.x9), !(a.x10 != b.x10), !(a.x11 != b.x11), !(a.x12 != b.x12), !(a.x13 != b.x13), !(a.x14 != b.x14), !(a.x15 != b.x15)]) (show ansO (run1O Try.prog noPS cs0 [16] [false, false, false, false, false, false, false, false, false, false, false, false, false, false, false, false] (mask 27) 100 27 [a.av, b.av] [] Try.prog.globals.size) = some (.bool false, [!(a.x0 != b.x0), !(a.x1 != b.x1), !(a.x2 != b.x2), !(a.x3 != b.x3), !(a.x4 != b.x4), !(a.x5 != b.x5), !(a.x6 != b.x6), !(a.x7 != b.x7), !(a.x8 != b.x8), !(a.x9 != b.x9), !(a.x10 != b.x10), !(a.x11 != b.x11), !(a.x12 != b.x12), !(a.x13 != b.x13), !(a.x14 != b.x14), !(a.x15 != b.x15)]) from by kernel_rfl) (by simp [allT, h15, h14, h13, h12, h11, h10, h9, h8, h7, h6, h5, h4, h3, h2, h1, h0])
def g27 : List AVal → Option EffA
  | [.agg [.u64 a0, .u64 a1, .u64 a2, .u64 a3, .u64 a4, .u64 a5, .u64 a6, .u64 a7, .u64 a8, .u64 a9, .u64 a10, .u64 a11, .u64 a12, .u64 a13, .u64 a14, .u64 a15], .agg [.u64 b0, .u64 b1, .u64 b2, .u64 b3, .u64 b4, .u64 b5, .u64 b6, .u64 b7, .u64 b8, .u64 b9, .u64 b10, .u64 b11, .u64 b12, .u64 b13, .u64 b14, .u64 b15]] => some (.pure (.bool (lessN (N16.mk a0 a1 a2 a3 a4 a5 a6 a7 a8 a9 a10 a11 a12 a13 a14 a15) (N16.mk b0 b1 b2 b3 b4 b5 b6 b7 b8 b9 b10 b11 b12 b13 b14 b15))))
  | _ => none
theorem g27_ok : CSOk Try.prog (csOne 27 g27) := csOne_ok fun args e he => by
  unfold g27 at he
  split at he
  · rename_i a0 a1 a2 a3 a4 a5 a6 a7 a8 a9 a10 a11 a12 a13 a14 a15 b0 b1 b2 b3 b4 b5 b6 b7 b8 b9 b10 b11 b12 b13 b14 b15
    cases he
    exact callOk_val cs0_ok hmix (run27 (N16.mk a0 a1 a2 a3 a4 a5 a6 a7 a8 a9 a10 a11 a12 a13 a14 a15) (N16.mk b0 b1 b2 b3 b4 b5 b6 b7 b8 b9 b10 b11 b12 b13 b14 b15)) rfl rfl
  · cases he
theorem run28 (a0 a1 a2 a3 a4 a5 a6 a7 a8 a9 a10 a11 a12 a13 a14 a15 a16 a17 a18 a19 a20 a21 a22 a23 a24 a25 a26 a27 a28 a29 a30 a31 : UInt8) : (run1 Try.prog cs0 (mask 28) 100 28 [.str [a0, a1, a2, a3, a4, a5, a6, a7, a8, a9, a10, a11, a12, a13, a14, a15, a16, a17, a18, a19, a20, a21, a22, a23, a24, a25, a26, a27, a28, a29, a30, a31]] [] Try.prog.globals.size).map (·.1) = some (partsN [a0, a1, a2, a3, a4, a5, a6, a7, a8, a9, a10, a11, a12, a13, a14, a15, a16, a17, a18, a19, a20, a21, a22, a23, a24, a25, a26, a27, a28, a29, a30, a31]).av := by kernel_rfl
def g28 : List AVal → Option EffA
  | [.str [a0, a1, a2, a3, a4, a5, a6, a7, a8, a9, a10, a11, a12, a13, a14, a15, a16, a17, a18, a19, a20, a21, a22, a23, a24, a25, a26, a27, a28, a29, a30, a31]] => some (.pure (partsN [a0, a1, a2, a3, a4, a5, a6, a7, a8, a9, a10, a11, a12, a13, a14, a15, a16, a17, a18, a19, a20, a21, a22, a23, a24, a25, a26, a27, a28, a29, a30, a31]).av)
  | _ => none
theorem g28_ok : CSOk Try.prog (csOne 28 g28) := csOne_ok fun args e he => by
  unfold g28 at he
  split at he
  · rename_i a0 a1 a2 a3 a4 a5 a6 a7 a8 a9 a10 a11 a12 a13 a14 a15 a16 a17 a18 a19 a20 a21 a22 a23 a24 a25 a26 a27 a28 a29 a30 a31
    cases he
    exact callOk_val cs0_ok hmix (run28 a0 a1 a2 a3 a4 a5 a6 a7 a8 a9 a10 a11 a12 a13 a14 a15 a16 a17 a18 a19 a20 a21 a22 a23 a24 a25 a26 a27 a28 a29 a30 a31) rfl rfl
  · cases he
theorem run24 (a : N16) : (run1 Try.prog cs0 (mask 24) 100 24 [(N16.av a)] [] Try.prog.globals.size).map (·.1) = some (.str (bytesN a)) := by kernel_rfl
def g24 : List AVal → Option EffA
  | [.agg [.u64 a0, .u64 a1, .u64 a2, .u64 a3, .u64 a4, .u64 a5, .u64 a6, .u64 a7, .u64 a8, .u64 a9, .u64 a10, .u64 a11, .u64 a12, .u64 a13, .u64 a14, .u64 a15]] => some (.pure (.str (bytesN (N16.mk a0 a1 a2 a3 a4 a5 a6 a7 a8 a9 a10 a11 a12 a13 a14 a15))))
  | _ => none
theorem g24_ok : CSOk Try.prog (csOne 24 g24) := csOne_ok fun args e he => by
  unfold g24 at he
  split at he
  · rename_i a0 a1 a2 a3 a4 a5 a6 a7 a8 a9 a10 a11 a12 a13 a14 a15
    cases he
    exact callOk_val cs0_ok hmix (run24 (N16.mk a0 a1 a2 a3 a4 a5 a6 a7 a8 a9 a10 a11 a12 a13 a14 a15)) rfl rfl
  · cases he
theorem run23  : (run1 Try.prog cs0 (mask 23) 100 23 [] [] Try.prog.globals.size).map (·.1) = some (orderN.av) := by kernel_rfl
def g23 : List AVal → Option EffA
  | [] => some (.pure (orderN.av))
  | _ => none
theorem g23_ok : CSOk Try.prog (csOne 23 g23) := csOne_ok fun args e he => by
  unfold g23 at he
  split at he
  · skip
    cases he
    exact callOk_val cs0_ok hmix (run23 ) rfl rfl
  · cases he
theorem run29 (a : N16) (b : UInt64) : (run1 Try.prog cs0 (mask 29) 100 29 [(N16.av a), (.u64 b)] [] Try.prog.globals.size).map (·.1) = some (N16.av (twiceN a b)) := by kernel_rfl
def g29 : List AVal → Option EffA
  | [.agg [.u64 a0, .u64 a1, .u64 a2, .u64 a3, .u64 a4, .u64 a5, .u64 a6, .u64 a7, .u64 a8, .u64 a9, .u64 a10, .u64 a11, .u64 a12, .u64 a13, .u64 a14, .u64 a15], .u64 b] => some (.pure (N16.av (twiceN (N16.mk a0 a1 a2 a3 a4 a5 a6 a7 a8 a9 a10 a11 a12 a13 a14 a15) b)))
  | _ => none
theorem g29_ok : CSOk Try.prog (csOne 29 g29) := csOne_ok fun args e he => by
  unfold g29 at he
  split at he
  · rename_i a0 a1 a2 a3 a4 a5 a6 a7 a8 a9 a10 a11 a12 a13 a14 a15 b
    cases he
    exact callOk_val cs0_ok hmix (run29 (N16.mk a0 a1 a2 a3 a4 a5 a6 a7 a8 a9 a10 a11 a12 a13 a14 a15) b) rfl rfl
  · cases he
theorem run30 (a : N16) (b : N16) : (run1 Try.prog cs0 (mask 30) 100 30 [(N16.av a), (N16.av b)] [] Try.prog.globals.size).map (·.1) = some (N16.av (minusN a b)) := by kernel_rfl
def g30 : List AVal → Option EffA
  | [.agg [.u64 a0, .u64 a1, .u64 a2, .u64 a3, .u64 a4, .u64 a5, .u64 a6, .u64 a7, .u64 a8, .u64 a9, .u64 a10, .u64 a11, .u64 a12, .u64 a13, .u64 a14, .u64 a15], .agg [.u64 b0, .u64 b1, .u64 b2, .u64 b3, .u64 b4, .u64 b5, .u64 b6, .u64 b7, .u64 b8, .u64 b9, .u64 b10, .u64 b11, .u64 b12, .u64 b13, .u64 b14, .u64 b15]] => some (.pure (N16.av (minusN (N16.mk a0 a1 a2 a3 a4 a5 a6 a7 a8 a9 a10 a11 a12 a13 a14 a15) (N16.mk b0 b1 b2 b3 b4 b5 b6 b7 b8 b9 b10 b11 b12 b13 b14 b15))))
  | _ => none
theorem g30_ok : CSOk Try.prog (csOne 30 g30) := csOne_ok fun args e he => by
  unfold g30 at he
  split at he
  · rename_i a0 a1 a2 a3 a4 a5 a6 a7 a8 a9 a10 a11 a12 a13 a14 a15 b0 b1 b2 b3 b4 b5 b6 b7 b8 b9 b10 b11 b12 b13 b14 b15
    cases he
    exact callOk_val cs0_ok hmix (run30 (N16.mk a0 a1 a2 a3 a4 a5 a6 a7 a8 a9 a10 a11 a12 a13 a14 a15) (N16.mk b0 b1 b2 b3 b4 b5 b6 b7 b8 b9 b10 b11 b12 b13 b14 b15)) rfl rfl
  · cases he
def cr1 : CS := (csAlt (csOne 27 g27) (csAlt (csOne 28 g28) (csAlt (csOne 24 g24) (csAlt (csOne 23 g23) (csAlt (csOne 29 g29) (csOne 30 g30))))))
theorem cr1_ok : CSOk Try.prog cr1 := (csAlt_ok g27_ok (csAlt_ok g28_ok (csAlt_ok g24_ok (csAlt_ok g23_ok (csAlt_ok g29_ok g30_ok)))))
end Go.Proofs.Ytalflblaefffnaa
