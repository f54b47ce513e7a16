/- Numbers modulo 2^255 - 19: the document's functions. -/
import Derived.Test.YtkgbpnihbamceaaNu0
import Derived.Test.YtkgbpnihbamceaaNum8
namespace Go.Proofs.Ytkgbpnihbamceaa
set_option linter.unusedVariables false
set_option linter.unusedSimpArgs false
open Go Go.Eng Go.Num
set_option maxRecDepth 100000
set_option maxHeartbeats 1000000
set_option linter.unusedSimpArgs false
set_option linter.unusedVariables false
theorem run43 (a b : N16) : (run1 Try.prog cs0 (mask 43) 100 43 [a.av, b.av] [] Try.prog.globals.size).map (·.1) = some (.bool (lessN a b)) := by
  cases h15 : (a.x15 != b.x15)
  rotate_left
  · have e : lessN a b = decide (a.x15 < b.x15) := by simp [lessN, N16.list, lessL, h15]
    rw [e]
    exact ansO_run (noPS_ok _) (P := Try.prog) (cs := cs0) (sy := [16]) (os := [true]) (vs := []) (nn := mask 43) (F := 100) (f := 43) (ob := [(a.x15 != b.x15)]) (show ansO (run1O Try.prog noPS cs0 [16] [true] [] (mask 43) 100 43 [a.av, b.av] [] Try.prog.globals.size) = some (.bool (decide (a.x15 < b.x15)), [(a.x15 != b.x15)]) from by kernel_rfl) (by simp [allT, h15])
  cases h14 : (a.x14 != b.x14)
  rotate_left
  · have e : lessN a b = decide (a.x14 < b.x14) := by simp [lessN, N16.list, lessL, h15, h14]
    rw [e]
    exact ansO_run (noPS_ok _) (P := Try.prog) (cs := cs0) (sy := [16]) (os := [false, true]) (vs := []) (nn := mask 43) (F := 100) (f := 43) (ob := [(a.x14 != b.x14), !(a.x15 != b.x15)]) (show ansO (run1O Try.prog noPS cs0 [16] [false, true] [] (mask 43) 100 43 [a.av, b.av] [] Try.prog.globals.size) = some (.bool (decide (a.x14 < b.x14)), [(a.x14 != b.x14), !(a.x15 != b.x15)]) from by kernel_rfl) (by simp [allT, h15, h14])
  cases h13 : (a.x13 != b.x13)
  rotate_left
  · have e : lessN a b = decide (a.x13 < b.x13) := by simp [lessN, N16.list, lessL, h15, h14, h13]
    rw [e]
    exact ansO_run (noPS_ok _) (P := Try.prog) (cs := cs0) (sy := [16]) (os := [false, false, true]) (vs := []) (nn := mask 43) (F := 100) (f := 43) (ob := [(a.x13 != b.x13), !(a.x14 != b.x14), !(a.x15 != b.x15)]) (show ansO (run1O Try.prog noPS cs0 [16] [false, false, true] [] (mask 43) 100 43 [a.av, b.av] [] Try.prog.globals.size) = some (.bool (decide (a.x13 < b.x13)), [(a.x13 != b.x13), !(a.x14 != b.x14), !(a.x15 != b.x15)]) from by kernel_rfl) (by simp [allT, h15, h14, h13])
  cases h12 : (a.x12 != b.x12)
  rotate_left
  · have e : lessN a b = decide (a.x12 < b.x12) := by simp [lessN, N16.list, lessL, h15, h14, h13, h12]
    rw [e]
    exact ansO_run (noPS_ok _) (P := Try.prog) (cs := cs0) (sy := [16]) (os := [false, false, false, true]) (vs := []) (nn := mask 43) (F := 100) (f := 43) (ob := [(a.x12 != b.x12), !(a.x13 != b.x13), !(a.x14 != b.x14), !(a.x15 != b.x15)]) (show ansO (run1O Try.prog noPS cs0 [16] [false, false, false, true] [] (mask 43) 100 43 [a.av, b.av] [] Try.prog.globals.size) = some (.bool (decide (a.x12 < b.x12)), [(a.x12 != b.x12), !(a.x13 != b.x13), !(a.x14 != b.x14), !(a.x15 != b.x15)]) from by kernel_rfl) (by simp [allT, h15, h14, h13, h12])
  cases h11 : (a.x11 != b.x11)
  rotate_left
  · have e : lessN a b = decide (a.x11 < b.x11) := by simp [lessN, N16.list, lessL, h15, h14, h13, h12, h11]
    rw [e]
    exact ansO_run (noPS_ok _) (P := Try.prog) (cs := cs0) (sy := [16]) (os := [false, false, false, false, true]) (vs := []) (nn := mask 43) (F := 100) (f := 43) (ob := [(a.x11 != b.x11), !(a.x12 != b.x12), !(a.x13 != b.x13), !(a.x14 != b.x14), !(a.x15 != b.x15)]) (show ansO (run1O Try.prog noPS cs0 [16] [false, false, false, false, true] [] (mask 43) 100 43 [a.av, b.av] [] Try.prog.globals.size) = some (.bool (decide (a.x11 < b.x11)), [(a.x11 != b.x11), !(a.x12 != b.x12), !(a.x13 != b.x13), !(a.x14 != b.x14), !(a.x15 != b.x15)]) from by kernel_rfl) (by simp [allT, h15, h14, h13, h12, h11])
  cases h10 : (a.x10 != b.x10)
  rotate_left
  · have e : lessN a b = decide (a.x10 < b.x10) := by simp [lessN, N16.list, lessL, h15, h14, h13, h12, h11, h10]
    rw [e]
    exact ansO_run (noPS_ok _) (P := Try.prog) (cs := cs0) (sy := [16]) (os := [false, false, false, false, false, true]) (vs := []) (nn := mask 43) (F := 100) (f := 43) (ob := [(a.x10 != b.x10), !(a.x11 != b.x11), !(a.x12 != b.x12), !(a.x13 != b.x13), !(a.x14 != b.x14), !(a.x15 != b.x15)]) (show ansO (run1O Try.prog noPS cs0 [16] [false, false, false, false, false, true] [] (mask 43) 100 43 [a.av, b.av] [] Try.prog.globals.size) = some (.bool (decide (a.x10 < b.x10)), [(a.x10 != b.x10), !(a.x11 != b.x11), !(a.x12 != b.x12), !(a.x13 != b.x13), !(a.x14 != b.x14), !(a.x15 != b.x15)]) from by kernel_rfl) (by simp [allT, h15, h14, h13, h12, h11, h10])
  cases h9 : (a.x9 != b.x9)
  rotate_left
  · have e : lessN a b = decide (a.x9 < b.x9) := by simp [lessN, N16.list, lessL, h15, h14, h13, h12, h11, h10, h9]
    rw [e]
    exact ansO_run (noPS_ok _) (P := Try.prog) (cs := cs0) (sy := [16]) (os := [false, false, false, false, false, false, true]) (vs := []) (nn := mask 43) (F := 100) (f := 43) (ob := [(a.x9 != b.x9), !(a.x10 != b.x10), !(a.x11 != b.x11), !(a.x12 != b.x12), !(a.x13 != b.x13), !(a.x14 != b.x14), !(a.x15 != b.x15)]) (show ansO (run1O Try.prog noPS cs0 [16] [false, false, false, false, false, false, true] [] (mask 43) 100 43 [a.av, b.av] [] Try.prog.globals.size) = some (.bool (decide (a.x9 < b.x9)), [(a.x9 != b.x9), !(a.x10 != b.x10), !(a.x11 != b.x11), !(a.x12 != b.x12), !(a.x13 != b.x13), !(a.x14 != b.x14), !(a.x15 != b.x15)]) from by kernel_rfl) (by simp [allT, h15, h14, h13, h12, h11, h10, h9])
  cases h8 : (a.x8 != b.x8)
  rotate_left
  · have e : lessN a b = decide (a.x8 < b.x8) := by simp [lessN, N16.list, lessL, h15, h14, h13, h12, h11, h10, h9, h8]
    rw [e]
    exact ansO_run (noPS_ok _) (P := Try.prog) (cs := cs0) (sy := [16]) (os := [false, false, false, false, false, false, false, true]) (vs := []) (nn := mask 43) (F := 100) (f := 43) (ob := [(a.x8 != b.x8), !(a.x9 != b.x9), !(a.x10 != b.x10), !(a.x11 != b.x11), !(a.x12 != b.x12), !(a.x13 != b.x13), !(a.x14 != b.x14), !(a.x15 != b.x15)]) (show ansO (run1O Try.prog noPS cs0 [16] [false, false, false, false, false, false, false, true] [] (mask 43) 100 43 [a.av, b.av] [] Try.prog.globals.size) = some (.bool (decide (a.x8 < b.x8)), [(a.x8 != b.x8), !(a.x9 != b.x9), !(a.x10 != b.x10), !(a.x11 != b.x11), !(a.x12 != b.x12), !(a.x13 != b.x13), !(a.x14 != b.x14), !(a.x15 != b.x15)]) from by kernel_rfl) (by simp [allT, h15, h14, h13, h12, h11, h10, h9, h8])
  cases h7 : (a.x7 != b.x7)
  rotate_left
  · have e : lessN a b = decide (a.x7 < b.x7) := by simp [lessN, N16.list, lessL, h15, h14, h13, h12, h11, h10, h9, h8, h7]
    rw [e]
    exact ansO_run (noPS_ok _) (P := Try.prog) (cs := cs0) (sy := [16]) (os := [false, false, false, false, false, false, false, false, true]) (vs := []) (nn := mask 43) (F := 100) (f := 43) (ob := [(a.x7 != b.x7), !(a.x8 != b.x8), !(a.x9 != b.x9), !(a.x10 != b.x10), !(a.x11 != b.x11), !(a.x12 != b.x12), !(a.x13 != b.x13), !(a.x14 != b.x14), !(a.x15 != b.x15)]) (show ansO (run1O Try.prog noPS cs0 [16] [false, false, false, false, false, false, false, false, true] [] (mask 43) 100 43 [a.av, b.av] [] Try.prog.globals.size) = some (.bool (decide (a.x7 < b.x7)), [(a.x7 != b.x7), !(a.x8 != b.x8), !(a.x9 != b.x9), !(a.x10 != b.x10), !(a.x11 != b.x11), !(a.x12 != b.x12), !(a.x13 != b.x13), !(a.x14 != b.x14), !(a.x15 != b.x15)]) from by kernel_rfl) (by simp [allT, h15, h14, h13, h12, h11, h10, h9, h8, h7])
  cases h6 : (a.x6 != b.x6)
  rotate_left
  · have e : lessN a b = decide (a.x6 < b.x6) := by simp [lessN, N16.list, lessL, h15, h14, h13, h12, h11, h10, h9, h8, h7, h6]
    rw [e]
    exact ansO_run (noPS_ok _) (P := Try.prog) (cs := cs0) (sy := [16]) (os := [false, false, false, false, false, false, false, false, false, true]) (vs := []) (nn := mask 43) (F := 100) (f := 43) (ob := [(a.x6 != b.x6), !(a.x7 != b.x7), !(a.x8 != b.x8), !(a.x9 != b.x9), !(a.x10 != b.x10), !(a.x11 != b.x11), !(a.x12 != b.x12), !(a.x13 != b.x13), !(a.x14 != b.x14), !(a.x15 != b.x15)]) (show ansO (run1O Try.prog noPS cs0 [16] [false, false, false, false, false, false, false, false, false, true] [] (mask 43) 100 43 [a.av, b.av] [] Try.prog.globals.size) = some (.bool (decide (a.x6 < b.x6)), [(a.x6 != b.x6), !(a.x7 != b.x7), !(a.x8 != b.x8), !(a.x9 != b.x9), !(a.x10 != b.x10), !(a.x11 != b.x11), !(a.x12 != b.x12), !(a.x13 != b.x13), !(a.x14 != b.x14), !(a.x15 != b.x15)]) from by kernel_rfl) (by simp [allT, h15, h14, h13, h12, h11, h10, h9, h8, h7, h6])
  cases h5 : (a.x5 != b.x5)
  rotate_left
  · have e : lessN a b = decide (a.x5 < b.x5) := by simp [lessN, N16.list, lessL, h15, h14, h13, h12, h11, h10, h9, h8, h7, h6, h5]
    rw [e]
    exact ansO_run (noPS_ok _) (P := Try.prog) (cs := cs0) (sy := [16]) (os := [false, false, false, false, false, false, false, false, false, false, true]) (vs := []) (nn := mask 43) (F := 100) (f := 43) (ob := [(a.x5 != b.x5), !(a.x6 != b.x6), !(a.x7 != b.x7), !(a.x8 != b.x8), !(a.x9 != b.x9), !(a.x10 != b.x10), !(a.x11 != b.x11), !(a.x12 != b.x12), !(a.x13 != b.x13), !(a.x14 != b.x14), !(a.x15 != b.x15)]) (show ansO (run1O Try.prog noPS cs0 [16] [false, false, false, false, false, false, false, false, false, false, true] [] (mask 43) 100 43 [a.av, b.av] [] Try.prog.globals.size) = some (.bool (decide (a.x5 < b.x5)), [(a.x5 != b.x5), !(a.x6 != b.x6), !(a.x7 != b.x7), !(a.x8 != b.x8), !(a.x9 != b.x9), !(a.x10 != b.x10), !(a.x11 != b.x11), !(a.x12 != b.x12), !(a.x13 != b.x13), !(a.x14 != b.x14), !(a.x15 != b.x15)]) from by kernel_rfl) (by simp [allT, h15, h14, h13, h12, h11, h10, h9, h8, h7, h6, h5])
  cases h4 : (a.x4 != b.x4)
  rotate_left
  · have e : lessN a b = decide (a.x4 < b.x4) := by simp [lessN, N16.list, lessL, h15, h14, h13, h12, h11, h10, h9, h8, h7, h6, h5, h4]
    rw [e]
    exact ansO_run (noPS_ok _) (P := Try.prog) (cs := cs0) (sy := [16]) (os := [false, false, false, false, false, false, false, false, false, false, false, true]) (vs := []) (nn := mask 43) (F := 100) (f := 43) (ob := [(a.x4 != b.x4), !(a.x5 != b.x5), !(a.x6 != b.x6), !(a.x7 != b.x7), !(a.x8 != b.x8), !(a.x9 != b.x9), !(a.x10 != b.x10), !(a.x11 != b.x11), !(a.x12 != b.x12), !(a.x13 != b.x13), !(a.x14 != b.x14), !(a.x15 != b.x15)]) (show ansO (run1O Try.prog noPS cs0 [16] [false, false, false, false, false, false, false, false, false, false, false, true] [] (mask 43) 100 43 [a.av, b.av] [] Try.prog.globals.size) = some (.bool (decide (a.x4 < b.x4)), [(a.x4 != b.x4), !(a.x5 != b.x5), !(a.x6 != b.x6), !(a.x7 != b.x7), !(a.x8 != b.x8), !(a.x9 != b.x9), !(a.x10 != b.x10), !(a.x11 != b.x11), !(a.x12 != b.x12), !(a.x13 != b.x13), !(a.x14 != b.x14), !(a.x15 != b.x15)]) from by kernel_rfl) (by simp [allT, h15, h14, h13, h12, h11, h10, h9, h8, h7, h6, h5, h4])
  cases h3 : (a.x3 != b.x3)
  rotate_left
  · have e : lessN a b = decide (a.x3 < b.x3) := by simp [lessN, N16.list, lessL, h15, h14, h13, h12, h11, h10, h9, h8, h7, h6, h5, h4, h3]
    rw [e]
    exact ansO_run (noPS_ok _) (P := Try.prog) (cs := cs0) (sy := [16]) (os := [false, false, false, false, false, false, false, false, false, false, false, false, true]) (vs := []) (nn := mask 43) (F := 100) (f := 43) (ob := [(a.x3 != b.x3), !(a.x4 != b.x4), !(a.x5 != b.x5), !(a.x6 != b.x6), !(a.x7 != b.x7), !(a.x8 != b.x8), !(a.x9 != b.x9), !(a.x10 != b.x10), !(a.x11 != b.x11), !(a.x12 != b.x12), !(a.x13 != b.x13), !(a.x14 != b.x14), !(a.x15 != b.x15)]) (show ansO (run1O Try.prog noPS cs0 [16] [false, false, false, false, false, false, false, false, false, false, false, false, true] [] (mask 43) 100 43 [a.av, b.av] [] Try.prog.globals.size) = some (.bool (decide (a.x3 < b.x3)), [(a.x3 != b.x3), !(a.x4 != b.x4), !(a.x5 != b.x5), !(a.x6 != b.x6), !(a.x7 != b.x7), !(a.x8 != b.x8), !(a.x9 != b.x9), !(a.x10 != b.x10), !(a.x11 != b.x11), !(a.x12 != b.x12), !(a.x13 != b.x13), !(a.x14 != b.x14), !(a.x15 != b.x15)]) from by kernel_rfl) (by simp [allT, h15, h14, h13, h12, h11, h10, h9, h8, h7, h6, h5, h4, h3])
  cases h2 : (a.x2 != b.x2)
  rotate_left
  · have e : lessN a b = decide (a.x2 < b.x2) := by simp [lessN, N16.list, lessL, h15, h14, h13, h12, h11, h10, h9, h8, h7, h6, h5, h4, h3, h2]
    rw [e]
    exact ansO_run (noPS_ok _) (P := Try.prog) (cs := cs0) (sy := [16]) (os := [false, false, false, false, false, false, false, false, false, false, false, false, false, true]) (vs := []) (nn := mask 43) (F := 100) (f := 43) (ob := [(a.x2 != b.x2), !(a.x3 != b.x3), !(a.x4 != b.x4), !(a.x5 != b.x5), !(a.x6 != b.x6), !(a.x7 != b.x7), !(a.x8 != b.x8), !(a.x9 != b.x9), !(a.x10 != b.x10), !(a.x11 != b.x11), !(a.x12 != b.x12), !(a.x13 != b.x13), !(a.x14 != b.x14), !(a.x15 != b.x15)]) (show ansO (run1O Try.prog noPS cs0 [16] [false, false, false, false, false, false, false, false, false, false, false, false, false, true] [] (mask 43) 100 43 [a.av, b.av] [] Try.prog.globals.size) = some (.bool (decide (a.x2 < b.x2)), [(a.x2 != b.x2), !(a.x3 != b.x3), !(a.x4 != b.x4), !(a.x5 != b.x5), !(a.x6 != b.x6), !(a.x7 != b.x7), !(a.x8 != b.x8), !(a.x9 != b.x9), !(a.x10 != b.x10), !(a.x11 != b.x11), !(a.x12 != b.x12), !(a.x13 != b.x13), !(a.x14 != b.x14), !(a.x15 != b.x15)]) from by kernel_rfl) (by simp [allT, h15, h14, h13, h12, h11, h10, h9, h8, h7, h6, h5, h4, h3, h2])
  cases h1 : (a.x1 != b.x1)
  rotate_left
  · have e : lessN a b = decide (a.x1 < b.x1) := by simp [lessN, N16.list, lessL, h15, h14, h13, h12, h11, h10, h9, h8, h7, h6, h5, h4, h3, h2, h1]
    rw [e]
    exact ansO_run (noPS_ok _) (P := Try.prog) (cs := cs0) (sy := [16]) (os := [false, false, false, false, false, false, false, false, false, false, false, false, false, false, true]) (vs := []) (nn := mask 43) (F := 100) (f := 43) (ob := [(a.x1 != b.x1), !(a.x2 != b.x2), !(a.x3 != b.x3), !(a.x4 != b.x4), !(a.x5 != b.x5), !(a.x6 != b.x6), !(a.x7 != b.x7), !(a.x8 != b.x8), !(a.x9 != b.x9), !(a.x10 != b.x10), !(a.x11 != b.x11), !(a.x12 != b.x12), !(a.x13 != b.x13), !(a.x14 != b.x14), !(a.x15 != b.x15)]) (show ansO (run1O Try.prog noPS cs0 [16] [false, false, false, false, false, false, false, false, false, false, false, false, false, false, true] [] (mask 43) 100 43 [a.av, b.av] [] Try.prog.globals.size) = some (.bool (decide (a.x1 < b.x1)), [(a.x1 != b.x1), !(a.x2 != b.x2), !(a.x3 != b.x3), !(a.x4 != b.x4), !(a.x5 != b.x5), !(a.x6 != b.x6), !(a.x7 != b.x7), !(a.x8 != b.x8), !(a.x9 != b.x9), !(a.x10 != b.x10), !(a.x11 != b.x11), !(a.x12 != b.x12), !(a.x13 != b.x13), !(a.x14 != b.x14), !(a.x15 != b.x15)]) from by kernel_rfl) (by simp [allT, h15, h14, h13, h12, h11, h10, h9, h8, h7, h6, h5, h4, h3, h2, h1])
  cases h0 : (a.x0 != b.x0)
  rotate_left
  · have e : lessN a b = decide (a.x0 < b.x0) := by simp [lessN, N16.list, lessL, h15, h14, h13, h12, h11, h10, h9, h8, h7, h6, h5, h4, h3, h2, h1, h0]
    rw [e]
    exact ansO_run (noPS_ok _) (P := Try.prog) (cs := cs0) (sy := [16]) (os := [false, false, false, false, false, false, false, false, false, false, false, false, false, false, false, true]) (vs := []) (nn := mask 43) (F := 100) (f := 43) (ob := [(a.x0 != b.x0), !(a.x1 != b.x1), !(a.x2 != b.x2), !(a.x3 != b.x3), !(a.x4 != b.x4), !(a.x5 != b.x5), !(a.x6 != b.x6), !(a.x7 != b.x7), !(a.x8 != b.x8), !(a.x9 != b.x9), !(a.x10 != b.x10), !(a.x11 != b.x11), !(a.x12 != b.x12), !(a.x13 != b.x13), !(a.x14 != b.x14), !(a.x15 != b.x15)]) (show ansO (run1O Try.prog noPS cs0 [16] [false, false, false, false, false, false, false, false, false, false, false, false, false, false, false, true] [] (mask 43) 100 43 [a.av, b.av] [] Try.prog.globals.size) = some (.bool (decide (a.x0 < b.x0)), [(a.x0 != b.x0), !(a.x1 != b.x1), !(a.x2 != b.x2), !(a.x3 != b.x3), !(a.x4 != b.x4), !(a.x5 != b.x5), !(a.x6 != b.x6), !(a.x7 != b.x7), !(a.x8 != b.x8), !(a.x9 != b.x9), !(a.x10 != b.x10), !(a.x11 != b.x11), !(a.x12 != b.x12), !(a.x13 != b.x13), !(a.x14 != b.x14), !(a.x15 != b.x15)]) from by kernel_rfl) (by simp [allT, h15, h14, h13, h12, h11, h10, h9, h8, h7, h6, h5, h4, h3, h2, h1, h0])
  have e : lessN a b = false := by simp [lessN, N16.list, lessL, h15, h14, h13, h12, h11, h10, h9, h8, h7, h6, h5, h4, h3, h2, h1, h0]
  rw [e]
  exact ansO_run (noPS_ok _) (P := Try.prog) (cs := cs0) (sy := [16]) (os := [false, false, false, false, false, false, false, false, false, false, false, false, false, false, false, false]) (vs := []) (nn := mask 43) (F := 100) (f := 43) (ob := [!(a.x0 != b.x0), !(a.x1 != b.x1), !(a.x2 != b.x2), !(a.x3 != b.x3), !(a.x4 != b.x4), !(a.x5 != b.x5), !(a.x6 != b.x6), !(a.x7 != b.x7), !(a.x8 != b.x8), !(a.x9 != b.x9), !(a.x10 != b.x10), !(a.x11 != b.x11), !(a.x12 != b.x12), !(a.x13 != b.x13), !(a.x14 != b.x14), !(a.x15 != b.x15)]) (show ansO (run1O Try.prog noPS cs0 [16] [false, false, false, false, false, false, false, false, false, false, false, false, false, false, false, false] [] (mask 43) 100 43 [a.av, b.av] [] Try.prog.globals.size) = some (.bool false, [!(a.x0 != b.x0), !(a.x1 != b.x1), !(a.x2 != b.x2), !(a.x3 != b.x3), !(a.x4 != b.x4), !(a.x5 != b.x5), !(a.x6 != b.x6), !(a.x7 != b.x7), !(a.x8 != b.x8), !(a.x9 != b.x9), !(a.x10 != b.x10), !(a.x11 != b.x11), !(a.x12 != b.x12), !(a.x13 != b.x13), !(a.x14 != b.x14), !(a.x15 != b.x15)]) from by kernel_rfl) (by simp [allT, h15, h14, h13, h12, h11, h10, h9, h8, h7, h6, h5, h4, h3, h2, h1, h0])
def g43 : List AVal → Option EffA
  | [.agg [.u64 a0, .u64 a1, .u64 a2, .u64 a3, .u64 a4, .u64 a5, .u64 a6, .u64 a7, .u64 a8, .u64 a9, .u64 a10, .u64 a11, .u64 a12, .u64 a13, .u64 a14, .u64 a15], .agg [.u64 b0, .u64 b1, .u64 b2, .u64 b3, .u64 b4, .u64 b5, .u64 b6, .u64 b7, .u64 b8, .u64 b9, .u64 b10, .u64 b11, .u64 b12, .u64 b13, .u64 b14, .u64 b15]] => some (.pure (.bool (lessN (N16.mk a0 a1 a2 a3 a4 a5 a6 a7 a8 a9 a10 a11 a12 a13 a14 a15) (N16.mk b0 b1 b2 b3 b4 b5 b6 b7 b8 b9 b10 b11 b12 b13 b14 b15))))
  | _ => none
theorem g43_ok : CSOk Try.prog (csOne 43 g43) := csOne_ok fun args e he => by
  unfold g43 at he
  split at he
  · rename_i a0 a1 a2 a3 a4 a5 a6 a7 a8 a9 a10 a11 a12 a13 a14 a15 b0 b1 b2 b3 b4 b5 b6 b7 b8 b9 b10 b11 b12 b13 b14 b15
    cases he
    exact callOk_val cs0_ok hmix (run43 (N16.mk a0 a1 a2 a3 a4 a5 a6 a7 a8 a9 a10 a11 a12 a13 a14 a15) (N16.mk b0 b1 b2 b3 b4 b5 b6 b7 b8 b9 b10 b11 b12 b13 b14 b15)) rfl rfl
  · cases he
theorem run34 (a0 a1 a2 a3 a4 a5 a6 a7 a8 a9 a10 a11 a12 a13 a14 a15 a16 a17 a18 a19 a20 a21 a22 a23 a24 a25 a26 a27 a28 a29 a30 a31 : UInt8) : (run1 Try.prog cs0 (mask 34) 100 34 [.str [a0, a1, a2, a3, a4, a5, a6, a7, a8, a9, a10, a11, a12, a13, a14, a15, a16, a17, a18, a19, a20, a21, a22, a23, a24, a25, a26, a27, a28, a29, a30, a31]] [] Try.prog.globals.size).map (·.1) = some (partsN [a0, a1, a2, a3, a4, a5, a6, a7, a8, a9, a10, a11, a12, a13, a14, a15, a16, a17, a18, a19, a20, a21, a22, a23, a24, a25, a26, a27, a28, a29, a30, a31]).av := by kernel_rfl
def g34 : List AVal → Option EffA
  | [.str [a0, a1, a2, a3, a4, a5, a6, a7, a8, a9, a10, a11, a12, a13, a14, a15, a16, a17, a18, a19, a20, a21, a22, a23, a24, a25, a26, a27, a28, a29, a30, a31]] => some (.pure (partsN [a0, a1, a2, a3, a4, a5, a6, a7, a8, a9, a10, a11, a12, a13, a14, a15, a16, a17, a18, a19, a20, a21, a22, a23, a24, a25, a26, a27, a28, a29, a30, a31]).av)
  | _ => none
theorem g34_ok : CSOk Try.prog (csOne 34 g34) := csOne_ok fun args e he => by
  unfold g34 at he
  split at he
  · rename_i a0 a1 a2 a3 a4 a5 a6 a7 a8 a9 a10 a11 a12 a13 a14 a15 a16 a17 a18 a19 a20 a21 a22 a23 a24 a25 a26 a27 a28 a29 a30 a31
    cases he
    exact callOk_val cs0_ok hmix (run34 a0 a1 a2 a3 a4 a5 a6 a7 a8 a9 a10 a11 a12 a13 a14 a15 a16 a17 a18 a19 a20 a21 a22 a23 a24 a25 a26 a27 a28 a29 a30 a31) rfl rfl
  · cases he
theorem run40 (a : N16) : (run1 Try.prog cs0 (mask 40) 100 40 [(N16.av a)] [] Try.prog.globals.size).map (·.1) = some (.str (bytesN a)) := by kernel_rfl
def g40 : List AVal → Option EffA
  | [.agg [.u64 a0, .u64 a1, .u64 a2, .u64 a3, .u64 a4, .u64 a5, .u64 a6, .u64 a7, .u64 a8, .u64 a9, .u64 a10, .u64 a11, .u64 a12, .u64 a13, .u64 a14, .u64 a15]] => some (.pure (.str (bytesN (N16.mk a0 a1 a2 a3 a4 a5 a6 a7 a8 a9 a10 a11 a12 a13 a14 a15))))
  | _ => none
theorem g40_ok : CSOk Try.prog (csOne 40 g40) := csOne_ok fun args e he => by
  unfold g40 at he
  split at he
  · rename_i a0 a1 a2 a3 a4 a5 a6 a7 a8 a9 a10 a11 a12 a13 a14 a15
    cases he
    exact callOk_val cs0_ok hmix (run40 (N16.mk a0 a1 a2 a3 a4 a5 a6 a7 a8 a9 a10 a11 a12 a13 a14 a15)) rfl rfl
  · cases he
theorem run48 (a : N16) (b : N16) : (run1 Try.prog cs0 (mask 48) 100 48 [(N16.av a), (N16.av b)] [] Try.prog.globals.size).map (·.1) = some (N16.av (minusN a b)) := by kernel_rfl
def g48 : List AVal → Option EffA
  | [.agg [.u64 a0, .u64 a1, .u64 a2, .u64 a3, .u64 a4, .u64 a5, .u64 a6, .u64 a7, .u64 a8, .u64 a9, .u64 a10, .u64 a11, .u64 a12, .u64 a13, .u64 a14, .u64 a15], .agg [.u64 b0, .u64 b1, .u64 b2, .u64 b3, .u64 b4, .u64 b5, .u64 b6, .u64 b7, .u64 b8, .u64 b9, .u64 b10, .u64 b11, .u64 b12, .u64 b13, .u64 b14, .u64 b15]] => some (.pure (N16.av (minusN (N16.mk a0 a1 a2 a3 a4 a5 a6 a7 a8 a9 a10 a11 a12 a13 a14 a15) (N16.mk b0 b1 b2 b3 b4 b5 b6 b7 b8 b9 b10 b11 b12 b13 b14 b15))))
  | _ => none
theorem g48_ok : CSOk Try.prog (csOne 48 g48) := csOne_ok fun args e he => by
  unfold g48 at he
  split at he
  · rename_i a0 a1 a2 a3 a4 a5 a6 a7 a8 a9 a10 a11 a12 a13 a14 a15 b0 b1 b2 b3 b4 b5 b6 b7 b8 b9 b10 b11 b12 b13 b14 b15
    cases he
    exact callOk_val cs0_ok hmix (run48 (N16.mk a0 a1 a2 a3 a4 a5 a6 a7 a8 a9 a10 a11 a12 a13 a14 a15) (N16.mk b0 b1 b2 b3 b4 b5 b6 b7 b8 b9 b10 b11 b12 b13 b14 b15)) rfl rfl
  · cases he
theorem run44  : (run1 Try.prog cs0 (mask 44) 100 44 [] [] Try.prog.globals.size).map (·.1) = some (primeN.av) := by kernel_rfl
def g44 : List AVal → Option EffA
  | [] => some (.pure (primeN.av))
  | _ => none
theorem g44_ok : CSOk Try.prog (csOne 44 g44) := csOne_ok fun args e he => by
  unfold g44 at he
  split at he
  · skip
    cases he
    exact callOk_val cs0_ok hmix (run44 ) rfl rfl
  · cases he
theorem run33 (a : N16) : (run1 Try.prog cs0 (mask 33) 100 33 [(N16.av a)] [] Try.prog.globals.size).map (·.1) = some (N32.av (wideN a)) := by kernel_rfl
def g33 : List AVal → Option EffA
  | [.agg [.u64 a0, .u64 a1, .u64 a2, .u64 a3, .u64 a4, .u64 a5, .u64 a6, .u64 a7, .u64 a8, .u64 a9, .u64 a10, .u64 a11, .u64 a12, .u64 a13, .u64 a14, .u64 a15]] => some (.pure (N32.av (wideN (N16.mk a0 a1 a2 a3 a4 a5 a6 a7 a8 a9 a10 a11 a12 a13 a14 a15))))
  | _ => none
theorem g33_ok : CSOk Try.prog (csOne 33 g33) := csOne_ok fun args e he => by
  unfold g33 at he
  split at he
  · rename_i a0 a1 a2 a3 a4 a5 a6 a7 a8 a9 a10 a11 a12 a13 a14 a15
    cases he
    exact callOk_val cs0_ok hmix (run33 (N16.mk a0 a1 a2 a3 a4 a5 a6 a7 a8 a9 a10 a11 a12 a13 a14 a15)) rfl rfl
  · cases he
def nr1 : CS := (csAlt (csOne 43 g43) (csAlt (csOne 34 g34) (csAlt (csOne 40 g40) (csAlt (csOne 48 g48) (csAlt (csOne 44 g44) (csOne 33 g33))))))
theorem nr1_ok : CSOk Try.prog nr1 := (csAlt_ok g43_ok (csAlt_ok g34_ok (csAlt_ok g40_ok (csAlt_ok g48_ok (csAlt_ok g44_ok g33_ok)))))
def Sd1 (t0 t : N32) (k : Int) : SA := ⟨[(0, t0.av), (1, .ptr 0 0), (2, .ptr 8 0), (3, .int .i64 k)], [(0, .cells false t.cells), (8, .cells false zeroN.cells)], 24⟩
def Sd1e (t0 t : N32) : SA := ⟨[(0, t0.av), (1, .ptr 0 0), (2, .ptr 8 0), (3, .int .i64 3), (15, .bool false)], [(0, .cells false t.cells), (8, .cells false zeroN.cells)], 40⟩
def Sd2 (t0 t : N32) (k : Int) : SA := ⟨[(0, t0.av), (1, .ptr 0 0), (2, .ptr 8 0), (3, .int .i64 3), (15, .bool false), (8, .int .i64 k)], [(0, .cells false t.cells), (8, .cells false zeroN.cells)], 48⟩
def Sd2e (t0 t : N32) : SA := ⟨[(0, t0.av), (1, .ptr 0 0), (2, .ptr 8 0), (3, .int .i64 3), (15, .bool false), (8, .int .i64 3), (58, .bool false)], [(0, .cells false t.cells), (8, .cells false zeroN.cells)], 64⟩
noncomputable def prd : List Code := pieces (bodyOf Try.f32)
noncomputable def bd1 : Code := loopOf (prd.getD 2 .skip)
noncomputable def bd2 : Code := loopOf (prd.getD 4 .skip)
theorem red0 (t : N32) : segO (evSO Try.prog noPS nr1 [] 99 (mask 32) 100 Try.prog.globals.size ((prd.drop 0).take 2) ⟨startT [t.av] 0, [], Try.prog.globals.size⟩ ⟨[], [], []⟩) = some (Sd1 t t 0, []) := by kernel_rfl
theorem red1_0 (t0 s t : N32) : roundO Try.prog noPS nr1 [] [] [] 99 (mask 32) 100 Try.prog.globals.size bd1 (Sd1 t0 s 0) (Sd1 t0 t 0) = some (Sd1 t0 (pass1 t) 1, []) := by kernel_rfl
theorem red1_1 (t0 s t : N32) : roundO Try.prog noPS nr1 [] [] [] 99 (mask 32) 100 Try.prog.globals.size bd1 (Sd1 t0 s 0) (Sd1 t0 t 1) = some (Sd1 t0 (pass1 t) 2, []) := by kernel_rfl
theorem red1_2 (t0 s t : N32) : roundO Try.prog noPS nr1 [] [] [] 99 (mask 32) 100 Try.prog.globals.size bd1 (Sd1 t0 s 0) (Sd1 t0 t 2) = some (Sd1 t0 (pass1 t) 3, []) := by kernel_rfl
theorem red1e (t0 t : N32) : evC Try.prog nr1 99 (mask 32) 100 Try.prog.globals.size bd1 (Sd1 t0 t 3) = some (.exit 0, Sd1e t0 t) := by kernel_rfl
theorem red1x (t0 t : N32) : segO (evSO Try.prog noPS nr1 [] 99 (mask 32) 100 Try.prog.globals.size ((prd.drop 3).take 1) (Sd1e t0 t) ⟨[], [], []⟩) = some (Sd2 t0 t 0, []) := by kernel_rfl
theorem red2_0 (t0 s t : N32) : roundO Try.prog noPS nr1 [] [] [] 99 (mask 32) 100 Try.prog.globals.size bd2 (Sd2 t0 s 0) (Sd2 t0 t 0) = some (Sd2 t0 (pass3 t) 1, []) := by kernel_rfl
theorem red2_1 (t0 s t : N32) : roundO Try.prog noPS nr1 [] [] [] 99 (mask 32) 100 Try.prog.globals.size bd2 (Sd2 t0 s 0) (Sd2 t0 t 1) = some (Sd2 t0 (pass3 t) 2, []) := by kernel_rfl
theorem red2_2 (t0 s t : N32) : roundO Try.prog noPS nr1 [] [] [] 99 (mask 32) 100 Try.prog.globals.size bd2 (Sd2 t0 s 0) (Sd2 t0 t 2) = some (Sd2 t0 (pass3 t) 3, []) := by kernel_rfl
theorem red2e (t0 t : N32) : evC Try.prog nr1 99 (mask 32) 100 Try.prog.globals.size bd2 (Sd2 t0 t 3) = some (.exit 6, Sd2e t0 t) := by kernel_rfl
theorem red3a (t0 t : N32) : ansF Try.prog Try.f32 (evSO Try.prog noPS nr1 [94] 99 (mask 32) 100 Try.prog.globals.size (prd.drop 5) (Sd2e t0 t) ⟨[false], [], []⟩) = some (t.lo.av, [!(!(lessN t.lo primeN))]) := by kernel_rfl
theorem red3b (t0 t : N32) : ansF Try.prog Try.f32 (evSO Try.prog noPS nr1 [94] 99 (mask 32) 100 Try.prog.globals.size (prd.drop 5) (Sd2e t0 t) ⟨[true, false], [], []⟩) = some ((minusN t.lo primeN).av, [!(!(lessN (minusN t.lo primeN) primeN)), !(lessN t.lo primeN)]) := by kernel_rfl
theorem red3c (t0 t : N32) : ansF Try.prog Try.f32 (evSO Try.prog noPS nr1 [94] 99 (mask 32) 100 Try.prog.globals.size (prd.drop 5) (Sd2e t0 t) ⟨[true, true, false], [], []⟩) = some ((minusN (minusN t.lo primeN) primeN).av, [!(!(lessN (minusN (minusN t.lo primeN) primeN) primeN)), !(lessN (minusN t.lo primeN) primeN), !(lessN t.lo primeN)]) := by kernel_rfl
theorem red3 (t0 t : N32) (h : lessN (downN (downN t.lo)) primeN = true) : finV Try.prog Try.f32 (evS Try.prog nr1 99 (mask 32) 100 Try.prog.globals.size (prd.drop 5) (Sd2e t0 t)) = some (downN (downN t.lo)).av := by
  cases h1 : lessN t.lo primeN
  · have e1 : downN t.lo = (minusN t.lo primeN) := by simp only [downN, h1, cond_false]
    rw [e1] at h ⊢
    cases h2 : lessN (minusN t.lo primeN) primeN
    · have e2 : downN (minusN t.lo primeN) = (minusN (minusN t.lo primeN) primeN) := by simp only [downN, h2, cond_false]
      rw [e2] at h ⊢
      exact ansF_ok (noPS_ok _) (red3c t0 t) (by simp [allT, h1, h2, h])
    · have e2 : downN (minusN t.lo primeN) = (minusN t.lo primeN) := by simp only [downN, h2, cond_true]
      rw [e2]
      exact ansF_ok (noPS_ok _) (red3b t0 t) (by simp [allT, h1, h2])
  · have e1 : downN t.lo = t.lo := by simp only [downN, h1, cond_true]
    rw [e1, e1]
    exact ansF_ok (noPS_ok _) (red3a t0 t) (by simp [allT, h1])
theorem run32 (t : N32) (hb : bndL t.list = true) : (run1 Try.prog nr1 (mask 32) 100 32 [t.av] [] Try.prog.globals.size).map (·.1) = some (redN t).av := by
  rw [run1_val (fn := Try.f32) (c := bodyOf Try.f32) (by kernel_rfl) (by kernel_rfl) (by kernel_rfl)]
  have hA := segO_ok (noPS_ok _) (red0 t) rfl
  rw [List.drop_zero] at hA
  show finV Try.prog Try.f32 (evS Try.prog nr1 99 (mask 32) 100 Try.prog.globals.size prd ⟨startT [t.av] 0, [], Try.prog.globals.size⟩) = _
  rw [hA]
  have hB := evS_loop (P := Try.prog) (cs := nr1) (nt := 99) (nn := mask 32) (F := 100) (bs := Try.prog.globals.size) (l := prd) (k := 2) (id := 0) (b := bd1) (by kernel_rfl) (fun j => match j with | 0 => Sd1 t t 0 | 1 => Sd1 t (pass1 t) 1 | 2 => Sd1 t (pass1 (pass1 t)) 2 | _ => Sd1 t (pass1 (pass1 (pass1 t))) 3) 3 (s1 := Sd1e t (pass1 (pass1 (pass1 t))))
    (fun j hj => match j, hj with
      | 0, _ => roundO_ok (noPS_ok _) (red1_0 t t t) rfl
      | 1, _ => roundO_ok (noPS_ok _) (red1_1 t t (pass1 t)) rfl
      | 2, _ => roundO_ok (noPS_ok _) (red1_2 t t (pass1 (pass1 t))) rfl) (red1e t _) (by omega)
  have hC := segO_ok (noPS_ok _) (red1x t (pass1 (pass1 (pass1 t)))) rfl
  have hD := evS_loop (P := Try.prog) (cs := nr1) (nt := 99) (nn := mask 32) (F := 100) (bs := Try.prog.globals.size) (l := prd) (k := 4) (id := 6) (b := bd2) (by kernel_rfl) (fun j => match j with | 0 => Sd2 t (pass1 (pass1 (pass1 t))) 0 | 1 => Sd2 t (pass3 (pass1 (pass1 (pass1 t)))) 1 | 2 => Sd2 t (pass3 (pass3 (pass1 (pass1 (pass1 t))))) 2 | _ => Sd2 t (passes t) 3) 3 (s1 := Sd2e t (passes t))
    (fun j hj => match j, hj with
      | 0, _ => roundO_ok (noPS_ok _) (red2_0 t (pass1 (pass1 (pass1 t))) (pass1 (pass1 (pass1 t)))) rfl
      | 1, _ => roundO_ok (noPS_ok _) (red2_1 t (pass1 (pass1 (pass1 t))) (pass3 (pass1 (pass1 (pass1 t))))) rfl
      | 2, _ => roundO_ok (noPS_ok _) (red2_2 t (pass1 (pass1 (pass1 t))) (pass3 (pass3 (pass1 (pass1 (pass1 t)))))) rfl) (red2e t _) (by omega)
  have hB' : evS Try.prog nr1 99 (mask 32) 100 Try.prog.globals.size (prd.drop 2) (Sd1 t t 0) = evS Try.prog nr1 99 (mask 32) 100 Try.prog.globals.size (prd.drop 3) (Sd1e t (pass1 (pass1 (pass1 t)))) := hB
  have hD' : evS Try.prog nr1 99 (mask 32) 100 Try.prog.globals.size (prd.drop 4) (Sd2 t (pass1 (pass1 (pass1 t))) 0) = evS Try.prog nr1 99 (mask 32) 100 Try.prog.globals.size (prd.drop 5) (Sd2e t (passes t)) := hD
  rw [hB', hC, hD']
  exact red3 t (passes t) (redN_less t hb)
def p32 : List AVal → Option (EffA × Bool)
  | [.agg [.u64 a0, .u64 a1, .u64 a2, .u64 a3, .u64 a4, .u64 a5, .u64 a6, .u64 a7, .u64 a8, .u64 a9, .u64 a10, .u64 a11, .u64 a12, .u64 a13, .u64 a14, .u64 a15, .u64 a16, .u64 a17, .u64 a18, .u64 a19, .u64 a20, .u64 a21, .u64 a22, .u64 a23, .u64 a24, .u64 a25, .u64 a26, .u64 a27, .u64 a28, .u64 a29, .u64 a30, .u64 a31]] => some (.pure (redN (N32.mk (N16.mk a0 a1 a2 a3 a4 a5 a6 a7 a8 a9 a10 a11 a12 a13 a14 a15) (N16.mk a16 a17 a18 a19 a20 a21 a22 a23 a24 a25 a26 a27 a28 a29 a30 a31))).av, bndL (N32.mk (N16.mk a0 a1 a2 a3 a4 a5 a6 a7 a8 a9 a10 a11 a12 a13 a14 a15) (N16.mk a16 a17 a18 a19 a20 a21 a22 a23 a24 a25 a26 a27 a28 a29 a30 a31)).list)
  | _ => none
theorem p32_ok : CSOk Try.prog (csP (psOne 32 p32)) := csP_one fun args v he => by
  unfold p32 at he
  split at he
  · rename_i a0 a1 a2 a3 a4 a5 a6 a7 a8 a9 a10 a11 a12 a13 a14 a15 a16 a17 a18 a19 a20 a21 a22 a23 a24 a25 a26 a27 a28 a29 a30 a31
    simp only [Option.some.injEq, Prod.mk.injEq] at he
    obtain ⟨rfl, h⟩ := he
    exact callOk_val nr1_ok hmix (run32 (N32.mk (N16.mk a0 a1 a2 a3 a4 a5 a6 a7 a8 a9 a10 a11 a12 a13 a14 a15) (N16.mk a16 a17 a18 a19 a20 a21 a22 a23 a24 a25 a26 a27 a28 a29 a30 a31)) h) rfl rfl
  · cases he
def nr2 : CS := csAlt (csP (psOne 32 p32)) nr1
theorem nr2_ok : CSOk Try.prog nr2 := csAlt_ok p32_ok nr1_ok
theorem nr2_ps : PSOk (psOne 32 p32) nr2 := csP_ok
end Go.Proofs.Ytkgbpnihbamceaa
