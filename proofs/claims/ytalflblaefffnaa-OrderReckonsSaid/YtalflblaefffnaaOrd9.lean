/- The laws on numbers modulo the order. -/
import Derived.Test.YtalflblaefffnaaOrd8
import Derived.Test.YtalflblaefffnaaNum6
namespace Go.Proofs.Ytalflblaefffnaa
set_option linter.unusedVariables false
set_option linter.unusedSimpArgs false
open Go Go.Eng Go.Num
set_option maxRecDepth 100000
set_option maxHeartbeats 1000000
set_option linter.unusedSimpArgs false
set_option linter.unusedVariables false
theorem run4 (s  t : List UInt8) : (run1 Try.prog cl2 (mask 4) 200 4 [.str s, .str t] [] Try.prog.globals.size).map (·.1) = some (.bool true) := by
  cases hs : okL s
  · exact ansO_run hpsL (P := Try.prog) (cs := cl2) (sy := [22]) (os := [true]) (nn := mask 4) (F := 200) (f := 4) (ob := [!(oE s == 0)]) (show ansO (run1O Try.prog psL cl2 [22] [true] (mask 4) 200 4 [.str s, .str t] [] Try.prog.globals.size) = some (.bool true, [!(oE s == 0)]) from by kernel_rfl) (by simp [allT, oE_ok, hs])
  · cases ht : okL t
    · exact ansO_run hpsL (P := Try.prog) (cs := cl2) (sy := [22, 25]) (os := [false, true]) (nn := mask 4) (F := 200) (f := 4) (ob := [!(oE t == 0), !(!(oE s == 0))]) (show ansO (run1O Try.prog psL cl2 [22, 25] [false, true] (mask 4) 200 4 [.str s, .str t] [] Try.prog.globals.size) = some (.bool true, [!(oE t == 0), !(!(oE s == 0))]) from by kernel_rfl) (by simp [allT, oE_ok, hs, ht])
    · have h1 := okL_ble hs
      have h2 := okL_ble ht
      have e1 := oV_ok hs
      have e2 := oV_ok ht
      have a1 := is_add s t
      have a2 := is_mul s t
      have a3 := is_neg s
      have a4 := same_same s t
      rw [← e1, ← e2] at a1 a2 a4
      rw [← e1] at a3
      exact ansO_run hpsL (P := Try.prog) (cs := cl2) (sy := [22, 25, 29, 31, 38, 46, 53, 62]) (os := [false, false, true, true, true, true]) (nn := mask 4) (F := 200) (f := 4) (ob := [sameW (oV s) (oV t) == sameN (ofN s) (ofN t), bytesW (negW (oV s)) == bytesN (negN (ofN s)), bytesW (mulW (oV s) (oV t)) == bytesN (mulN (ofN s) (ofN t)), bytesW (addW (oV s) (oV t)) == bytesN (addN (ofN s) (ofN t)), Nat.ble t.length 100000, Nat.ble s.length 100000, !(!(oE t == 0)), !(!(oE s == 0))]) (show ansO (run1O Try.prog psL cl2 [22, 25, 29, 31, 38, 46, 53, 62] [false, false, true, true, true, true] (mask 4) 200 4 [.str s, .str t] [] Try.prog.globals.size) = some (.bool true, [sameW (oV s) (oV t) == sameN (ofN s) (ofN t), bytesW (negW (oV s)) == bytesN (negN (ofN s)), bytesW (mulW (oV s) (oV t)) == bytesN (mulN (ofN s) (ofN t)), bytesW (addW (oV s) (oV t)) == bytesN (addN (ofN s) (ofN t)), Nat.ble t.length 100000, Nat.ble s.length 100000, !(!(oE t == 0)), !(!(oE s == 0))]) from by kernel_rfl) (by simp [allT, oE_ok, hs, ht, h1, h2, a1, a2, a3, a4])
theorem run5 (r  s  t : List UInt8) : (run1 Try.prog cl2 (mask 5) 200 5 [.str r, .str s, .str t] [] Try.prog.globals.size).map (·.1) = some (.bool true) := by
  cases hr : okL r
  · exact ansO_run hpsL (P := Try.prog) (cs := cl2) (sy := [33]) (os := [true]) (nn := mask 5) (F := 200) (f := 5) (ob := [!(oE r == 0)]) (show ansO (run1O Try.prog psL cl2 [33] [true] (mask 5) 200 5 [.str r, .str s, .str t] [] Try.prog.globals.size) = some (.bool true, [!(oE r == 0)]) from by kernel_rfl) (by simp [allT, oE_ok, hr])
  · cases hs : okL s
    · exact ansO_run hpsL (P := Try.prog) (cs := cl2) (sy := [33, 36]) (os := [false, true]) (nn := mask 5) (F := 200) (f := 5) (ob := [!(oE s == 0), !(!(oE r == 0))]) (show ansO (run1O Try.prog psL cl2 [33, 36] [false, true] (mask 5) 200 5 [.str r, .str s, .str t] [] Try.prog.globals.size) = some (.bool true, [!(oE s == 0), !(!(oE r == 0))]) from by kernel_rfl) (by simp [allT, oE_ok, hr, hs])
    · cases ht : okL t
      · exact ansO_run hpsL (P := Try.prog) (cs := cl2) (sy := [33, 36, 40]) (os := [false, false, true]) (nn := mask 5) (F := 200) (f := 5) (ob := [!(oE t == 0), !(!(oE s == 0)), !(!(oE r == 0))]) (show ansO (run1O Try.prog psL cl2 [33, 36, 40] [false, false, true] (mask 5) 200 5 [.str r, .str s, .str t] [] Try.prog.globals.size) = some (.bool true, [!(oE t == 0), !(!(oE s == 0)), !(!(oE r == 0))]) from by kernel_rfl) (by simp [allT, oE_ok, hr, hs, ht])
      · have la : (oV r).val < Lq := by rw [oV_ok hr]; exact ofW_lt r
        have lb : (oV s).val < Lq := by rw [oV_ok hs]; exact ofW_lt s
        have lc : (oV t).val < Lq := by rw [oV_ok ht]; exact ofW_lt t
        have a1 : sameW (addW (oV r) (oV s)) (addW (oV s) (oV r)) = true := by rw [sameW_eq, addW_comm la lb]; simp
        have a2 : sameW (mulW (oV r) (oV s)) (mulW (oV s) (oV r)) = true := by rw [sameW_eq, mulW_comm]; simp
        have a3 : sameW (addW (addW (oV r) (oV s)) (oV t)) (addW (oV r) (addW (oV s) (oV t))) = true := by rw [sameW_eq, addW_assoc la lb lc]; simp
        have a4 : sameW (mulW (mulW (oV r) (oV s)) (oV t)) (mulW (oV r) (mulW (oV s) (oV t))) = true := by rw [sameW_eq, mulW_assoc]; simp
        have a5 : sameW (mulW (oV r) (addW (oV s) (oV t))) (addW (mulW (oV r) (oV s)) (mulW (oV r) (oV t))) = true := by rw [sameW_eq, mulW_add lb lc]; simp
        have a6 : sameW (addW (oV r) (negW (oV r))) zeroW = true := by rw [sameW_eq, addW_neg la]; simp
        have a7 : canonW (bytesW (oV r)) = true := canon_bytes la
        have a8 : canonW r = (bytesW (oV r) == r) := by unfold canonW; rw [oE_ok, hr, Bool.true_and]
        have k1 : okL (bytesW (oV r)) = true := by rw [okL_eq, isLen_eq.2 (bytesW_len (oV r))]; rfl
        have k2 : okL (bytesW (oV r) ++ z32) = true := by
          have hl : (bytesW (oV r) ++ z32).length = 64 := by rw [List.length_append, bytesW_len]; rfl
          rw [okL_eq, Bool.or_eq_true]
          exact .inr (isLen_eq.2 hl)
        have a9 : sameW (oV (bytesW (oV r))) (oV r) = true := by rw [oV_ok k1, ofW_of la, sameW_eq]; simp
        have a10 : sameW (oV (bytesW (oV r) ++ z32)) (oV r) = true := by
          rw [oV_ok k2, sameW_eq, decide_eq_true_iff]
          apply W4.ext_val
          rw [ofW_val, leNat_append, bytesW_val]
          have hz : leNat z32 = 0 := by decide
          rw [hz, Nat.mul_zero, Nat.add_zero, Nat.mod_eq_of_lt la]
        exact ansO_run hpsL (P := Try.prog) (cs := cl2) (sy := [33, 36, 40, 50, 59, 73, 87, 103, 111, 116, 125, 143, 146, 151, 156]) (os := [false, false, false, false, false, false, false, false, false, false, false, true, true, true, true]) (nn := mask 5) (F := 200) (f := 5) (ob := [sameW (oV (bytesW (oV r) ++ z32)) (oV r), sameW (oV (bytesW (oV r))) (oV r), oE (bytesW (oV r) ++ z32) == 0, oE (bytesW (oV r)) == 0, !(!(canonW r == (bytesW (oV r) == r))), !(!(canonW (bytesW (oV r)))), !(!(sameW (addW (oV r) (negW (oV r))) zeroW)), !(!(sameW (mulW (oV r) (addW (oV s) (oV t))) (addW (mulW (oV r) (oV s)) (mulW (oV r) (oV t))))), !(!(sameW (mulW (mulW (oV r) (oV s)) (oV t)) (mulW (oV r) (mulW (oV s) (oV t))))), !(!(sameW (addW (addW (oV r) (oV s)) (oV t)) (addW (oV r) (addW (oV s) (oV t))))), !(!(sameW (mulW (oV r) (oV s)) (mulW (oV s) (oV r)))), !(!(sameW (addW (oV r) (oV s)) (addW (oV s) (oV r)))), !(!(oE t == 0)), !(!(oE s == 0)), !(!(oE r == 0))]) (show ansO (run1O Try.prog psL cl2 [33, 36, 40, 50, 59, 73, 87, 103, 111, 116, 125, 143, 146, 151, 156] [false, false, false, false, false, false, false, false, false, false, false, true, true, true, true] (mask 5) 200 5 [.str r, .str s, .str t] [] Try.prog.globals.size) = some (.bool true, [sameW (oV (bytesW (oV r) ++ z32)) (oV r), sameW (oV (bytesW (oV r))) (oV r), oE (bytesW (oV r) ++ z32) == 0, oE (bytesW (oV r)) == 0, !(!(canonW r == (bytesW (oV r) == r))), !(!(canonW (bytesW (oV r)))), !(!(sameW (addW (oV r) (negW (oV r))) zeroW)), !(!(sameW (mulW (oV r) (addW (oV s) (oV t))) (addW (mulW (oV r) (oV s)) (mulW (oV r) (oV t))))), !(!(sameW (mulW (mulW (oV r) (oV s)) (oV t)) (mulW (oV r) (mulW (oV s) (oV t))))), !(!(sameW (addW (addW (oV r) (oV s)) (oV t)) (addW (oV r) (addW (oV s) (oV t))))), !(!(sameW (mulW (oV r) (oV s)) (mulW (oV s) (oV r)))), !(!(sameW (addW (oV r) (oV s)) (addW (oV s) (oV r)))), !(!(oE t == 0)), !(!(oE s == 0)), !(!(oE r == 0))]) from by kernel_rfl) (by simp [allT, oE_ok, hr, hs, ht, a1, a2, a3, a4, a5, a6, a7, a8, a9, a10, k1, k2])
theorem run3 (s : List UInt8) : (run1 Try.prog cl2 (mask 3) 200 3 [.str s] [] Try.prog.globals.size).map (·.1) = some (.bool true) := by
  by_cases hb : (4096 : Int) < (s.length : Int)
  · exact ansO_run hpsL (P := Try.prog) (cs := cl2) (sy := [9]) (os := [true]) (nn := mask 3) (F := 200) (f := 3) (ob := [decide ((4096 : Int) < (s.length : Int))]) (show ansO (run1O Try.prog psL cl2 [9] [true] (mask 3) 200 3 [.str s] [] Try.prog.globals.size) = some (.bool true, [decide ((4096 : Int) < (s.length : Int))]) from by kernel_rfl) (by simp [allT, hb])
  · have hc : (canonW s == canonN s) = true := by rw [canon_same]; simp
    cases h1 : isLen s 32
    · have c1 : clampV s = [] := by unfold clampV; rw [h1]; rfl
      have c2 : clampE s = 2 := by unfold clampE; rw [h1]; rfl
      have n1 := ne32 h1
      cases h2 : isLen s 64
      · have n2 := ne64 h2
        have hk : okL s = false := by rw [okL_eq, h1, h2]; rfl
        have e1 : oE s = 2 := by unfold oE; rw [hk]; rfl
        have e2 : oV s = zeroW := by unfold oV; rw [hk]; rfl
        have e3 : sameW (oV s) zeroW = true := by rw [e2]; rfl
        exact ansO_run hpsL (P := Try.prog) (cs := cl2) (sy := [9, 25, 28, 30, 33, 45, 49, 52, 56]) (os := [false, false, true, false, false, true, true, true, true]) (nn := mask 3) (F := 200) (f := 3) (ob := [sameW (oV s) zeroW, oE s == 2, ((s.length : Int) != 64), ((s.length : Int) != 32), !((clampE s != 2)), !(!(clampV s == [])), ((s.length : Int) != 32), !(!(canonW s == canonN s)), !(decide ((4096 : Int) < (s.length : Int)))]) (show ansO (run1O Try.prog psL cl2 [9, 25, 28, 30, 33, 45, 49, 52, 56] [false, false, true, false, false, true, true, true, true] (mask 3) 200 3 [.str s] [] Try.prog.globals.size) = some (.bool true, [sameW (oV s) zeroW, oE s == 2, ((s.length : Int) != 64), ((s.length : Int) != 32), !((clampE s != 2)), !(!(clampV s == [])), ((s.length : Int) != 32), !(!(canonW s == canonN s)), !(decide ((4096 : Int) < (s.length : Int)))]) from by kernel_rfl) (by simp [allT, hb, hc, c1, c2, n1, n2, e1, e3])
      · have n2 := to64 h2
        have hk : okL s = true := by rw [okL_eq, h2, Bool.or_true]
        have hl := okL_ble hk
        have e2 := is_of s
        rw [← oV_ok hk] at e2
        exact ansO_run hpsL (P := Try.prog) (cs := cl2) (sy := [9, 25, 28, 30, 33, 45, 49, 62, 66, 67]) (os := [false, false, true, false, false, true, false, true, true]) (nn := mask 3) (F := 200) (f := 3) (ob := [bytesW (oV s) == bytesN (ofN s), Nat.ble s.length 100000, oE s == 0, !(((s.length : Int) != 64)), ((s.length : Int) != 32), !((clampE s != 2)), !(!(clampV s == [])), ((s.length : Int) != 32), !(!(canonW s == canonN s)), !(decide ((4096 : Int) < (s.length : Int)))]) (show ansO (run1O Try.prog psL cl2 [9, 25, 28, 30, 33, 45, 49, 62, 66, 67] [false, false, true, false, false, true, false, true, true] (mask 3) 200 3 [.str s] [] Try.prog.globals.size) = some (.bool true, [bytesW (oV s) == bytesN (ofN s), Nat.ble s.length 100000, oE s == 0, !(((s.length : Int) != 64)), ((s.length : Int) != 32), !((clampE s != 2)), !(!(clampV s == [])), ((s.length : Int) != 32), !(!(canonW s == canonN s)), !(decide ((4096 : Int) < (s.length : Int)))]) from by kernel_rfl) (by simp [allT, hb, hc, c1, c2, n1, n2, oE_ok, hk, hl, e2])
    · have c1 : clampV s = clampL s := by unfold clampV; rw [h1]; rfl
      have c2 : clampE s = 0 := by unfold clampE; rw [h1]; rfl
      have n1 := to32 h1
      have hk : okL s = true := by rw [okL_eq, h1]; rfl
      have hl := okL_ble hk
      have e2 := is_of s
      rw [← oV_ok hk] at e2
      exact ansO_run hpsL (P := Try.prog) (cs := cl2) (sy := [9, 25, 28, 37, 38, 41, 45, 62, 66, 67]) (os := [false, false, false, false, false, false, true, true]) (nn := mask 3) (F := 200) (f := 3) (ob := [bytesW (oV s) == bytesN (ofN s), Nat.ble s.length 100000, oE s == 0, !(((s.length : Int) != 32)), !((clampE s != 0)), !(!(clampV s == clampL s)), isLen s 32, !(((s.length : Int) != 32)), !(!(canonW s == canonN s)), !(decide ((4096 : Int) < (s.length : Int)))]) (show ansO (run1O Try.prog psL cl2 [9, 25, 28, 37, 38, 41, 45, 62, 66, 67] [false, false, false, false, false, false, true, true] (mask 3) 200 3 [.str s] [] Try.prog.globals.size) = some (.bool true, [bytesW (oV s) == bytesN (ofN s), Nat.ble s.length 100000, oE s == 0, !(((s.length : Int) != 32)), !((clampE s != 0)), !(!(clampV s == clampL s)), isLen s 32, !(((s.length : Int) != 32)), !(!(canonW s == canonN s)), !(decide ((4096 : Int) < (s.length : Int)))]) from by kernel_rfl) (by simp [allT, hb, hc, c1, c2, n1, h1, oE_ok, hk, hl, e2])
theorem law3 (s : List UInt8) : CallOk Try.prog 3 [.str s] (.pure (.bool true)) := callOk_val cl2_ok hmix (run3 s) rfl rfl
theorem law4 (s t : List UInt8) : CallOk Try.prog 4 [.str s, .str t] (.pure (.bool true)) := callOk_val cl2_ok hmix (run4 s t) rfl rfl
theorem law5 (r s t : List UInt8) : CallOk Try.prog 5 [.str r, .str s, .str t] (.pure (.bool true)) := callOk_val cl2_ok hmix (run5 r s t) rfl rfl
end Go.Proofs.Ytalflblaefffnaa
