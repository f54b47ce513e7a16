/- Handshakes: nobody answers: the runs and the law. -/
import Derived.Test.YtcplgmgpagekfaaDoorP13
/- Handshakes: nobody answers: the runs. -/
namespace Go.Proofs.YtcplgmgpagekfaaDoor
open Go Go.Eng Go.Num Go.Bla
set_option maxRecDepth 100000
set_option maxHeartbeats 1000000
set_option linter.unusedSimpArgs false
set_option linter.unusedVariables false
noncomputable def ob_nL (φ : Fz) (s : L8) : List Bool := [oS (lkE (.bool true)) 33 (hA []) (.bool true), gtB s 4096]
theorem nL (φ : Fz) (s : L8) : ansO (run1O Tryd.prog (psL φ) (csL φ) [12, 300013] [true] [.bool true, .tup []] (mask 4) 200 4 [.str s] H0 1) = some (.bool true, ob_nL φ s) := by kernel_rfl
noncomputable def ob_nN (φ : Fz) (s : L8) : List Bool := [oS (lkE (.bool true)) 385 (hA [(113, got0), (193, got0)]) (.bool true), !(gtB s 4096)]
theorem nN (φ : Fz) (s : L8) : ansO (run1O Tryd.prog (psL φ) (csL φ) [12, 300049] [false] [.bool true, .tup []] (mask 4) 200 4 [.str s] H0 1) = some (.bool true, ob_nN φ s) := by kernel_rfl
end Go.Proofs.YtcplgmgpagekfaaDoor
namespace Go.Proofs.YtcplgmgpagekfaaDoor
open Go Go.Eng Go.Num Go.Bla
set_option maxRecDepth 100000
set_option linter.unusedSimpArgs false
set_option linter.unusedVariables false
theorem lawN (φ : Fz) (s : L8) : (run1 Tryd.prog (csL φ) (mask 4) 200 4 [.str s] H0 1).map (·.1) = some (.bool true) := by
  have hps : PSOk (psL φ) (csL φ) := csP_ok
  cases h : gtB s 4096 with
  | true => exact ansO_run hps (nL φ s) (allM (lkO rfl) (allM h rfl))
  | false => exact ansO_run hps (nN φ s) (allM (lkO rfl) (allM (nt h) rfl))
theorem nils (s : L8) : CallOk Tryd.prog 4 [.str s] (tL (some (.bool true))) :=
  lk_ok zL rfl rfl ⟨200, mask 4, run_of (lawN realZ s)⟩
end Go.Proofs.YtcplgmgpagekfaaDoor
