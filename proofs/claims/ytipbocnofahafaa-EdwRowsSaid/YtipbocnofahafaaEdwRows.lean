/- The given statement: for every input the law returns true, and each argument reads as it read. No condition. -/
import Derived.Test.YtipbocnofahafaaRows
import Derived.Test.YtipbocnofahafaaU11
import Derived.Test.YtipbocnofahafaaT5
import Derived.WalkKit
import Derived.ProofKit
import Derived.OpenShut
import Derived.ShutString
namespace Go.Proofs.Ytipbocnofahafaa.edwRows
open Go Go.Eng Go.ChangeShapes Go.WideShapes Go.ChangeAt Go.RowKit
open Go.ChangeMaps (open_string shut_string)
set_option linter.unusedVariables false
set_option linter.unusedSimpArgs false
set_option maxRecDepth 100000
theorem own : ownKnob Try.prog.godebug = none := by kernel_rfl
theorem laid : laidOutB Try.prog = true := by kernel_rfl
theorem walk (a0 : ByteArray) (v : Value) (W : World) (ho : v = .slice none 0 0 ∨ ∃ b o len cap, v = .slice (some ⟨b, o, none⟩) len cap ∧ len ≤ cap ∧ cap ≤ maxLen ∧ (0 < len → ∃ c t' fz, RowAt W [.str] b o len cap c t' fz)) :
    Calls Try.prog 4 #[.string a0, v] W fun e w' => e = .returned (.bool true) ∧ Grew W w' ∧ Still W w' := by
  exact rows_calls Go.Proofs.Ytipbocnofahafaa.nl_ok Go.Proofs.Ytipbocnofahafaa.hmix (ks := [.str]) (E := (List UInt8)) (cellsE := Go.Proofs.Ytipbocnofahafaa.rowC) (fun _ => rfl) (by
    intro cs' hk
    obtain ⟨_, _, rfl, ⟨s0, rfl, _⟩, k1⟩ := hk.cons
    obtain rfl := k1.none
    exact ⟨s0.data.toList, VRs.get (.cons (fun σ => vr_str σ s0) .nil)⟩) (args := fun u => [.str a0.data.toList, u]) (args' := fun v => #[.string a0, v]) (fun σ u u' h => (.cons (vr_str _ a0) (.cons h (.nil _)))) (G := 1) (by kernel_rfl)
    (Go.Proofs.Ytipbocnofahafaa.run4n a0.data.toList) (Go.Proofs.Ytipbocnofahafaa.run4e a0.data.toList) (fun l => Go.Proofs.Ytipbocnofahafaa.run4 a0.data.toList l) ho
theorem lifted (os : Os) (started : os.Started) (H : Type) (enc : TypeId × Value → H) :
    ReturnsInHanded {} Try.checked os 4 .any (Rows.edwRowsSpec.pre6 enc Try.prog Try.f4 Rows.edwRowsRow.domain false) (Rows.edwRowsSpec.post enc Try.prog Try.f4 false true false false) := by
  refine returnsInHanded_of_change (C := Try.checked) own started (by kernel_rfl) Try.func4
    (ChangeSpec.witness6 (enc := enc) (C := Try.checked) false ⟨#[], #[.string ByteArray.empty, .slice none 0 0], []⟩ 8 (by kernel_rfl) (by kernel_rfl) (by kernel_rfl) (by kernel_rfl)) ?_
  intro W base args ds gs before hval0 hW hcnd _
  have hval : ∀ (j : Nat) t v, Try.f4.params[j]? = some t → args[j]? = some v → Value.okWide Try.prog W .any base t v := hval0
  have hW' := hW
  obtain ⟨p, q, hA0, hV, rfl, hfz, hnd⟩ := hW
  have hA1 := hA0
  have hA : DataW.TrodAll enc Try.prog W 0 (fun _ => true) true Try.f4.params.toList args.toList ds p := hA0
  rw [Try.params4] at hA hval
  obtain ⟨v0, vs0, d0, ds0, p0, q0, hargs, rfl, rfl, h0, r0⟩ := trodAll_cons hA
  obtain ⟨v1, vs1, d1, ds1, p1, q1, rfl, rfl, rfl, h1, r1⟩ := trodAll_cons r0
  obtain ⟨rfl, rfl, rfl⟩ := trodAll_nil r1
  obtain rfl : args = #[v0, v1] := by cases args; simp_all
  obtain ⟨rfl, rfl⟩ := trodVars_none hV
  obtain ⟨a0, rfl, rfl, rfl, w0⟩ := open_string Try.underlying9 (hval 0 9 v0 rfl rfl) h0
  have ho := open_flat Try.underlying41 (n := 20) (ks := [.str]) (by kernel_rfl) (by kernel_rfl) (by decide) (hval 1 41 v1 rfl rfl) h1
  refine (walk a0 v1 W ho).mono fun e W' ⟨he, hg, hs⟩ => ?_
  subst he
  exact ⟨_, rfl, Go.Eng.post_of_grew (pv := []) hW' (fun _ _ _ => (trodAll_cons_mk (shut_bool Try.underlying4 _) trodAll_mk0)) (fun sp hsp => args_stay laid hs (by kernel_rfl) hA1 (fun x hx => hW'.lt x (List.mem_append_left _ hx)) sp (fun x hx => hsp x (List.mem_append_left _ hx))) (fun _ _ => rfl) rfl
    hg (ok_one (by kernel_rfl) rfl (okWide_bool_mk Try.underlying4 _))⟩
theorem over : Rows.edwRowsRow.holds Try.pinned (OpenSpec.ofChange Rows.edwRowsSpec) :=
  OpenClaim.holds_of_wide 4 Try.f4 rfl rfl rfl rfl rfl rfl rfl ⟨rfl, rfl, rfl, rfl, rfl⟩ rfl rfl rfl rfl rfl (by kernel_rfl) Try.func4 (by kernel_rfl)
    (of_decide_eq_true (by kernel_rfl)) (by unfold Func.isWrapper; first | (rw [if_pos (by decide +kernel)]; kernel_rfl) | (rw [if_neg (by decide +kernel)]; exact ⟨rfl, rfl⟩))
    (fun os started H enc _ => lifted os started H enc)
theorem proved : Rows.EdwRowsSaid :=
  over
end Go.Proofs.Ytipbocnofahafaa.edwRows
