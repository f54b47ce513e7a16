/- The given card: for every input the law returns true, and each argument reads as it read; the package variable is tied to the program's text. No condition. -/
import Derived.Test.YtaepfopmicnnbaaDoorCards
import Derived.Test.YtaepfopmicnnbaaDoorTie
import Derived.Test.YtaepfopmicnnbaaDoorT9
import Derived.SevenTiedAt
namespace Go.Proofs.YtaepfopmicnnbaaDoor.shaPieces
open Go Go.Eng Go.ChangeShapes Go.WideShapes Go.ChangeAt Go.RowKit
open Go.ChangeMaps (open_string shut_string)
set_option linter.unusedVariables false
set_option linter.unusedSimpArgs false
set_option maxRecDepth 100000
theorem own : ownKnob Tryd.prog.godebug = none := by kernel_rfl
theorem laidB : laidOutB Tryd.prog = true := by kernel_rfl
theorem walk (v : Value) (W : World) (hL : laidMetH Tryd.prog laid1 W) (ho : v = .slice none 0 0 ∨ ∃ b o len cap, v = .slice (some ⟨b, o, none⟩) len cap ∧ len ≤ cap ∧ cap ≤ maxLen ∧ (0 < len → ∃ c t' fz, RowAt W [.str] b o len cap c t' fz)) :
    Calls Tryd.prog 5 #[v] W fun e w' => e = .returned (.bool true) ∧ Grew W w' ∧ Still W w' := by
  obtain ⟨n, hob⟩ := of_laid hL
  exact rows_calls_T nLr_ok hmix (ks := [.str]) (E := (List UInt8)) (cellsE := cs5) (fun _ => rfl) (by
    intro cs' hk
    obtain ⟨_, _, rfl, ⟨s0, rfl, _⟩, k1⟩ := hk.cons
    obtain rfl := k1.none
    exact ⟨s0.data.toList, VRs.get (.cons (fun σ => vr_str σ s0) .nil)⟩) (args := fun u => [u]) (args' := fun v => #[v]) (fun σ u u' h => (.cons h (.nil _))) (G := 1) (by kernel_rfl) (sigT_g n) (sigT_fresh n)
    law5n law5e (fun l => law5 l) (tabT hob) ho
theorem lifted (os : Os) (started : os.Started) (H : Type) (enc : TypeId × Value → H) :
    ReturnsInHanded {} Tryd.checked os 5 .any (fun w args => (Rows.shaPiecesSpec.pre enc Tryd.prog Tryd.f5 [] false w args ∧ laidMetH Tryd.prog laid1 w) ∧ sizedMet enc Tryd.prog Tryd.f5 (OpenSpec.ofChange Rows.shaPiecesSpec) false w args)
      (Rows.shaPiecesSpec.post enc Tryd.prog Tryd.f5 false true false false) := by
  refine returnsInHanded_of_change_and (C := Tryd.checked) (X := fun w _ => laidMetH Tryd.prog laid1 w) (fun _ _ _ hh h => h.of_heap hh) own started (by kernel_rfl) Tryd.func5
    (ChangeSpec.witness_shaped (enc := enc) (C := Tryd.checked) (os := os) (X := fun w _ => laidMetH Tryd.prog laid1 w) false (World.doorLaid Tryd.prog 400 os) #[.slice none 0 0] 8 rfl (World.shaped_of_RefB (by kernel_rfl) (by kernel_rfl)) (by kernel_rfl) (by kernel_rfl) (by kernel_rfl) (door_met os _)) ?_
  intro W base args ds gs before hval0 hW _ _ hL _
  have hval : ∀ (j : Nat) t v, Tryd.f5.params[j]? = some t → args[j]? = some v → Value.okWide Tryd.prog W .any base t v := hval0
  have hW' := hW
  obtain ⟨p, q, hA0, hV, rfl, hfz, hnd⟩ := hW
  have hA1 := hA0
  have hA : DataW.TrodAll enc Tryd.prog W 0 (fun _ => true) true Tryd.f5.params.toList args.toList ds p := hA0
  rw [Tryd.params5] at hA hval
  obtain ⟨v0, vs0, d0, ds0, p0, q0, hargs, rfl, rfl, h0, r0⟩ := trodAll_cons hA
  obtain ⟨rfl, rfl, rfl⟩ := trodAll_nil r0
  obtain rfl : args = #[v0] := by cases args; simp_all
  obtain ⟨rfl, rfl⟩ := trodVars_none hV
  have ho := open_flat Tryd.underlying33 (n := 20) (ks := [.str]) (by kernel_rfl) (by kernel_rfl) (by decide) (hval 0 33 v0 rfl rfl) h0
  refine (walk v0 W hL ho).mono fun e W' ⟨he, hg, hs⟩ => ?_
  subst he
  exact ⟨_, rfl, Go.Eng.post_of_grew (pv := []) hW' (fun _ _ _ => (trodAll_cons_mk (shut_bool Tryd.underlying4 _) trodAll_mk0)) (fun sp hsp => args_stay laidB hs (by kernel_rfl) hA1 (fun x hx => hW'.lt x (List.mem_append_left _ hx)) sp (fun x hx => hsp x (List.mem_append_left _ hx))) (fun _ _ => rfl) rfl
    hg (ok_one (by kernel_rfl) rfl (okWide_bool_mk Tryd.underlying4 _))⟩
theorem over : Rows.ShaPiecesSaid :=
  OpenClaim.holds_of_wide 5 Tryd.f5 rfl rfl rfl rfl rfl rfl rfl ⟨rfl, rfl, rfl, rfl, rfl⟩ rfl rfl rfl rfl rfl (by kernel_rfl) Tryd.func5 (by kernel_rfl)
    (of_decide_eq_true (by kernel_rfl)) (by unfold Func.isWrapper; first | (rw [if_pos (by decide +kernel)]; kernel_rfl) | (rw [if_neg (by decide +kernel)]; exact ⟨rfl, rfl⟩))
    (fun os started H enc _ => lifted os started H enc)
theorem proved : Rows.ShaPiecesCardSaid :=
  Claim7.holds_tied_plain_at .later [] [.data] true (true, "8c798833173f447679ade0fccaca0a6a07cc107e9bb4ed6444605c8f8ebfe428") false
    over (fun _ h => by cases h) (by kernel_rfl) (fun _ h => by cases h) shaPieces_row_tie rfl ⟨rfl, rfl⟩ (by kernel_rfl) rfl
    (fun f fn hf hfn => by
      obtain rfl : f = 5 := Option.some.inj ((show Tryd.prog.funcNamed "isthmus/isthmuslaw05.ShaPieces" = some 5 by kernel_rfl).symm.trans hf) |>.symm
      obtain rfl : fn = Tryd.f5 := (Option.some.inj (Tryd.func5.symm.trans hfn)).symm
      exact ⟨by kernel_rfl, fun j t ht => by
        rw [Tryd.params5] at ht
        have hm : t ∈ [33] := by simpa using Array.mem_of_getElem? ht
        have hall : ([33].all fun u => !Tryd.prog.wantsStandIn u) = true := by kernel_rfl
        exact (show Tryd.prog.wantsStandIn t = false by simpa using List.all_eq_true.1 hall t hm)⟩)
    (by kernel_rfl)
end Go.Proofs.YtaepfopmicnnbaaDoor.shaPieces
