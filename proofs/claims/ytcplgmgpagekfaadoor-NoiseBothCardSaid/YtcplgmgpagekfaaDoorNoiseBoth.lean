/- The given card: for every input the law returns true, and each argument reads as it read; the package variables are tied to the program's text. No condition. -/
import Derived.Test.YtcplgmgpagekfaaDoorCards
import Derived.Test.YtcplgmgpagekfaaDoorTie
import Derived.Test.YtcplgmgpagekfaaDoorB14
import Derived.Test.YtcplgmgpagekfaaDoorB15
import Derived.SevenTiedAt
import Derived.SizedLaws
namespace Go.Proofs.YtcplgmgpagekfaaDoor.noiseBoth
open Go Go.Eng Go.ChangeShapes Go.WideShapes Go.ChangeAt Go.RowKit Go.Bla
open Go.ChangeMaps (open_string shut_string)
set_option linter.unusedVariables false
set_option linter.unusedSimpArgs false
set_option maxRecDepth 100000
theorem own : ownKnob Tryd.prog.godebug = none := by kernel_rfl
theorem laidB : laidOutB Tryd.prog = true := by kernel_rfl
theorem flat_arg {H : Type} {enc : TypeId × Value → H} {P : Program} {W : World} {t : TypeId} {n : Nat} {ks : List Kd} (hk : kindsOf P n t = some ks) {v : Value} {d : DataW H} {p : List MemPlace} (h : DataW.Trod enc P W 0 (fun _ => true) true t v d p) : KindsP ks v.cells.toList := by
  obtain ⟨fuel, hf⟩ := h
  exact kindsOf_ok n t ks hk _ _ _ hf
theorem walk (v0 : Value) (a b e f p o t : L8) (e0 : ∀ σ, VR σ (rB a b e f p o t) v0) (b00 : a.length ≤ reachBytes) (b10 : b.length ≤ reachBytes) (b20 : e.length ≤ reachBytes) (b30 : f.length ≤ reachBytes) (b40 : p.length ≤ reachBytes) (b50 : o.length ≤ reachBytes) (b60 : t.length ≤ reachBytes) (a1 : ByteArray) (W : World) (hL : laidMetH Tryd.prog laid1 W) : Calls Tryd.prog 3 #[v0, .string a1] W fun e w' => e = .returned (.bool true) ∧ Grew W w' ∧ Still W w' :=
  law_calls_TS zL ⟨_, _, lawB okR dhR a b e f p o t a1.data.toList (reach_le b00) (reach_le b10) (reach_le b20) (reach_le b30) (reach_le b40) (reach_le b50) (reach_le b60)⟩ hL (fun σ => (.cons (e0 σ) (.cons (vr_str _ a1) (.nil _))))
theorem lifted (os : Os) (started : os.Started) (H : Type) (enc : TypeId × Value → H) :
    ReturnsInHanded {} Tryd.checked os 3 .any (fun w args => (Rows.noiseBothSpec.pre enc Tryd.prog Tryd.f3 [] false w args ∧ laidMetH Tryd.prog laid1 w) ∧ sizedMet enc Tryd.prog Tryd.f3 (OpenSpec.ofChange Rows.noiseBothSpec) false w args)
      (Rows.noiseBothSpec.post enc Tryd.prog Tryd.f3 false true false false) := by
  refine returnsInHanded_of_change_and (C := Tryd.checked) (X := fun w _ => laidMetH Tryd.prog laid1 w) (fun _ _ _ hh h => h.of_heap hh) own started (by kernel_rfl) Tryd.func3
    (ChangeSpec.witness_shaped (enc := enc) (C := Tryd.checked) (os := os) (X := fun w _ => laidMetH Tryd.prog laid1 w) false (World.doorLaid Tryd.prog 400 os) #[.agg #[.string ByteArray.empty, .string ByteArray.empty, .string ByteArray.empty, .string ByteArray.empty, .string ByteArray.empty, .string ByteArray.empty, .string ByteArray.empty], .string ByteArray.empty] 8 rfl (World.shaped_of_RefB (by kernel_rfl) (by kernel_rfl)) (by kernel_rfl) (by kernel_rfl) (by kernel_rfl) (door_met os _)) ?_
  intro W base args ds gs before hval0 hW _ hz hL _
  have hval : ∀ (j : Nat) t v, Tryd.f3.params[j]? = some t → args[j]? = some v → Value.okWide Tryd.prog W .any base t v := hval0
  have hW' := hW
  obtain ⟨p, q, hA0, hV, rfl, hfz, hnd⟩ := hW
  have hA1 := hA0
  have hA : DataW.TrodAll enc Tryd.prog W 0 (fun _ => true) true Tryd.f3.params.toList args.toList ds p := hA0
  rw [Tryd.params3] at hA hval
  obtain ⟨v0, vs0, d0, ds0, p0, q0, hargs, rfl, rfl, h0, r0⟩ := trodAll_cons hA
  obtain ⟨v1, vs1, d1, ds1, p1, q1, rfl, rfl, rfl, h1, r1⟩ := trodAll_cons r0
  obtain ⟨rfl, rfl, rfl⟩ := trodAll_nil r1
  obtain rfl : args = #[v0, v1] := by cases args; simp_all
  obtain ⟨rfl, rfl⟩ := trodVars_none hV
  have hk0 : KindsB reachBytes [.str, .str, .str, .str, .str, .str, .str] v0.cells.toList := by
    obtain ⟨fuel, hf⟩ := h0
    exact kindsOfB_ok 20 23 _ (by kernel_rfl) _ _ _ hf (fun n hn => by
      have := List.all_eq_true.1 hz n (DataW.weights_mem_each (j := 0) (t := 23) (by kernel_rfl) rfl n hn)
      simpa using this)
  obtain ⟨a, b, e, f, p, o, t, e0, b00, b10, b20, b30, b40, b50, b60⟩ := run_argB hk0
  obtain ⟨a1, rfl, rfl, rfl, w1⟩ := open_string Tryd.underlying9 (hval 1 9 v1 rfl rfl) h1
  refine (walk v0 a b e f p o t e0 b00 b10 b20 b30 b40 b50 b60 a1 W hL).mono fun e W' ⟨he, hg, hs⟩ => ?_
  subst he
  exact ⟨_, rfl, Go.Eng.post_of_grew (pv := []) hW' (fun _ _ _ => (trodAll_cons_mk (shut_bool Tryd.underlying4 _) trodAll_mk0)) (fun sp hsp => args_stay laidB hs (by kernel_rfl) hA1 (fun x hx => hW'.lt x (List.mem_append_left _ hx)) sp (fun x hx => hsp x (List.mem_append_left _ hx))) (fun _ _ => rfl) rfl
    hg (ok_one (by kernel_rfl) rfl (okWide_bool_mk Tryd.underlying4 _))⟩
theorem over : Rows.NoiseBothSaid :=
  OpenClaim.holds_of_wide 3 Tryd.f3 rfl rfl rfl rfl rfl rfl rfl ⟨rfl, rfl, rfl, rfl, rfl⟩ rfl rfl rfl rfl rfl (by kernel_rfl) Tryd.func3 (by kernel_rfl)
    (of_decide_eq_true (by kernel_rfl)) (by unfold Func.isWrapper; first | (rw [if_pos (by decide +kernel)]; kernel_rfl) | (rw [if_neg (by decide +kernel)]; exact ⟨rfl, rfl⟩))
    (fun os started H enc _ => lifted os started H enc)
theorem proved : Rows.NoiseBothCardSaid :=
  Claim7.holds_tied_plain_at .later [] [.data] true (true, "84c4165d2e4c2d0e60ad726254719bbbfe67444b43fa2ecfb4a4257c5e246355") false
    over (fun _ h => by cases h) (by kernel_rfl) (fun _ h => by cases h) noiseBoth_row_tie rfl ⟨rfl, rfl⟩ (by kernel_rfl) rfl
    (fun f fn hf hfn => by
      obtain rfl : f = 3 := Option.some.inj ((show Tryd.prog.funcNamed "isthmus/isthmuslaw16.NoiseBoth" = some 3 by kernel_rfl).symm.trans hf) |>.symm
      obtain rfl : fn = Tryd.f3 := (Option.some.inj (Tryd.func3.symm.trans hfn)).symm
      exact ⟨by kernel_rfl, fun j t ht => by
        rw [Tryd.params3] at ht
        have hm : t ∈ [23, 9] := by simpa using Array.mem_of_getElem? ht
        have hall : ([23, 9].all fun u => !Tryd.prog.wantsStandIn u) = true := by kernel_rfl
        exact (show Tryd.prog.wantsStandIn t = false by simpa using List.all_eq_true.1 hall t hm)⟩)
    (by kernel_rfl)
end Go.Proofs.YtcplgmgpagekfaaDoor.noiseBoth
