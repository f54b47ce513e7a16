/- The given card: for every input the law returns true, and each argument reads as it read; the package variables are tied to the program's text. No condition. -/
import Derived.Test.YthlemfnkmpikjaaDoorCards
import Derived.Test.YthlemfnkmpikjaaDoorTie
import Derived.Test.YthlemfnkmpikjaaDoorM10
import Derived.SevenTiedAt
namespace Go.Proofs.YthlemfnkmpikjaaDoor.msgSizes
open Go Go.Eng Go.ChangeShapes Go.WideShapes Go.ChangeAt Go.RowKit Go.Msg
open Go.ChangeMaps (open_string shut_string)
set_option linter.unusedVariables false
set_option linter.unusedSimpArgs false
set_option maxRecDepth 100000
theorem own : ownKnob Tryd.prog.godebug = none := by kernel_rfl
theorem laidB : laidOutB Tryd.prog = true := by kernel_rfl
theorem flat_arg {H : Type} {enc : TypeId × Value → H} {P : Program} {W : World} {t : TypeId} {n : Nat} {ks : List Kd} (hk : kindsOf P n t = some ks) {v : Value} {d : DataW H} {p : List MemPlace} (h : DataW.Trod enc P W 0 (fun _ => true) true t v d p) : KindsP ks v.cells.toList := by
  obtain ⟨fuel, hf⟩ := h
  exact kindsOf_ok n t ks hk _ _ _ hf
theorem walk (v0 : Value) (m0 : Ms) (g0 : rngM m0) (e0 : ∀ σ, VR σ (mA m0) v0) (v1 : Value) (m1 : Ms) (g1 : rngM m1) (e1 : ∀ σ, VR σ (mA m1) v1) (W : World) (hL : laidMetH Tryd.prog laid1 W) : Calls Tryd.prog 5 #[v0, v1] W fun e w' => e = .returned (.bool true) ∧ Grew W w' ∧ Still W w' :=
  law_calls_TS nY_ok ⟨_, _, law5r m0 g0 m1 g1⟩ hL (fun σ => (.cons (e0 σ) (.cons (e1 σ) (.nil _))))
theorem lifted (os : Os) (started : os.Started) (H : Type) (enc : TypeId × Value → H) :
    ReturnsInHanded {} Tryd.checked os 5 .any (fun w args => (Rows.msgSizesSpec.pre enc Tryd.prog Tryd.f5 [] false w args ∧ laidMetH Tryd.prog laid1 w) ∧ sizedMet enc Tryd.prog Tryd.f5 (OpenSpec.ofChange Rows.msgSizesSpec) false w args)
      (Rows.msgSizesSpec.post enc Tryd.prog Tryd.f5 false true false false) := by
  refine returnsInHanded_of_change_and (C := Tryd.checked) (X := fun w _ => laidMetH Tryd.prog laid1 w) (fun _ _ _ hh h => h.of_heap hh) own started (by kernel_rfl) Tryd.func5
    (ChangeSpec.witness_shaped (enc := enc) (C := Tryd.checked) (os := os) (X := fun w _ => laidMetH Tryd.prog laid1 w) false (World.doorLaid Tryd.prog 400 os) #[.agg #[.int .u8 0, .string ByteArray.empty, .string ByteArray.empty, .int .u32 0, .int .u32 0, .int .u64 0, .int .u64 0, .int .u64 0, .string ByteArray.empty, .bool false, .int .u64 0, .int .u64 0, .int .u16 0, .int .u16 0, .string ByteArray.empty, .string ByteArray.empty, .string ByteArray.empty], .agg #[.int .u8 0, .string ByteArray.empty, .string ByteArray.empty, .int .u32 0, .int .u32 0, .int .u64 0, .int .u64 0, .int .u64 0, .string ByteArray.empty, .bool false, .int .u64 0, .int .u64 0, .int .u16 0, .int .u16 0, .string ByteArray.empty, .string ByteArray.empty, .string ByteArray.empty]] 8 rfl (World.shaped_of_RefB (by kernel_rfl) (by kernel_rfl)) (by kernel_rfl) (by kernel_rfl) (by kernel_rfl) (door_met os _)) ?_
  intro W base args ds gs before hval0 hW _ _ hL _
  have hval : ∀ (j : Nat) t v, Tryd.f5.params[j]? = some t → args[j]? = some v → Value.okWide Tryd.prog W .any base t v := hval0
  have hW' := hW
  obtain ⟨p, q, hA0, hV, rfl, hfz, hnd⟩ := hW
  have hA1 := hA0
  have hA : DataW.TrodAll enc Tryd.prog W 0 (fun _ => true) true Tryd.f5.params.toList args.toList ds p := hA0
  rw [Tryd.params5] at hA hval
  obtain ⟨v0, vs0, d0, ds0, p0, q0, hargs, rfl, rfl, h0, r0⟩ := trodAll_cons hA
  obtain ⟨v1, vs1, d1, ds1, p1, q1, rfl, rfl, rfl, h1, r1⟩ := trodAll_cons r0
  obtain ⟨rfl, rfl, rfl⟩ := trodAll_nil r1
  obtain rfl : args = #[v0, v1] := by cases args; simp_all
  obtain ⟨rfl, rfl⟩ := trodVars_none hV
  obtain ⟨m0, g0, e0⟩ := msg_arg (flat_arg (n := 20) (by kernel_rfl) h0)
  obtain ⟨m1, g1, e1⟩ := msg_arg (flat_arg (n := 20) (by kernel_rfl) h1)
  refine (walk v0 m0 g0 e0 v1 m1 g1 e1 W hL).mono fun e W' ⟨he, hg, hs⟩ => ?_
  subst he
  exact ⟨_, rfl, Go.Eng.post_of_grew (pv := []) hW' (fun _ _ _ => (trodAll_cons_mk (shut_bool Tryd.underlying4 _) trodAll_mk0)) (fun sp hsp => args_stay laidB hs (by kernel_rfl) hA1 (fun x hx => hW'.lt x (List.mem_append_left _ hx)) sp (fun x hx => hsp x (List.mem_append_left _ hx))) (fun _ _ => rfl) rfl
    hg (ok_one (by kernel_rfl) rfl (okWide_bool_mk Tryd.underlying4 _))⟩
theorem over : Rows.MsgSizesSaid :=
  OpenClaim.holds_of_wide 5 Tryd.f5 rfl rfl rfl rfl rfl rfl rfl ⟨rfl, rfl, rfl, rfl, rfl⟩ rfl rfl rfl rfl rfl (by kernel_rfl) Tryd.func5 (by kernel_rfl)
    (of_decide_eq_true (by kernel_rfl)) (by unfold Func.isWrapper; first | (rw [if_pos (by decide +kernel)]; kernel_rfl) | (rw [if_neg (by decide +kernel)]; exact ⟨rfl, rfl⟩))
    (fun os started H enc _ => lifted os started H enc)
theorem proved : Rows.MsgSizesCardSaid :=
  Claim7.holds_tied_plain_at .later [] [.data, .data, .data] true (true, "c09cfb0fb5c37f601f38cfd7cabc8f420b8801e3fb8142c14d7d38fe687a7b05") false
    over (fun _ h => by cases h) (by kernel_rfl) (fun _ h => by cases h) msgSizes_row_tie rfl ⟨rfl, rfl⟩ (by kernel_rfl) rfl
    (fun f fn hf hfn => by
      obtain rfl : f = 5 := Option.some.inj ((show Tryd.prog.funcNamed "isthmus/isthmuslaw15.MsgSizes" = some 5 by kernel_rfl).symm.trans hf) |>.symm
      obtain rfl : fn = Tryd.f5 := (Option.some.inj (Tryd.func5.symm.trans hfn)).symm
      exact ⟨by kernel_rfl, fun j t ht => by
        rw [Tryd.params5] at ht
        have hm : t ∈ [30, 30] := by simpa using Array.mem_of_getElem? ht
        have hall : ([30, 30].all fun u => !Tryd.prog.wantsStandIn u) = true := by kernel_rfl
        exact (show Tryd.prog.wantsStandIn t = false by simpa using List.all_eq_true.1 hall t hm)⟩)
    (by kernel_rfl)
end Go.Proofs.YthlemfnkmpikjaaDoor.msgSizes
