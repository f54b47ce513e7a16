/- Engine, part 20: from a law's answer to the row. -/
import Derived.Test.YtkgbpnihbamceaaEng19
import Derived.WalkKit
import Derived.ProofKit
import Derived.OpenShut
import Derived.ShutString
import Derived.ChangeSame
namespace Go.Eng
set_option linter.unusedVariables false
set_option linter.unusedSimpArgs false
open Go Go.WideShapes Go.ChangeShapes
theorem post_of_grew {H : Type} {enc : TypeId × Value → H} {P : Program} {f : Func} {s : ChangeSpec} {apart fresh handsOn again : Bool} {W W' : World} {args : Array Value} {v : Value} {ds gs : List (DataW H)} {before pa pv : List MemPlace}
    (hW : DataW.Whole enc P f.params.toList s.vars apart W args.toList ds gs before)
    (hres : ∀ (b : Nat) (sp : Nat → Bool) (hd : Bool), DataW.TrodAll enc P W' b sp hd f.resultTypes.toList (v.resultList f.resultTypes.size) (s.fn H (ds ++ gs)).results [])
    (hargs : ∀ sp : Nat → Bool, (∀ p ∈ before, sp p.block = true) → DataW.TrodAll enc P W' 0 sp true f.params.toList args.toList (s.fn H (ds ++ gs)).args pa)
    (hvars : ∀ sp : Nat → Bool, (∀ p ∈ before, sp p.block = true) → DataW.TrodVars enc P W' sp s.vars (s.fn H (ds ++ gs)).vars pv)
    (hps : before = pa ++ pv) (hg : Grew W W')
    (hok : ∀ (j : Nat) (t : TypeId) (r : Value), f.resultTypes[j]? = some t → (v.resultList f.resultTypes.size)[j]? = some r → Value.okWide P W' .any 0 t r) :
    s.post enc P f apart fresh handsOn again W args v W' := by
  have hlt := hW.lt
  have hold : ∀ p ∈ before, (fun b => decide (b < W.heap.size)) p.block = true := fun p hp => by simpa using hlt p hp
  refine ⟨ds, gs, before, [], pa, pv, hW, hres _ _ _, hargs _ hold, hvars _ hold, World.keptBut_mono (fun p hp => hp.elim) hg.1, fun _ => ?_⟩
  obtain ⟨_, _, _, _, _, hz, hn⟩ := hW
  have hmem : ∀ p, p ∈ ([] ++ pa) ++ pv → p ∈ before := fun p hp => by rw [hps]; simpa using hp
  refine ⟨hok, _, _, ([] ++ pa) ++ pv, ⟨[] ++ pa, pv, trodAll_append (hargs _ (fun _ _ => rfl)) (hres _ _ _), hvars _ (fun _ _ => rfl), rfl, fun b off hp => ?_, fun ha => ?_⟩, fun p hp _ => ?_⟩
  · have hb := hmem _ hp
    rw [hg.2.1 ⟨b, off, none⟩ (hlt _ hb)]
    exact hz b off hb
  · have := hn ha
    rw [hps] at this
    simpa using this
  · exact hmem _ hp
/-! ### the arguments -/
theorem vr_str (σ : Sig) (a : ByteArray) : VR σ (.str a.data.toList) (.string a) := by
  have := VR.str (σ := σ) a.data.toList
  rwa [Array.toArray_toList] at this
theorem wf_le {k : IntKind} {n : Int} (h : (Lit.int k n).wf = true) : k.min ≤ n ∧ n ≤ k.max := by
  simpa only [Lit.wf, Bool.and_eq_true, decide_eq_true_eq] using h
theorem vr_u8 {a : Int} (h : (Lit.int .u8 a).wf = true) : ∃ x : UInt8, ∀ σ, VR σ (.u8 x) (.int .u8 a) := by
  have h' := wf_le h
  have h1 : (0 : Int) ≤ a := h'.1
  have h2 : a ≤ 255 := h'.2
  refine ⟨UInt8.ofNat a.toNat, fun σ => ?_⟩
  have e : ((UInt8.ofNat a.toNat).toNat : Int) = a := by rw [UInt8.toNat_ofNat_of_lt' (show a.toNat < 256 by omega)]; omega
  have := VR.u8 (σ := σ) (UInt8.ofNat a.toNat)
  rwa [e] at this
theorem vr_u32 {a : Int} (h : (Lit.int .u32 a).wf = true) : ∃ x : UInt32, ∀ σ, VR σ (.u32 x) (.int .u32 a) := by
  have h' := wf_le h
  have h1 : (0 : Int) ≤ a := h'.1
  have h2 : a ≤ 4294967295 := h'.2
  refine ⟨UInt32.ofNat a.toNat, fun σ => ?_⟩
  have e : ((UInt32.ofNat a.toNat).toNat : Int) = a := by rw [UInt32.toNat_ofNat_of_lt' (show a.toNat < 4294967296 by omega)]; omega
  have := VR.u32 (σ := σ) (UInt32.ofNat a.toNat)
  rwa [e] at this
theorem vr_u64 {a : Int} (h : (Lit.int .u64 a).wf = true) : ∃ x : UInt64, ∀ σ, VR σ (.u64 x) (.int .u64 a) := by
  have h' := wf_le h
  have h1 : (0 : Int) ≤ a := h'.1
  have h2 : a ≤ 18446744073709551615 := h'.2
  refine ⟨UInt64.ofNat a.toNat, fun σ => ?_⟩
  have e : ((UInt64.ofNat a.toNat).toNat : Int) = a := by rw [UInt64.toNat_ofNat_of_lt' (show a.toNat < 18446744073709551616 by omega)]; omega
  have := VR.u64 (σ := σ) (UInt64.ofNat a.toNat)
  rwa [e] at this
end Go.Eng
