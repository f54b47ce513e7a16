/- Texts Sp4, Eng20, Eng29, Eng42, SpJ, Sp5, Sp6, Eng43, SpK: what they show stands ahead of each. -/
import Derived.Test.YtaepfopmicnnbaaDoorT8
import Derived.Test.YtaepfopmicnnbaaDoorT4
import Derived.WalkKit
import Derived.ProofKit
import Derived.OpenShut
import Derived.ShutString
import Derived.ChangeSame
import Derived.Deep.Slices
import Derived.WideKeyArgs
import Derived.Test.YtaepfopmicnnbaaDoorRows
import Derived.LaidMore
import Derived.Stop.Joined
/- The runs of two statements: digests, and no hash. -/
namespace Go.Proofs.YtaepfopmicnnbaaDoor
set_option linter.unusedVariables false
set_option linter.unusedSimpArgs false
open Go Go.Eng
set_option maxRecDepth 1000000
set_option linter.unusedSimpArgs false
set_option linter.unusedVariables false
noncomputable def alD (ω : Fw) (base : Nat) (H : HL) : Bool := decP ((tabE (tabK (V7 ω))).app base H = some (.bool true, H))
theorem alD_of {ω : Fw} {g : Nat → UInt64} {base : Nat} {H : HL} (h0 : aget H 0 = some (.cells true (cellsU 80 g))) (h : allT (alOb ω (gU (cellsU 80 g))) = true) : alD ω base H = true := by
  apply decP_of
  have hs : shG (cellsU 80 g) = true := by kernel_rfl
  have hv : V7 ω (gU (cellsU 80 g)) = some (.bool true) := by unfold V7; rw [h]; rfl
  unfold tabE EffA.app tabK
  simp only [h0, hs, cond_true, hv, appU]
theorem al_r {base : Nat} {H : HL} (h0 : aget H 0 = some (.cells true (cellsU 80 kF))) : alD ωr base H = true := by
  refine alD_of h0 ?_
  rw [gUg nkF]
  exact al_true
theorem nLr_ok : CSOk Tryd.prog (nL ωr) := csAlt_ok (csP_alt (callOk8 φr nr_ok) (csP_alt (callOk14 φr nr_ok) callOk9)) (csAlt_ok (callOk7 nWr_ok) (csAlt_ok (callOk13 φr nr_ok) (csAlt_ok (callOk15 φr nr_ok) (csAlt_ok (callOkn14 φr nr_ok) (callOkn15 φr nr_ok)))))
theorem run3a (ω : Fw) (g : Nat → UInt64) (l : List UInt8) : ansO (run1O Tryd.prog (psW ω) (nL ω) [5,8,10,11,300006] [true] [.bool true, .tup []] (mask 3) 100 3 [.str l] [(0, .cells true (cellsU 80 g))] 1) =
    some (.bool true, [alD ω 33 [(0, .cells true (cellsU 80 g))], decide ((2048 : Int) < (l.length : Int))]) := by kernel_rfl
theorem run3b (ω : Fw) (g : Nat → UInt64) (l : List UInt8) : ansO (run1O Tryd.prog (psW ω) (nL ω) [5,8,10,11,300013] [false, true] [.bool true, .tup []] (mask 3) 100 3 [.str l] [(0, .cells true (cellsU 80 g))] 1) =
    some (.bool true, [alD ω 81 [(0, .cells true (cellsU 80 g))], ω.of (gU (cellsU 80 g)) l == ω.doc l, Nat.ble l.length 100000000, Nat.ble l.length 100000000, !(decide ((2048 : Int) < (l.length : Int)))]) := by kernel_rfl
theorem run6 (ω : Fw) (g : Nat → UInt64) (l : List UInt8) : ansO (run1O Tryd.prog (psW ω) (nL ω) [300014] [] [.bool true, .tup []] (mask 6) 100 6 [.str l] [(0, .cells true (cellsU 80 g))] 1) =
    some (.bool true, [alD ω 97 [(0, .cells true (cellsU 80 g))]]) := by kernel_rfl
def G0 : HL := [(0, .cells true (cellsU 80 kF))]
theorem law6 (l : List UInt8) : ∃ nn F, (run1 Tryd.prog (nL ωr) nn F 6 [.str l] G0 1).map (·.1) = some (.bool true) :=
  ⟨_, _, ansO_run (nL_ps ωr) (run6 ωr kF l) (by
    have h1 := al_r (base := 97) (H := [(0, .cells true (cellsU 80 kF))]) rfl
    simp only [allT, h1, cond_true])⟩
theorem law3 (l : List UInt8) : ∃ nn F, (run1 Tryd.prog (nL ωr) nn F 3 [.str l] G0 1).map (·.1) = some (.bool true) := by
  by_cases hl : 2048 < l.length
  · exact ⟨_, _, ansO_run (nL_ps ωr) (run3a ωr kF l) (by
      have h1 := al_r (base := 33) (H := [(0, .cells true (cellsU 80 kF))]) rfl
      have h2 : decide ((2048 : Int) < (l.length : Int)) = true := decide_eq_true (by omega)
      simp only [allT, h1, h2, cond_true])⟩
  · exact ⟨_, _, ansO_run (nL_ps ωr) (run3b ωr kF l) (by
      have h1 := al_r (base := 81) (H := [(0, .cells true (cellsU 80 kF))]) rfl
      have h2 : decide ((2048 : Int) < (l.length : Int)) = false := decide_eq_false (by omega)
      have h3 : (ωr.of (gU (cellsU 80 kF)) l == ωr.doc l) = true := by
        rw [gUg nkF, beq_iff_eq]
        exact of_doc l (by omega)
      have h4 : Nat.ble l.length 100000000 = true := Nat.ble_eq_true_of_le (by omega)
      simp only [allT, h1, h2, h3, h4, Bool.not_false, cond_true])⟩
end Go.Proofs.YtaepfopmicnnbaaDoor

/- Engine, part 20: from a law's answer to the row. -/
namespace Go.Eng
set_option linter.unusedVariables false
set_option linter.unusedSimpArgs false
open Go Go.WideShapes Go.ChangeShapes
theorem post_of_grew {H : Type} {enc : TypeId × Value → H} {P : Program} {f : Func} {s : ChangeSpec} {apart fresh handsOn again : Bool} {W W' : World} {args : Array Value} {v : Value} {ds gs : List (DataW H)} {before pa pv : List MemPlace}
    (hW : DataW.Whole enc P f.params.toList s.vars apart W args.toList ds gs before)
    (hres : ∀ (b : Nat) (sp : Nat → Bool) (hd : Bool), DataW.TrodAll enc P W' b sp hd f.resultTypes.toList (v.resultList f.resultTypes.size) (s.fn H (ds ++ gs)).results [])
    (hargs : ∀ sp : Nat → Bool, (∀ p ∈ before, sp p.block = true) → DataW.TrodAll enc P W' 0 sp true f.params.toList args.toList (s.fn H (ds ++ gs)).args pa)
    (hvars : ∀ sp : Nat → Bool, (∀ p ∈ before, sp p.block = true) → DataW.TrodVars enc P W' sp s.vars (s.fn H (ds ++ gs)).vars pv)
    (hps : before = pa ++ pv) (hg : Grew W W')
    (hok : ∀ (j : Nat) (t : TypeId) (r : Value), f.resultTypes[j]? = some t → (v.resultList f.resultTypes.size)[j]? = some r → Value.okWide P W' .any 0 t r) :
    s.post enc P f apart fresh handsOn again W args v W' := by
  have hlt := hW.lt
  have hold : ∀ p ∈ before, (fun b => decide (b < W.heap.size)) p.block = true := fun p hp => by simpa using hlt p hp
  refine ⟨ds, gs, before, [], pa, pv, hW, hres _ _ _, hargs _ hold, hvars _ hold, World.keptBut_mono (fun p hp => hp.elim) hg.1, fun _ => ?_⟩
  obtain ⟨_, _, _, _, _, hz, hn⟩ := hW
  have hmem : ∀ p, p ∈ ([] ++ pa) ++ pv → p ∈ before := fun p hp => by rw [hps]; simpa using hp
  refine ⟨hok, _, _, ([] ++ pa) ++ pv, ⟨[] ++ pa, pv, trodAll_append (hargs _ (fun _ _ => rfl)) (hres _ _ _), hvars _ (fun _ _ => rfl), rfl, fun b off hp => ?_, fun ha => ?_⟩, fun p hp _ => ?_⟩
  · have hb := hmem _ hp
    rw [hg.2.1 ⟨b, off, none⟩ (hlt _ hb)]
    exact hz b off hb
  · have := hn ha
    rw [hps] at this
    simpa using this
  · exact hmem _ hp
/-! ### the arguments -/
theorem vr_str (σ : Sig) (a : ByteArray) : VR σ (.str a.data.toList) (.string a) := by
  have := VR.str (σ := σ) a.data.toList
  rwa [Array.toArray_toList] at this
theorem wf_le {k : IntKind} {n : Int} (h : (Lit.int k n).wf = true) : k.min ≤ n ∧ n ≤ k.max := by
  simpa only [Lit.wf, Bool.and_eq_true, decide_eq_true_eq] using h
theorem vr_u8 {a : Int} (h : (Lit.int .u8 a).wf = true) : ∃ x : UInt8, ∀ σ, VR σ (.u8 x) (.int .u8 a) := by
  have h' := wf_le h
  have h1 : (0 : Int) ≤ a := h'.1
  have h2 : a ≤ 255 := h'.2
  refine ⟨UInt8.ofNat a.toNat, fun σ => ?_⟩
  have e : ((UInt8.ofNat a.toNat).toNat : Int) = a := by rw [UInt8.toNat_ofNat_of_lt' (show a.toNat < 256 by omega)]; omega
  have := VR.u8 (σ := σ) (UInt8.ofNat a.toNat)
  rwa [e] at this
theorem vr_u32 {a : Int} (h : (Lit.int .u32 a).wf = true) : ∃ x : UInt32, ∀ σ, VR σ (.u32 x) (.int .u32 a) := by
  have h' := wf_le h
  have h1 : (0 : Int) ≤ a := h'.1
  have h2 : a ≤ 4294967295 := h'.2
  refine ⟨UInt32.ofNat a.toNat, fun σ => ?_⟩
  have e : ((UInt32.ofNat a.toNat).toNat : Int) = a := by rw [UInt32.toNat_ofNat_of_lt' (show a.toNat < 4294967296 by omega)]; omega
  have := VR.u32 (σ := σ) (UInt32.ofNat a.toNat)
  rwa [e] at this
theorem vr_u64 {a : Int} (h : (Lit.int .u64 a).wf = true) : ∃ x : UInt64, ∀ σ, VR σ (.u64 x) (.int .u64 a) := by
  have h' := wf_le h
  have h1 : (0 : Int) ≤ a := h'.1
  have h2 : a ≤ 18446744073709551615 := h'.2
  refine ⟨UInt64.ofNat a.toNat, fun σ => ?_⟩
  have e : ((UInt64.ofNat a.toNat).toNat : Int) = a := by rw [UInt64.toNat_ofNat_of_lt' (show a.toNat < 18446744073709551616 by omega)]; omega
  have := VR.u64 (σ := σ) (UInt64.ofNat a.toNat)
  rwa [e] at this
end Go.Eng

/- Engine, part 29: laws whose arguments are rows: opened out of the given reading, shut again. -/
namespace Go.Eng
set_option linter.unusedVariables false
set_option linter.unusedSimpArgs false
open Go Go.WideShapes Go.ChangeShapes

/-! ### what a row's element is made of -/
inductive Kd where
  | bool
  | int (k : IntKind)
  | str
def HasK : Kd → Value → Prop
  | .bool, v => ∃ b, v = .bool b
  | .int k, v => ∃ n, v = .int k n ∧ (Lit.int k n).wf = true
  | .str, v => ∃ s : ByteArray, v = .string s ∧ s.size ≤ maxLen
def KindsP : List Kd → List Value → Prop
  | [], [] => True
  | k :: ks, v :: vs => HasK k v ∧ KindsP ks vs
  | _, _ => False
theorem KindsP.append : ∀ {ks ks' : List Kd} {vs vs' : List Value}, KindsP ks vs → KindsP ks' vs' → KindsP (ks ++ ks') (vs ++ vs')
  | [], _, [], _, _, h => h
  | k :: ks, _, v :: vs, _, h, h' => ⟨h.1, h.2.append h'⟩
def kindsFs (rec : TypeId → Option (List Kd)) (P : Program) : List Field → Nat → Option (List Kd)
  | [], _ => some []
  | f :: l, a => match rec f.type with
    | some ks => cond (Nat.beq f.offset a && Nat.beq ks.length (P.cellsOf f.type)) (match kindsFs rec P l (a + ks.length) with
      | some r => some (ks ++ r)
      | none => none) none
    | none => none
def kindsOf (P : Program) : Nat → TypeId → Option (List Kd)
  | 0, _ => none
  | n + 1, t => match P.underlying t with
    | some .bool => some [.bool]
    | some (.int k) => some [.int k]
    | some .string => some [.str]
    | some (.struct fs) => match kindsFs (kindsOf P n) P fs.toList 0 with
      | some ks => cond (Nat.beq ks.length (P.cellsOf t)) (some ks) none
      | none => none
    | _ => none
section
variable {H : Type} {enc : TypeId × Value → H} {P : Program} {w : World} {base : Nat} {spare : Nat → Bool} {held : Bool}
theorem kindsFs_ok {rec : TypeId → Option (List Kd)} {m : Nat} {cs : List Value} (hr : ∀ t ks cs' x, rec t = some ks → DataW.trod enc P w base spare held m t cs' = some x → KindsP ks cs') :
    ∀ (l : List Field) (a : Nat) (ks : List Kd), kindsFs rec P l a = some ks → a + ks.length ≤ cs.length → (∀ f ∈ l, ∃ x, DataW.trod enc P w base spare held m f.type ((cs.drop f.offset).take (P.cellsOf f.type)) = some x) → KindsP ks ((cs.drop a).take ks.length)
  | [], a, ks, h, _, _ => by
    cases h
    rw [List.length_nil, List.take_zero]; trivial
  | f :: l, a, ks, h, hle, hx => by
    unfold kindsFs at h
    split at h
    · rename_i k1 hk1
      cases hc : (Nat.beq f.offset a && Nat.beq k1.length (P.cellsOf f.type)) with
      | false => rw [hc] at h; cases h
      | true =>
        rw [hc, cond_true] at h
        simp only [Bool.and_eq_true] at hc
        have e1 := Nat.eq_of_beq_eq_true hc.1
        have e2 := Nat.eq_of_beq_eq_true hc.2
        split at h
        · rename_i r hr2
          cases h
          obtain ⟨x, hx1⟩ := hx f (List.mem_cons_self ..)
          have h1 := hr _ _ _ _ hk1 hx1
          rw [e1, ← e2] at h1
          rw [List.length_append] at hle
          have h2 := kindsFs_ok hr l (a + k1.length) r hr2 (by omega) (fun g hg => hx g (List.mem_cons_of_mem _ hg))
          have := h1.append h2
          rw [List.length_append, List.take_add]
          rw [List.drop_drop]
          exact this
        · cases h
    · cases h
theorem kindsOf_ok : ∀ (n : Nat) (t : TypeId) (ks : List Kd), kindsOf P n t = some ks → ∀ (m : Nat) (cs : List Value) (x : DataW H × List MemPlace), DataW.trod enc P w base spare held m t cs = some x → KindsP ks cs
  | 0, _, _, h, _, _, _, _ => by cases h
  | n + 1, t, ks, h, m, cs, x, hx => by
    unfold kindsOf at h
    split at h
    · rename_i ht
      cases h
      obtain ⟨b, rfl, _⟩ := DataW.trod_bool ht hx
      exact ⟨⟨b, rfl⟩, trivial⟩
    · rename_i k ht
      cases h
      obtain ⟨z, rfl, _, hz⟩ := DataW.trod_int ht hx
      exact ⟨⟨z, rfl, hz⟩, trivial⟩
    · rename_i ht
      cases h
      obtain ⟨s, rfl, _, hs⟩ := DataW.trod_string ht hx
      exact ⟨⟨s, rfl, hs⟩, trivial⟩
    · rename_i fs ht
      split at h
      · rename_i ks' hk
        cases hc : Nat.beq ks'.length (P.cellsOf t) with
        | false => rw [hc] at h; cases h
        | true =>
          rw [hc] at h
          cases h
          have e := Nat.eq_of_beq_eq_true hc
          obtain ⟨xs, m', rfl, _, hl, hxl, hf⟩ := DataW.trod_struct ht hx
          have := kindsFs_ok (cs := cs) (m := m') (fun t ks cs' x h1 h2 => kindsOf_ok n t ks h1 m' cs' x h2) fs.toList 0 _ hk (by omega) (fun f hmem => by
            obtain ⟨i, hi⟩ := List.getElem?_of_mem hmem
            have hi2 : fs[i]? = some f := by simpa using hi
            have := hf i f hi2
            have hlt : i < xs.length := by rw [hxl]; exact (Array.getElem?_eq_some_iff.1 hi2).1
            exact ⟨xs[i], by rw [this]; simp [hlt]⟩)
          rw [List.drop_zero, e, ← hl, List.take_length] at this
          exact this
      · cases h
    · cases h
end
/-! ### a slice of such elements -/
structure RowAt (W : World) (ks : List Kd) (b o len cap : Nat) (c : Array Value) (t : TypeId) (fz : Nat × Nat) : Prop where
  blk : W.heap[b]? = some (.cells c t fz)
  fits : o + cap * ks.length ≤ c.size
  el : ∀ i, i < len → ∃ cs', cs'.length = ks.length ∧ (∀ j, j < ks.length → c[o + i * ks.length + j]? = cs'[j]?) ∧ KindsP ks cs'
theorem cellAt29 {W : World} {a : Addr} {v : Value} (h : W.cell? a = some v) : a.spot = none ∧ ∃ c t fz, W.heap[a.block]? = some (.cells c t fz) ∧ c[a.off]? = some v := by
  unfold World.cell? at h
  split at h
  · rename_i c t fz hb
    cases hs : a.spot with
    | none => rw [hs] at h; exact ⟨rfl, c, t, fz, hb, by simpa using h⟩
    | some s => rw [hs] at h; simp at h
  · cases h
theorem add_off (a : Addr) (i : Nat) : (a.add i).block = a.block ∧ (a.add i).off = a.off + i ∧ (a.spot = none → (a.add i).spot = none) ∧ ((a.add i).spot = none → i = 0 → a.spot = none) := by
  unfold Addr.add
  by_cases h : i = 0
  · subst h; simp
  · simp [h]
theorem open_flat {H : Type} {enc : TypeId × Value → H} {P : Program} {W : World} {t e : TypeId} (ht : P.underlying t = some (.slice e)) {n : Nat} {ks : List Kd} (hk : kindsOf P n e = some ks) (hc : P.cellsOf e = ks.length) (hpos : 0 < ks.length) {v : Value} {d : DataW H} {p : List MemPlace} {b0 : Nat}
    (hval : Value.okWide P W .any b0 t v) (h : DataW.Trod enc P W 0 (fun _ => true) true t v d p) :
    v = .slice none 0 0 ∨ ∃ b o len cap, v = .slice (some ⟨b, o, none⟩) len cap ∧ len ≤ cap ∧ cap ≤ maxLen ∧ (0 < len → ∃ c t' fz, RowAt W ks b o len cap c t' fz) := by
  obtain ⟨fuel, hf⟩ := h
  have hv : v.cells.toList = [v] ∨ ∃ cs, v = .agg cs := by
    cases v <;> first | exact .inl rfl | exact .inr ⟨_, rfl⟩
  unfold Value.okWide at hval
  rw [ht] at hval
  unfold Cell.okWide at hval
  rw [ht] at hval
  rcases hv with hv | ⟨cs, rfl⟩
  · rw [hv] at hf
    rcases Go.Deep.open_slice ht hf with ⟨h1, _⟩ | ⟨a, len, cap, m, n', D, Pl, h1, hb, hl, hm, hmm, _, hel⟩
    · left; simpa using h1
    · right
      simp only [List.cons.injEq, and_true] at h1
      subst h1
      unfold Cell.ok at hval
      rw [ht] at hval
      have hsp : a.spot = none := hval.2.2.2.1
      obtain ⟨b, o, sp⟩ := a
      cases hsp
      refine ⟨b, o, len, cap, rfl, hl, hm, fun hlen => ?_⟩
      simp only [if_true] at hmm
      subst hmm
      have cellAt : ∀ i, i < m → ∃ cs', cs'.length = ks.length ∧ (∀ j, j < ks.length → W.cell? ⟨b, o + i * ks.length + j, none⟩ = cs'[j]?) ∧ KindsP ks cs' := fun i hi => by
        obtain ⟨cs', g1, g2⟩ := hel i hi
        obtain ⟨_, g3, g4⟩ := World.cells?_some g1
        rw [hc] at g3 g4
        refine ⟨cs', g3, fun j hj => ?_, kindsOf_ok n e ks hk _ _ _ g2⟩
        rw [← g4 j hj]
        congr 1
        unfold Addr.add
        by_cases h1 : i * ks.length = 0 <;> by_cases h2 : j = 0 <;> simp [h1, h2]
      have first : ∃ c t' fz, W.heap[b]? = some (.cells c t' fz) := by
        obtain ⟨cs', g1, g2, _⟩ := cellAt 0 (by omega)
        have : (cs'[0]?).isSome = true := by simp [g1, hpos]
        rw [← g2 0 hpos] at this
        obtain ⟨v, hv⟩ := Option.isSome_iff_exists.1 this
        obtain ⟨_, c, t', fz, h3, _⟩ := cellAt29 hv
        exact ⟨c, t', fz, h3⟩
      obtain ⟨c, t', fz, hblk⟩ := first
      have cellIn : ∀ k v, W.cell? ⟨b, k, none⟩ = some v → c[k]? = some v := fun k v hv => by
        obtain ⟨_, c2, t2, fz2, h3, h4⟩ := cellAt29 hv
        rw [hblk] at h3
        cases h3
        exact h4
      refine ⟨c, t', fz, hblk, ?_, fun i hi => ?_⟩
      · obtain ⟨cs', g1, g2, _⟩ := cellAt (m - 1) (by omega)
        have : (cs'[ks.length - 1]?).isSome = true := by simp [g1]; omega
        rw [← g2 (ks.length - 1) (by omega)] at this
        obtain ⟨v, hv⟩ := Option.isSome_iff_exists.1 this
        have := (Array.getElem?_eq_some_iff.1 (cellIn _ _ hv)).1
        have e1 : m * ks.length = (m - 1) * ks.length + ks.length := by
          rw [← Nat.succ_mul]; congr 1; omega
        omega
      · obtain ⟨cs', g1, g2, g3⟩ := cellAt i (by omega)
        refine ⟨cs', g1, fun j hj => ?_, g3⟩
        have hj2 : j < cs'.length := by omega
        have := g2 j hj
        rw [List.getElem?_eq_getElem hj2] at this ⊢
        exact cellIn _ _ this
  · simp [Cell.ok, ht] at hval
/-- The elements as data of a type of one's own. -/
theorem row_obj {W : World} {ks : List Kd} {b o len cap : Nat} {c : Array Value} {t : TypeId} {fz : Nat × Nat} (h : RowAt W ks b o len cap c t fz) {E : Type} [Inhabited E] {cellsE : E → List AVal} (hE : ∀ x, (cellsE x).length = ks.length)
    (hK : ∀ cs', KindsP ks cs' → ∃ x : E, ∀ (j : Nat) u v, (cellsE x)[j]? = some u → cs'[j]? = some v → ∀ σ, VR σ u v) :
    ∃ l : List E, l.length = len ∧ ∀ σ, ORel σ W ⟨b, o, c.size⟩ (.cells true (l.flatMap cellsE)) := by
  have h1 : ∀ i, i < len → ∃ x : E, ∀ j, j < ks.length → ∃ v, c[o + i * ks.length + j]? = some v ∧ ∀ u, (cellsE x)[j]? = some u → ∀ σ, VR σ u v := fun i hi => by
    obtain ⟨cs', g1, g2, g3⟩ := h.el i hi
    obtain ⟨x, hx⟩ := hK cs' g3
    refine ⟨x, fun j hj => ?_⟩
    have hj2 : j < cs'.length := by omega
    exact ⟨cs'[j], by rw [g2 j hj]; exact List.getElem?_eq_getElem hj2, fun u hu => hx j u _ hu (List.getElem?_eq_getElem hj2)⟩
  obtain ⟨f, hf⟩ := Go.Deep.choose_lt h1
  refine ⟨(List.range len).map f, by simp, fun σ => ⟨c, t, fz, h.blk, rfl, ?_, fun h => by cases h⟩⟩
  have key : ∀ (n : Nat), n ≤ len → ∀ (i : Nat) v, (((List.range n).map f).flatMap cellsE)[i]? = some v → ∃ v', c[o + i]? = some v' ∧ VR σ v v' := by
    intro n
    induction n with
    | zero => intro _ i v hi; simp at hi
    | succ n ih =>
      intro hn i v hi
      have hlen : (((List.range n).map f).flatMap cellsE).length = n * ks.length := by
        have : ∀ (l : List E), (l.flatMap cellsE).length = l.length * ks.length := fun l => by
          induction l with
          | nil => simp
          | cons x l ih => rw [List.flatMap_cons, List.length_append, ih, hE, List.length_cons, Nat.succ_mul]; omega
        rw [this]; simp
      rw [List.range_succ, List.map_append, List.flatMap_append, List.getElem?_append, hlen] at hi
      split at hi
      · exact ih (by omega) i v hi
      · rename_i hge
        simp only [List.map_cons, List.map_nil, List.flatMap_cons, List.flatMap_nil, List.append_nil] at hi
        have hj : i - n * ks.length < ks.length := by
          have := (List.getElem?_eq_some_iff.1 hi).1
          rwa [hE (f n)] at this
        obtain ⟨v', g1, g2⟩ := hf n (by omega) _ hj
        refine ⟨v', ?_, g2 v hi σ⟩
        rw [show o + i = o + n * ks.length + (i - n * ks.length) by omega]
        exact g1
  exact key len (Nat.le_refl _)
theorem KindsP.cons {k : Kd} {ks : List Kd} {cs : List Value} (h : KindsP (k :: ks) cs) : ∃ v vs, cs = v :: vs ∧ HasK k v ∧ KindsP ks vs := by
  cases cs with
  | nil => exact h.elim
  | cons v vs => exact ⟨v, vs, rfl, h.1, h.2⟩
theorem KindsP.none {cs : List Value} (h : KindsP [] cs) : cs = [] := by
  cases cs with
  | nil => rfl
  | cons v vs => exact h.elim
inductive VRs : List AVal → List Value → Prop where
  | nil : VRs [] []
  | cons {u v us vs} (h : ∀ σ, VR σ u v) (t : VRs us vs) : VRs (u :: us) (v :: vs)
theorem VRs.get {us : List AVal} {vs : List Value} (h : VRs us vs) : ∀ (j : Nat) u v, us[j]? = some u → vs[j]? = some v → ∀ σ, VR σ u v := by
  induction h with
  | nil => intro j u v hj; simp at hj
  | cons h t ih =>
    intro j u v h1 h2 σ
    cases j with
    | zero => simp at h1 h2; subst h1 h2; exact h σ
    | succ j => exact ih j u v (by simpa using h1) (by simpa using h2) σ
/-! ### the call -/
def Still (W w' : World) : Prop := ∀ b, b < W.heap.size → w'.heap[b]? = W.heap[b]?
theorem hrel_ro {σ : Sig} {H : Heap} {w : World} (h : ∀ n o, H n = some o → o.ro = true ∧ ∃ p, σ n = some p ∧ ORel σ w p o) : HRel σ H w :=
  ⟨fun n o hn => (h n o hn).2, fun n m o o' p q hn hm _ _ _ => .inr ⟨(h n o hn).1, (h m o' hm).1⟩⟩
theorem law_calls_H {P : Program} {cs : CS} (hcs : CSOk P cs) (hm : P.follows .mixedOrders = true) {nn F : Nat} {f : FuncId} {args : List AVal} {H : HL} {fr : Nat} (h : (run1 P cs nn F f args H fr).map (·.1) = some (.bool true))
    {σ : Sig} {args' : Array Value} {w : World} (hro : ∀ n o, aget H n = some o → o.ro = true ∧ ∃ p, σ n = some p ∧ ORel σ w p o) (hg : GRel P σ) (hfr : Fresh σ fr) (hl : LR σ args args') :
    Calls P f args' w fun r w' => r = .returned (.bool true) ∧ Grew w w' ∧ Still w w' := by
  obtain ⟨r, hr, hrv⟩ := optMap h
  obtain ⟨v, H', fr'⟩ := r
  obtain ⟨fn, c, hf, hb, hrun⟩ := run1_some hr
  refine (runF_ok hcs hm hf hb hrun hl (hrel_ro hro) hg hfr).mono fun r w' ⟨σ', v', h1, h2, _, h4, _⟩ => ?_
  have hv : v = .bool true := hrv
  subst hv
  cases h2
  have hs : Still w w' := fun b hb => (h4.old b hb (by
    rintro ⟨n, o, p, g1, g2, _⟩
    rw [(hro n o g1).1] at g2
    cases g2)).1
  exact ⟨h1, grew_of h4.os h4.output h4.size hs, hs⟩
theorem args_stay {H : Type} {enc : TypeId × Value → H} {P : Program} (hl : laidOutB P = true) {W W' : World} (hs : Still W W') :
    ∀ {ts : List TypeId} {vs : List Value} {ds : List (DataW H)} {ps : List MemPlace}, (ts.all fun t => P.readableRec t && decide (t < P.types.size)) = true → DataW.TrodAll enc P W 0 (fun _ => true) true ts vs ds ps → (∀ p ∈ ps, p.block < W.heap.size) →
    ∀ sp : Nat → Bool, (∀ p ∈ ps, sp p.block = true) → DataW.TrodAll enc P W' 0 sp true ts vs ds ps
  | [], [], [], _, _, h, _, _, _ => h
  | t :: ts, v :: vs, d :: ds, ps, ht, ⟨p, q, h1, h2, e⟩, hlt, sp, hsp => by
    simp only [List.all_cons, Bool.and_eq_true, decide_eq_true_eq] at ht
    subst e
    have same : ∀ x : MemPlace, x.block < W.heap.size → W.sameAt W' x := fun x hx => by
      cases x with
      | cell b off =>
        show W'.cell? _ = W.cell? _
        unfold World.cell?
        rw [show W'.heap[(⟨b, off, none⟩ : Addr).block]? = W.heap[b]? from hs b hx]
      | map b => exact hs b hx
    exact ⟨p, q, Go.WideElems.Trod_stays hl ht.1.1 ht.1.2 h1 (fun x hx => same x (hlt x (List.mem_append_left _ hx))) (fun x hx => hsp x (List.mem_append_left _ hx)),
      args_stay hl hs (by simpa using ht.2) h2 (fun x hx => hlt x (List.mem_append_right _ hx)) sp (fun x hx => hsp x (List.mem_append_right _ hx)), rfl⟩
theorem sig0_fresh (P : Program) : Fresh (sig0 P) P.globals.size := fun n hn => by
  unfold sig0
  rw [if_neg (by omega)]
theorem fresh_set {σ : Sig} {n : Nat} (h : Fresh σ n) (p : Place) : Fresh (σ.set n p) (n + 1) := fun m hm => by
  rw [Sig.set_other σ p (by omega)]
  exact h m (by omega)
theorem grel_set {P : Program} {σ : Sig} (h : GRel P σ) {n : Nat} (hn : P.globals.size ≤ n) (p : Place) : GRel P (σ.set n p) := fun g hg => by
  rw [Sig.set_other σ p (by omega)]
  exact h g hg
/-- A law with one row among its arguments. -/
theorem rows_calls {P : Program} {cs : CS} (hcs : CSOk P cs) (hm : P.follows .mixedOrders = true) {nn F : Nat} {f : FuncId} {ks : List Kd} {E : Type} [Inhabited E] {cellsE : E → List AVal} (hE : ∀ x, (cellsE x).length = ks.length)
    (hK : ∀ cs', KindsP ks cs' → ∃ x : E, ∀ (j : Nat) u v, (cellsE x)[j]? = some u → cs'[j]? = some v → ∀ σ, VR σ u v)
    {args : AVal → List AVal} {args' : Value → Array Value} (harg : ∀ σ u u', VR σ u u' → LR σ (args u) (args' u')) {G : Nat} (hG : P.globals.size = G)
    (hn : (run1 P cs nn F f (args .nilSlice) [] G).map (·.1) = some (.bool true))
    (he : (run1 P cs nn F f (args (.slice G 0 0 ks.length)) [] (G + 1)).map (·.1) = some (.bool true))
    (hl : ∀ l : List E, (run1 P cs nn F f (args (.slice G 0 l.length ks.length)) [(G, .cells true (l.flatMap cellsE))] (G + 1)).map (·.1) = some (.bool true))
    {W : World} {v : Value} (ho : v = .slice none 0 0 ∨ ∃ b o len cap, v = .slice (some ⟨b, o, none⟩) len cap ∧ len ≤ cap ∧ cap ≤ maxLen ∧ (0 < len → ∃ c t' fz, RowAt W ks b o len cap c t' fz)) :
    Calls P f (args' v) W fun r w' => r = .returned (.bool true) ∧ Grew W w' ∧ Still W w' := by
  subst hG
  rcases ho with rfl | ⟨b, o, len, cap, rfl, h1, h2, h3⟩
  · exact law_calls_H hcs hm hn (fun n o h => by simp [aget] at h) (sig0_g P) (sig0_fresh P) (harg _ _ _ .nilSlice)
  · by_cases h0 : len = 0
    · subst h0
      exact law_calls_H hcs hm he (σ := (sig0 P).set P.globals.size ⟨b, o, o + cap * ks.length⟩) (fun n o h => by simp [aget] at h) (grel_set (sig0_g P) (Nat.le_refl _) _) (fresh_set (sig0_fresh P) _)
        (harg _ _ _ (.slice (Sig.set_same _ _ _) (.inl rfl) h1 (Nat.le_refl _)))
    · obtain ⟨c, t', fz, hr⟩ := h3 (by omega)
      obtain ⟨l, hll, hobj⟩ := row_obj hr hE hK
      subst hll
      refine law_calls_H hcs hm (hl l) (σ := (sig0 P).set P.globals.size ⟨b, o, c.size⟩) (fun n ob h => ?_) (grel_set (sig0_g P) (Nat.le_refl _) _) (fresh_set (sig0_fresh P) _)
        (harg _ _ _ (.slice (Sig.set_same _ _ _) (.inr (by simp)) h1 hr.fits))
      rcases beq_cases P.globals.size n with ⟨e, hb⟩ | ⟨e, hb⟩
      · simp only [aget, hb, cond_true, Option.some.injEq] at h
        subst h
        exact ⟨rfl, _, by rw [← e]; exact Sig.set_same _ _ _, hobj _⟩
      · simp only [aget, hb, cond_false] at h
        cases h
end Go.Eng

/- Engine, part 42: tables of words that the program's text lays. -/
namespace Go.Eng
set_option linter.unusedVariables false
set_option linter.unusedSimpArgs false
open Go
/-- A table of words, as an abstract block. -/
theorem table_u64 {H : Type} {enc : TypeId × Value → H} {P : Program} {W : World} {n : String} {g : Nat} {t e : TypeId} {cs : Array Value} {k : Nat} {l : List UInt64} {base : Nat} {spare : Nat → Bool} {held : Bool} {fuel : Nat} {x : DataW H × List MemPlace}
    (hg : P.globalNamed n = some g) (hv : W.var? P n = some cs) (ht : P.underlying t = some (.array k e)) (he : P.underlying e = some (.int .u64)) (hc : P.cellsOf e = 1)
    (hd : DataW.trod enc P W base spare held fuel t cs.toList = some x) (hx : x.1 = .agg (l.map fun y => .lit (.int .u64 (y.toNat : Int)))) (σ : Sig) : ORel σ W ⟨g, 0, cs.size⟩ (.cells true (l.map .u64)) := by
  have hb : ∃ t' fz, W.heap[g]? = some (.cells cs t' fz) := by
    simp only [World.var?, hg, Option.bind_some] at hv
    split at hv
    · rename_i hh
      simp only [Option.some.injEq] at hv
      subst hv
      exact ⟨_, _, hh⟩
    · cases hv
  obtain ⟨t', fz, hb⟩ := hb
  refine ⟨cs, t', fz, hb, rfl, fun i v hi => ?_, fun h => by cases h⟩
  obtain ⟨xs, m, rfl, hx1, hlen, hn, hel⟩ := DataW.trod_array ht hd
  rw [hx1] at hx
  simp only [DataW.agg.injEq] at hx
  rw [List.getElem?_map] at hi
  cases hl : l[i]? with
  | none => rw [hl] at hi; cases hi
  | some y =>
    rw [hl] at hi
    simp only [Option.map_some, Option.some.injEq] at hi
    subst hi
    have hxi : (xs.map (·.1))[i]? = some (.lit (.int .u64 (y.toNat : Int))) := by rw [hx, List.getElem?_map, hl]; rfl
    rw [List.getElem?_map] at hxi
    cases hxs : xs[i]? with
    | none => rw [hxs] at hxi; cases hxi
    | some z =>
      rw [hxs] at hxi
      simp only [Option.map_some, Option.some.injEq] at hxi
      have hin : i < k := by
        have := (List.getElem?_eq_some_iff.1 hxs).1
        omega
      have h1 := hel i hin
      rw [hxs, hc, Nat.mul_one] at h1
      obtain ⟨r, e1, e2, _⟩ := DataW.trod_int he h1
      rw [e2] at hxi
      simp only [DataW.lit.injEq, Lit.int.injEq, true_and] at hxi
      have h2 : cs.toList[i]? = some (.int .u64 r) := by
        have : (List.take 1 (cs.toList.drop i))[0]? = some (.int .u64 r) := by rw [e1]; rfl
        rw [List.getElem?_take_of_lt (by omega), List.getElem?_drop, Nat.add_zero] at this
        exact this
      refine ⟨.int .u64 r, by rw [Nat.zero_add]; simpa using h2, ?_⟩
      rw [hxi]
      exact .u64 y
end Go.Eng

/- What the table that the program's text lays gives the walks. -/
namespace Go.Proofs.YtaepfopmicnnbaaDoor
set_option linter.unusedVariables false
set_option linter.unusedSimpArgs false
open Go Go.Eng Go.ChangeShapes Go.WideShapes Go.ChangeAt Go.RowKit
set_option maxRecDepth 1000000
def laid1 : List (String × DataW Unit) := [("isthmus/sha.rounds", Rows.laid_isthmus_sha_rounds)]
theorem gTab : Tryd.prog.globalNamed "isthmus/sha.rounds" = some 0 := by kernel_rfl
theorem tTab : (Tryd.prog.globals[0]?).map (·.type) = some 26 := by kernel_rfl
theorem uTab : Tryd.prog.underlying 26 = some (.array 80 25) := by kernel_rfl
theorem uEl : Tryd.prog.underlying 25 = some (.int .u64) := by kernel_rfl
theorem door_met (os : Os) (args : Array Value) : laidMetH Tryd.prog laid1 ((World.doorLaid Tryd.prog 400 os).forCall (fun _ _ => 0) ⟨#[], args, []⟩).memory :=
  laidMetH_of_parts3 (fuel := 8) (laidMet_of_run' 8 (by kernel_rfl) (by kernel_rfl)) (by kernel_rfl) (by kernel_rfl)
theorem tabD {H : Type} : (Rows.laid_isthmus_sha_rounds : DataW H) = .agg (roundsL.map fun y => .lit (.int .u64 (y.toNat : Int))) := by kernel_rfl
theorem tabA : cellsU 80 kF = roundsL.map .u64 := by kernel_rfl
theorem of_laid {W : World} (h : laidMetH Tryd.prog laid1 W) : ∃ n, ∀ σ, ORel σ W ⟨0, 0, n⟩ (.cells true (cellsU 80 kF)) := by
  rw [MakeChecks.laidMetH_plain _ _ _ (by kernel_rfl)] at h
  obtain ⟨ps, ⟨g0, t0, cs0, f0, p0, q0, hg0, ht0, hv0, hd0, _⟩, _, _⟩ := h
  obtain rfl := Option.some.inj (gTab.symm.trans hg0)
  obtain rfl := Option.some.inj (tTab.symm.trans ht0)
  refine ⟨cs0.size, fun σ => ?_⟩
  rw [tabA]
  exact table_u64 hg0 hv0 uTab uEl (by kernel_rfl) hd0 tabD σ
/-- The names of the tables. -/
def sigT (n : Nat) : Sig := fun g => if g = 0 then some ⟨0, 0, n⟩ else none
theorem sigT_g (n : Nat) : GRel Tryd.prog (sigT n) := fun g hg => by
  have e1 : Tryd.prog.globals.size = 1 := gl
  have : g = 0 := by omega
  subst this
  exact ⟨n, rfl⟩
theorem sigT_fresh (n : Nat) : Fresh (sigT n) 1 := fun k hk => by
  unfold sigT
  rw [if_neg (by omega)]
/-- A law of plain arguments, where the table is as it is laid. -/
theorem law_calls_T {cs : CS} (hcs : CSOk Tryd.prog cs) {f : FuncId} {args : List AVal} (h : ∃ nn F, (run1 Tryd.prog cs nn F f args G0 1).map (·.1) = some (.bool true)) {args' : Array Value} {W : World} (hL : laidMetH Tryd.prog laid1 W) (hl : ∀ σ, LR σ args args') :
    Calls Tryd.prog f args' W fun r w' => r = .returned (.bool true) ∧ Grew W w' := by
  obtain ⟨nn, F, h⟩ := h
  obtain ⟨n, ho⟩ := of_laid hL
  refine (law_calls_H hcs hmix h (σ := sigT n) (fun k o hk => ?_) (sigT_g n) (sigT_fresh n) (hl _)).mono fun r w' h => ⟨h.1, h.2.1⟩
  unfold G0 at hk
  rcases beq_cases 0 k with ⟨e, hb⟩ | ⟨e, hb⟩
  · simp only [aget, hb, cond_true, Option.some.injEq] at hk
    subst hk
    subst e
    exact ⟨rfl, _, rfl, ho _⟩
  · simp only [aget, hb, cond_false] at hk
    cases hk
end Go.Proofs.YtaepfopmicnnbaaDoor

/- The run of the statement on pieces. -/
namespace Go.Proofs.YtaepfopmicnnbaaDoor
set_option linter.unusedVariables false
set_option linter.unusedSimpArgs false
open Go Go.Eng
set_option maxRecDepth 1000000
set_option linter.unusedSimpArgs false
set_option linter.unusedVariables false
noncomputable def p5 : List Code := pieces (bodyOf Tryd.f5)
noncomputable def b5 : Code := loopOf (p5.getD 4 .skip)
def H5 (g : Nat → UInt64) (C : List AVal) : HL := [(0, .cells true (cellsU 80 g)), (1, .cells true C)]
def S5 (g : Nat → UInt64) (C : List AVal) (n : Nat) (s : St) (a : List UInt8) (i : Nat) : SA := ⟨[(0, .slice 1 0 n 1), (2, .bool false), (3, .ptr 10 0), (4, .str a), (5, .int .i64 (i : Int))], H5 g C ++ [(10, .cells false (stC s))], 42⟩
theorem p5_4 : p5[4]? = some (.block 0 (.loop b5)) := by kernel_rfl
section
variable (ω : Fw) (g : Nat → UInt64) (s s0 : St) (C : List AVal) (l a a0 : List UInt8) (i j n F : Nat)
theorem s5a : segO (evSO Tryd.prog (psW ω) (nL ω) [] Tryd.f5.ntmps (mask 5) F 2 ((pieces (bodyOf Tryd.f5)).take 4) ⟨startT [.slice 1 0 n 1] 0, H5 g C, 2⟩ ⟨[], [], []⟩) = some (S5 g C n ω.new [] 0, []) := by kernel_rfl
theorem r5a : roundO2 Tryd.prog (psW ω) (nL ω) [10,13,19,20,22,26,32,33,34,39,40,41,44,49,50,200016] [true, true, false, false, false] [.str l, .str l, .str l, .int .i64 ((j : Nat) : Int)] Tryd.f5.ntmps (mask 5) F 2 b5 (S5 g C n s0 a0 0) (S5 g C n s a i) = some (S5 g C n (ω.add (gU (cellsU 80 g)) (hst (stC s)) l) (a ++ l) j, [eqS (.int .i64 (IntKind.wrap .i64 ((i : Int) + 1))) (.int .i64 (j : Int)), !(Int.tmod (i : Int) 5 == 0), Nat.ble (a.length + l.length) 9223372036854775807, isAt C (0 + (i : Int).toNat * 1) (.str l), decide (0 ≤ (i : Int)) && decide ((i : Int) < (n : Int)), Nat.ble l.length 100000000, isAt C (0 + (i : Int).toNat * 1) (.str l), decide (0 ≤ (i : Int)) && decide ((i : Int) < (n : Int)), !(decide ((2048 : Int) < (a.length : Int))), !(decide ((500 : Int) < (l.length : Int))), isAt C (0 + (i : Int).toNat * 1) (.str l), decide (0 ≤ (i : Int)) && decide ((i : Int) < (n : Int)), decide ((i : Int) < 40), decide ((i : Int) < (n : Int))]) := by kernel_rfl
theorem r5b : roundO2 Tryd.prog (psW ω) (nL ω) [10,13,19,20,22,26,32,33,34,39,40,41,44,49,50,200016] [true, true, false, false, true, false] [.str l, .str l, .str l, .int .i64 ((j : Nat) : Int)] Tryd.f5.ntmps (mask 5) F 2 b5 (S5 g C n s0 a0 0) (S5 g C n s a i) = some (S5 g C n (hst (stC (ω.add (gU (cellsU 80 g)) (hst (stC s)) l))) (a ++ l) j, [eqS (.int .i64 (IntKind.wrap .i64 ((i : Int) + 1))) (.int .i64 (j : Int)), !!(ω.sum (gU (cellsU 80 g)) (hst (stC (ω.add (gU (cellsU 80 g)) (hst (stC s)) l))) == ω.of (gU (cellsU 80 g)) (a ++ l)), Nat.ble (a ++ l).length 100000000, Int.tmod (i : Int) 5 == 0, Nat.ble (a.length + l.length) 9223372036854775807, isAt C (0 + (i : Int).toNat * 1) (.str l), decide (0 ≤ (i : Int)) && decide ((i : Int) < (n : Int)), Nat.ble l.length 100000000, isAt C (0 + (i : Int).toNat * 1) (.str l), decide (0 ≤ (i : Int)) && decide ((i : Int) < (n : Int)), !(decide ((2048 : Int) < (a.length : Int))), !(decide ((500 : Int) < (l.length : Int))), isAt C (0 + (i : Int).toNat * 1) (.str l), decide (0 ≤ (i : Int)) && decide ((i : Int) < (n : Int)), decide ((i : Int) < 40), decide ((i : Int) < (n : Int))]) := by kernel_rfl
theorem x5a : retO Tryd.prog (psW ω) (nL ω) [10,13,19,20,22,26,300028] Tryd.f5 (mask 5) F 2 b5 (S5 g C n s a i) ⟨[true, true, true], [.str l, .bool true, .tup []], []⟩ = some (.bool true, [alD ω 194 (H5 g C ++ [(10, .cells false (stC s))]), decide ((500 : Int) < (l.length : Int)), isAt C (0 + (i : Int).toNat * 1) (.str l), decide (0 ≤ (i : Int)) && decide ((i : Int) < (n : Int)), decide ((i : Int) < 40), decide ((i : Int) < (n : Int))]) := by kernel_rfl
theorem x5b : retO Tryd.prog (psW ω) (nL ω) [10,13,19,20,22,26,300028] Tryd.f5 (mask 5) F 2 b5 (S5 g C n s a i) ⟨[true, true, false, true], [.str l, .bool true, .tup []], []⟩ = some (.bool true, [alD ω 194 (H5 g C ++ [(10, .cells false (stC s))]), decide ((2048 : Int) < (a.length : Int)), !(decide ((500 : Int) < (l.length : Int))), isAt C (0 + (i : Int).toNat * 1) (.str l), decide (0 ≤ (i : Int)) && decide ((i : Int) < (n : Int)), decide ((i : Int) < 40), decide ((i : Int) < (n : Int))]) := by kernel_rfl
theorem e5a : endO Tryd.prog (psW ω) (nL ω) [10,13,53,55,56,59,61,62,300065] Tryd.f5 (mask 5) F 2 0 b5 ((pieces (bodyOf Tryd.f5)).drop 5) (S5 g C n s a i) ⟨[false, true, true], [.bool true, .tup []], []⟩ = some (.bool true, [alD ω 210 (H5 g C ++ [(10, .cells false (stC (hst (stC (hst (stC s))))))]), ω.sum (gU (cellsU 80 g)) (hst (stC (hst (stC s)))) == ω.of (gU (cellsU 80 g)) a, Nat.ble a.length 100000000, ω.sum (gU (cellsU 80 g)) (hst (stC s)) == ω.doc a, Nat.ble a.length 100000000, !(decide ((i : Int) < (n : Int)))]) := by kernel_rfl
theorem e5b : endO Tryd.prog (psW ω) (nL ω) [10,13,53,55,56,59,61,62,300065] Tryd.f5 (mask 5) F 2 0 b5 ((pieces (bodyOf Tryd.f5)).drop 5) (S5 g C n s a i) ⟨[true, false, true, true], [.bool true, .tup []], []⟩ = some (.bool true, [alD ω 210 (H5 g C ++ [(10, .cells false (stC (hst (stC (hst (stC s))))))]), ω.sum (gU (cellsU 80 g)) (hst (stC (hst (stC s)))) == ω.of (gU (cellsU 80 g)) a, Nat.ble a.length 100000000, ω.sum (gU (cellsU 80 g)) (hst (stC s)) == ω.doc a, Nat.ble a.length 100000000, !(decide ((i : Int) < 40)), decide ((i : Int) < (n : Int))]) := by kernel_rfl
theorem n5a : ansO (run1O Tryd.prog (psW ω) (nL ω) [53,55,56,59,61,62,300065] [true, true] [.bool true, .tup []] (mask 5) 20 5 [.nilSlice] [(0, .cells true (cellsU 80 g))] 1) = some (.bool true, [alD ω 209 [(0, .cells true (cellsU 80 g)), (9, .cells false (stC (hst (stC (hst (stC ω.new))))))], ω.sum (gU (cellsU 80 g)) (hst (stC (hst (stC ω.new)))) == ω.of (gU (cellsU 80 g)) [], Nat.ble 0 100000000, ω.sum (gU (cellsU 80 g)) (hst (stC ω.new)) == ω.doc [], Nat.ble 0 100000000]) := by kernel_rfl
theorem n5b : ansO (run1O Tryd.prog (psW ω) (nL ω) [53,55,56,59,61,62,300065] [true, true] [.bool true, .tup []] (mask 5) 20 5 [.slice 1 0 0 1] [(0, .cells true (cellsU 80 g))] 2) = some (.bool true, [alD ω 210 [(0, .cells true (cellsU 80 g)), (10, .cells false (stC (hst (stC (hst (stC ω.new))))))], ω.sum (gU (cellsU 80 g)) (hst (stC (hst (stC ω.new)))) == ω.of (gU (cellsU 80 g)) [], Nat.ble 0 100000000, ω.sum (gU (cellsU 80 g)) (hst (stC ω.new)) == ω.doc [], Nat.ble 0 100000000]) := by kernel_rfl
theorem ok5 (hC : ltL 42 C = true) : okS Tryd.prog (S5 g C n s a i) = true := by
  have h : okS Tryd.prog (S5 g [] n s a i) = true := by kernel_rfl
  unfold okS S5 H5 at h ⊢
  simp only [List.cons_append, List.nil_append, ltH, hC, ltL] at h ⊢
  exact h
end
end Go.Proofs.YtaepfopmicnnbaaDoor

/- The statement on pieces holds. -/
namespace Go.Proofs.YtaepfopmicnnbaaDoor
set_option linter.unusedVariables false
set_option linter.unusedSimpArgs false
open Go Go.Eng
set_option maxRecDepth 1000000
set_option linter.unusedSimpArgs false
set_option linter.unusedVariables false
theorem first_bad {p : Nat → Prop} (dec : ∀ i, p i ∨ ¬ p i) : ∀ N, ¬ p N → ∃ m, m ≤ N ∧ (∀ i, i < m → p i) ∧ ¬ p m
  | 0, h => ⟨0, Nat.le_refl _, fun i hi => by omega, h⟩
  | N + 1, h => by
    by_cases hb : ∀ i, i < N + 1 → p i
    · exact ⟨N + 1, Nat.le_refl _, hb, h⟩
    · have : ∃ k, k < N + 1 ∧ ¬ p k := by
        apply Classical.byContradiction
        intro hn
        apply hb
        intro i hi
        rcases dec i with h1 | h1
        · exact h1
        · exact absurd ⟨i, hi, h1⟩ hn
      obtain ⟨k, hk, hnk⟩ := this
      -- the least one below k or k itself
      have : ∀ M, M ≤ N → ¬ p M → ∃ m, m ≤ M ∧ (∀ i, i < m → p i) ∧ ¬ p m := fun M hM hnp => by
        induction M using Nat.strongRecOn with
        | _ M ih =>
          by_cases hb2 : ∃ j, j < M ∧ ¬ p j
          · obtain ⟨j, hj, hnj⟩ := hb2
            obtain ⟨m, h1, h2, h3⟩ := ih j hj (by omega) hnj
            exact ⟨m, by omega, h2, h3⟩
          · refine ⟨M, Nat.le_refl _, fun i hi => ?_, hnp⟩
            rcases dec i with h1 | h1
            · exact h1
            · exact absurd ⟨i, hi, h1⟩ hb2
      obtain ⟨m, h1, h2, h3⟩ := this k (by omega) hnk
      exact ⟨m, by omega, h2, h3⟩
def cs5 (x : List UInt8) : List AVal := [.str x]
def allP (ls : List (List UInt8)) (i : Nat) : List UInt8 := (ls.take i).flatten
theorem allP_succ (ls : List (List UInt8)) (i : Nat) (h : i < ls.length) : allP ls (i + 1) = allP ls i ++ ls.getD i [] := by
  unfold allP
  rw [List.take_add_one, List.flatten_append]
  have : ls[i]? = some (ls.getD i []) := by
    rw [List.getD_eq_getElem?_getD, List.getElem?_eq_getElem h]; rfl
  rw [this]
  simp
theorem at5 (ls : List (List UInt8)) (i : Nat) (h : i < ls.length) : isAt (ls.flatMap cs5) (0 + (i : Int).toNat * 1) (.str (ls.getD i [])) = true := by
  have e : ∀ ls : List (List UInt8), ls.flatMap cs5 = ls.map .str := fun ls => by
    unfold cs5
    induction ls with
    | nil => rfl
    | cons x l ih => rw [List.flatMap_cons, ih]; rfl
  have e2 : 0 + (i : Int).toNat * 1 = i := by simp
  unfold isAt
  rw [e, e2, List.getElem?_map, List.getElem?_eq_getElem h]
  have : ls.getD i [] = ls[i] := by rw [List.getD_eq_getElem?_getD, List.getElem?_eq_getElem h]; rfl
  rw [this]
  simp [eqS]
theorem ltL_flat (k : Nat) (ls : List (List UInt8)) : ltL k (ls.flatMap cs5) = true := by
  induction ls with
  | nil => rfl
  | cons x l ih =>
    simp only [List.flatMap_cons, cs5, List.cons_append, List.nil_append, ltL, ltS, cond_true]
    exact ih
def stP (a : List UInt8) : St := pushL φr kF bS a
theorem nS_stP (a : List UInt8) : nS (stP a) = stP a := nS_push _ _ _ _ nS_bS
theorem add_stP (a l : List UInt8) : ωr.add (gU (cellsU 80 kF)) (hst (stC (stP a))) l = stP (a ++ l) := by
  rw [gUg nkF, hstS (nS_stP a)]
  show addsS φr kF (stP a) l = _
  rw [adds_push]
  unfold stP
  rw [pushL_append]
theorem sum_stP (a : List UInt8) : ωr.sum (gU (cellsU 80 kF)) (hst (stC (stP a))) = ωr.of (gU (cellsU 80 kF)) a := by
  rw [gUg nkF, hstS (nS_stP a)]
  show sumS φr kF (stP a) = ofS φr kF a
  unfold ofS stP
  rw [adds_push]
theorem sum_doc (a : List UInt8) (h : a.length < 1000000000) : ωr.sum (gU (cellsU 80 kF)) (hst (stC (stP a))) = ωr.doc a := by
  rw [sum_stP, gUg nkF]
  exact of_doc a h
theorem f5_at : Tryd.prog.funcs[5]? = some Tryd.f5 := by kernel_rfl
theorem f5_body : Tryd.f5.body = some (bodyOf Tryd.f5) := by kernel_rfl
theorem law5 (ls : List (List UInt8)) : (run1 Tryd.prog (nL ωr) (mask 5) 100 5 [.slice 1 0 ls.length 1] [(0, .cells true (cellsU 80 kF)), (1, .cells true (ls.flatMap cs5))] 2).map (·.1) = some (.bool true) := by
  obtain ⟨C, hC⟩ : ∃ C, C = ls.flatMap cs5 := ⟨_, rfl⟩
  obtain ⟨m, hm40, hgood, hbad⟩ := first_bad (p := fun i => i < ls.length ∧ i < 40 ∧ (ls.getD i []).length ≤ 500 ∧ (allP ls i).length ≤ 2048) (fun i => Classical.em _) 40 (fun h => absurd h.2.1 (by omega))
  have hlen : ∀ i, i ≤ m → (allP ls i).length ≤ 2548 := fun i hi => by
    cases i with
    | zero => simp [allP]
    | succ k =>
      obtain ⟨g1, g2, g3, g4⟩ := hgood k (by omega)
      rw [allP_succ ls k g1, List.length_append]
      omega
  have hat : ∀ i, i < ls.length → isAt C (0 + (i : Int).toNat * 1) (.str (ls.getD i [])) = true := fun i hi => by rw [hC]; exact at5 ls i hi
  have hltC : ltL 42 C = true := by rw [hC]; exact ltL_flat ..
  rw [← hC]
  have hst2 : ∀ a, stC (hst (stC (hst (stC (stP a))))) = stC (stP a) := fun a => by rw [hstS (nS_stP a), hstS (nS_stP a)]
  have hstep : ∀ j, j < m → roundA (evC Tryd.prog (nL ωr) Tryd.f5.ntmps (mask 5) 100 2 b5) (headA Tryd.prog 2 (S5 kF C ls.length (stP (allP ls 0)) (allP ls 0) 0)) (S5 kF C ls.length (stP (allP ls j)) (allP ls j) j) = some (S5 kF C ls.length (stP (allP ls (j + 1))) (allP ls (j + 1)) (j + 1)) := fun j hj => by
    obtain ⟨g1, g2, g3, g4⟩ := hgood j hj
    have o1 : decide ((2048 : Int) < ((allP ls j).length : Int)) = false := decide_eq_false (by omega)
    have o2 : decide ((500 : Int) < ((ls.getD j []).length : Int)) = false := decide_eq_false (by omega)
    have o3 : decide ((j : Int) < 40) = true := decide_eq_true (by omega)
    have o4 : decide ((j : Int) < (ls.length : Int)) = true := decide_eq_true (by omega)
    have o5 : Nat.ble ((allP ls j).length + (ls.getD j []).length) 9223372036854775807 = true := Nat.ble_eq_true_of_le (by omega)
    have o6 : Nat.ble (ls.getD j []).length 100000000 = true := Nat.ble_eq_true_of_le (by omega)
    have o7 : Nat.ble (allP ls j ++ ls.getD j []).length 100000000 = true := Nat.ble_eq_true_of_le (by rw [List.length_append]; omega)
    cases h5 : (Int.tmod (j : Int) 5 == 0) with
    | false =>
      have r := r5a ωr kF (stP (allP ls j)) (stP (allP ls 0)) C (ls.getD j []) (allP ls j) (allP ls 0) j (j + 1) ls.length 100
      rw [add_stP, ← allP_succ ls j g1] at r
      refine roundO2_ok (nL_ps ωr) r ?_ (ok5 _ _ _ _ _ _ hltC)
      simp only [allT, plus1 (show j < 1000 by omega), h5, o1, o2, o3, o4, o5, o6, hat j g1, nat0, Bool.true_and, Bool.not_false, cond_true]
    | true =>
      have r := r5b ωr kF (stP (allP ls j)) (stP (allP ls 0)) C (ls.getD j []) (allP ls j) (allP ls 0) j (j + 1) ls.length 100
      rw [add_stP, sum_stP, beq_self_eq_true, hstS (nS_stP _)] at r
      rw [allP_succ ls j g1]
      refine roundO2_ok (nL_ps ωr) r ?_ (ok5 _ _ _ _ _ _ hltC)
      simp only [allT, plus1 (show j < 1000 by omega), h5, o1, o2, o3, o4, o5, o6, o7, hat j g1, nat0, Bool.true_and, Bool.not_false, Bool.not_true, cond_true]
  have hpre := s5a ωr kF C ls.length 100
  have hne : ωr.new = stP (allP ls 0) := by
    show bS = _
    simp [allP, stP, pushL]
  have ha0 : ([] : List UInt8) = allP ls 0 := by simp [allP]
  rw [hne, ha0] at hpre
  have hall : Nat.ble (allP ls m).length 100000000 = true := Nat.ble_eq_true_of_le (by have := hlen m (Nat.le_refl _); omega)
  have hd := sum_doc (allP ls m) (by have := hlen m (Nat.le_refl _); omega)
  by_cases c1 : m < ls.length
  · have o4 : decide ((m : Int) < (ls.length : Int)) = true := decide_eq_true (by omega)
    by_cases c2 : m < 40
    · have o3 : decide ((m : Int) < 40) = true := decide_eq_true (by omega)
      by_cases c3 : (ls.getD m []).length ≤ 500
      · have c4 : 2048 < (allP ls m).length := by
          apply Classical.byContradiction
          intro h
          exact hbad ⟨c1, c2, c3, by omega⟩
        refine run_loopR (nL_ps ωr) f5_at f5_body (by kernel_rfl) 4 p5_4 (fun i => S5 kF C ls.length (stP (allP ls i)) (allP ls i) i) m hpre rfl hstep (x5b ωr kF (stP (allP ls m)) C (ls.getD m []) (allP ls m) m ls.length 100) ?_ (by omega)
        have o1 : decide ((2048 : Int) < ((allP ls m).length : Int)) = true := decide_eq_true (by omega)
        have o2 : decide ((500 : Int) < ((ls.getD m []).length : Int)) = false := decide_eq_false (by omega)
        have h1 := al_r (base := 194) (H := H5 kF C ++ [(10, .cells false (stC (stP (allP ls m))))]) rfl
        simp only [allT, h1, o1, o2, o3, o4, hat m c1, nat0, Bool.true_and, Bool.not_false, cond_true]
      · refine run_loopR (nL_ps ωr) f5_at f5_body (by kernel_rfl) 4 p5_4 (fun i => S5 kF C ls.length (stP (allP ls i)) (allP ls i) i) m hpre rfl hstep (x5a ωr kF (stP (allP ls m)) C (ls.getD m []) (allP ls m) m ls.length 100) ?_ (by omega)
        have o2 : decide ((500 : Int) < ((ls.getD m []).length : Int)) = true := decide_eq_true (by omega)
        have h1 := al_r (base := 194) (H := H5 kF C ++ [(10, .cells false (stC (stP (allP ls m))))]) rfl
        simp only [allT, h1, o2, o3, o4, hat m c1, nat0, Bool.true_and, cond_true]
    · refine run_loopO (nL_ps ωr) f5_at f5_body (by kernel_rfl) 4 p5_4 (fun i => S5 kF C ls.length (stP (allP ls i)) (allP ls i) i) m hpre rfl hstep (e5b ωr kF (stP (allP ls m)) C (allP ls m) m ls.length 100) ?_ (by omega)
      have o3 : decide ((m : Int) < 40) = false := decide_eq_false (by omega)
      have h1 := al_r (base := 210) (H := H5 kF C ++ [(10, .cells false (stC (hst (stC (hst (stC (stP (allP ls m))))))))]) rfl
      have e3 : hst (stC (hst (stC (stP (allP ls m))))) = hst (stC (stP (allP ls m))) := by rw [hstS (nS_stP _), hstS (nS_stP _)]
      rw [e3] at h1 ⊢
      simp only [allT, h1, o3, o4, hall, hd, sum_stP, beq_self_eq_true, Bool.not_false, cond_true]
      rw [← sum_stP, hd, beq_self_eq_true]; rfl
  · refine run_loopO (nL_ps ωr) f5_at f5_body (by kernel_rfl) 4 p5_4 (fun i => S5 kF C ls.length (stP (allP ls i)) (allP ls i) i) m hpre rfl hstep (e5a ωr kF (stP (allP ls m)) C (allP ls m) m ls.length 100) ?_ (by omega)
    have o4 : decide ((m : Int) < (ls.length : Int)) = false := decide_eq_false (by omega)
    have h1 := al_r (base := 210) (H := H5 kF C ++ [(10, .cells false (stC (hst (stC (hst (stC (stP (allP ls m))))))))]) rfl
    have e3 : hst (stC (hst (stC (stP (allP ls m))))) = hst (stC (stP (allP ls m))) := by rw [hstS (nS_stP _), hstS (nS_stP _)]
    rw [e3] at h1 ⊢
    simp only [allT, h1, o4, hall, hd, sum_stP, beq_self_eq_true, Bool.not_false, cond_true]
    rw [← sum_stP, hd, beq_self_eq_true]; rfl
end Go.Proofs.YtaepfopmicnnbaaDoor

/- Engine, part 43: laws with one row among their arguments, where tables are laid. -/
namespace Go.Eng
set_option linter.unusedVariables false
set_option linter.unusedSimpArgs false
open Go
theorem aget_app43 {α : Type} : ∀ (a b : List (Nat × α)) (n : Nat), aget (a ++ b) n = match aget a n with
    | some v => some v
    | none => aget b n
  | [], b, n => rfl
  | (k, u) :: a, b, n => by
    simp only [List.cons_append, aget]
    cases Nat.beq k n with
    | true => rfl
    | false => exact aget_app43 a b n
theorem rows_calls_T {P : Program} {cs : CS} (hcs : CSOk P cs) (hm : P.follows .mixedOrders = true) {nn F nn1 F1 nn2 F2 : Nat} {f : FuncId} {ks : List Kd} {E : Type} [Inhabited E] {cellsE : E → List AVal} (hE : ∀ x, (cellsE x).length = ks.length)
    (hK : ∀ cs', KindsP ks cs' → ∃ x : E, ∀ (j : Nat) u v, (cellsE x)[j]? = some u → cs'[j]? = some v → ∀ σ, VR σ u v)
    {args : AVal → List AVal} {args' : Value → Array Value} (harg : ∀ σ u u', VR σ u u' → LR σ (args u) (args' u')) {G : Nat} (hG : P.globals.size = G) {Ht : HL} {σt : Sig} (hg : GRel P σt) (hfr : Fresh σt G)
    (hn : (run1 P cs nn1 F1 f (args .nilSlice) Ht G).map (·.1) = some (.bool true))
    (he : (run1 P cs nn2 F2 f (args (.slice G 0 0 ks.length)) Ht (G + 1)).map (·.1) = some (.bool true))
    (hl : ∀ l : List E, (run1 P cs nn F f (args (.slice G 0 l.length ks.length)) (Ht ++ [(G, .cells true (l.flatMap cellsE))]) (G + 1)).map (·.1) = some (.bool true))
    {W : World} (hT : ∀ n o, aget Ht n = some o → o.ro = true ∧ ∃ p, σt n = some p ∧ ∀ σ, ORel σ W p o)
    {v : Value} (ho : v = .slice none 0 0 ∨ ∃ b o len cap, v = .slice (some ⟨b, o, none⟩) len cap ∧ len ≤ cap ∧ cap ≤ maxLen ∧ (0 < len → ∃ c t' fz, RowAt W ks b o len cap c t' fz)) :
    Calls P f (args' v) W fun r w' => r = .returned (.bool true) ∧ Grew W w' ∧ Still W w' := by
  subst hG
  have low : ∀ n o, aget Ht n = some o → n ≠ P.globals.size := fun n o h e => by
    obtain ⟨_, p, hp, _⟩ := hT n o h
    rw [hfr n (by omega)] at hp
    cases hp
  rcases ho with rfl | ⟨b, o, len, cap, rfl, h1, h2, h3⟩
  · exact law_calls_H hcs hm hn (σ := σt) (fun n o h => by obtain ⟨a1, p, a2, a3⟩ := hT n o h; exact ⟨a1, p, a2, a3 _⟩) hg hfr (harg _ _ _ .nilSlice)
  · by_cases h0 : len = 0
    · subst h0
      exact law_calls_H hcs hm he (σ := σt.set P.globals.size ⟨b, o, o + cap * ks.length⟩) (fun n ob h => by
        obtain ⟨a1, p, a2, a3⟩ := hT n ob h
        exact ⟨a1, p, by rw [Sig.set_other σt _ (low n ob h)]; exact a2, a3 _⟩) (grel_set hg (Nat.le_refl _) _) (fresh_set hfr _)
        (harg _ _ _ (.slice (Sig.set_same _ _ _) (.inl rfl) h1 (Nat.le_refl _)))
    · obtain ⟨c, t', fz, hr⟩ := h3 (by omega)
      obtain ⟨l, hll, hobj⟩ := row_obj hr hE hK
      subst hll
      refine law_calls_H hcs hm (hl l) (σ := σt.set P.globals.size ⟨b, o, c.size⟩) (fun n ob h => ?_) (grel_set hg (Nat.le_refl _) _) (fresh_set hfr _)
        (harg _ _ _ (.slice (Sig.set_same _ _ _) (.inr (by simp)) h1 hr.fits))
      rw [aget_app43] at h
      cases hh : aget Ht n with
      | some o1 =>
        rw [hh] at h
        simp only [Option.some.injEq] at h
        subst h
        obtain ⟨a1, p, a2, a3⟩ := hT n o1 hh
        exact ⟨a1, p, by rw [Sig.set_other σt _ (low n o1 hh)]; exact a2, a3 _⟩
      | none =>
        rw [hh] at h
        simp only at h
        rcases beq_cases P.globals.size n with ⟨e, hb⟩ | ⟨e, hb⟩
        · simp only [aget, hb, cond_true, Option.some.injEq] at h
          subst h
          exact ⟨rfl, _, by rw [← e]; exact Sig.set_same _ _ _, hobj _⟩
        · simp only [aget, hb, cond_false] at h
          cases h
end Go.Eng

/- The statement on pieces, over the table that is laid. -/
namespace Go.Proofs.YtaepfopmicnnbaaDoor
set_option linter.unusedVariables false
set_option linter.unusedSimpArgs false
open Go Go.Eng
set_option maxRecDepth 1000000
theorem law5n : (run1 Tryd.prog (nL ωr) (mask 5) 20 5 [.nilSlice] G0 1).map (·.1) = some (.bool true) := ansO_run (nL_ps ωr) (n5a ωr kF) (by
  have h1 := al_r (base := 209) (H := [(0, .cells true (cellsU 80 kF)), (9, .cells false (stC (hst (stC (hst (stC ωr.new))))))]) rfl
  have hn : ωr.new = stP [] := rfl
  have hd := sum_doc [] (by decide)
  have h2 : ωr.sum (gU (cellsU 80 kF)) (hst (stC (hst (stC ωr.new)))) = ωr.of (gU (cellsU 80 kF)) [] := by rw [hn, hstS (nS_stP []), ← sum_stP, hstS (nS_stP [])]
  rw [h2, hn, hd, beq_self_eq_true, beq_self_eq_true]
  rw [hn] at h1
  simp only [allT, h1, cond_true]; rfl)
theorem law5e : (run1 Tryd.prog (nL ωr) (mask 5) 20 5 [.slice 1 0 0 1] G0 2).map (·.1) = some (.bool true) := ansO_run (nL_ps ωr) (n5b ωr kF) (by
  have h1 := al_r (base := 210) (H := [(0, .cells true (cellsU 80 kF)), (10, .cells false (stC (hst (stC (hst (stC ωr.new))))))]) rfl
  have hn : ωr.new = stP [] := rfl
  have hd := sum_doc [] (by decide)
  have h2 : ωr.sum (gU (cellsU 80 kF)) (hst (stC (hst (stC ωr.new)))) = ωr.of (gU (cellsU 80 kF)) [] := by rw [hn, hstS (nS_stP []), ← sum_stP, hstS (nS_stP [])]
  rw [h2, hn, hd, beq_self_eq_true, beq_self_eq_true]
  rw [hn] at h1
  simp only [allT, h1, cond_true]; rfl)
theorem tabT {W : World} {n : Nat} (ho : ∀ σ, ORel σ W ⟨0, 0, n⟩ (.cells true (cellsU 80 kF))) : ∀ k o, aget G0 k = some o → o.ro = true ∧ ∃ p, sigT n k = some p ∧ ∀ σ, ORel σ W p o := fun k o hk => by
  unfold G0 at hk
  rcases beq_cases 0 k with ⟨e, hb⟩ | ⟨e, hb⟩
  · simp only [aget, hb, cond_true, Option.some.injEq] at hk
    subst hk
    subst e
    exact ⟨rfl, _, rfl, ho⟩
  · simp only [aget, hb, cond_false] at hk
    cases hk
end Go.Proofs.YtaepfopmicnnbaaDoor
