/- Texts Sp4, Eng20, Eng29, Eng42, SpJ: what they show stands ahead of each. -/
import Derived.Test.YtaepfopmicnnbaaDoorT8
import Derived.Test.YtaepfopmicnnbaaDoorT4
import Derived.WalkKit
import Derived.ProofKit
import Derived.OpenShut
import Derived.ShutString
import Derived.ChangeSame
import Derived.Deep.Slices
import Derived.WideKeyArgs
import Derived.Test.YtaepfopmicnnbaaDoorRows
import Derived.LaidMore
import Derived.Stop.Joined
/- The runs of two statements: digests, and no hash. -/
namespace Go.Proofs.YtaepfopmicnnbaaDoor
set_option linter.unusedVariables false
set_option linter.unusedSimpArgs false
open Go Go.Eng
set_option maxRecDepth 1000000
set_option linter.unusedSimpArgs false
set_option linter.unusedVariables false
noncomputable def alD (ω : Fw) (base : Nat) (H : HL) : Bool := decP ((tabE (tabK (V7 ω))).app base H = some (.bool true, H))
theorem alD_of {ω : Fw} {g : Nat → UInt64} {base : Nat} {H : HL} (h0 : aget H 0 = some (.cells true (cellsU 80 g))) (h : allT (alOb ω (gU (cellsU 80 g))) = true) : alD ω base H = true := by
  apply decP_of
  have hs : shG (cellsU 80 g) = true := by kernel_rfl
  have hv : V7 ω (gU (cellsU 80 g)) = some (.bool true) := by unfold V7; rw [h]; rfl
  unfold tabE EffA.app tabK
  simp only [h0, hs, cond_true, hv, appU]
theorem al_r {base : Nat} {H : HL} (h0 : aget H 0 = some (.cells true (cellsU 80 kF))) : alD ωr base H = true := by
  refine alD_of h0 ?_
  rw [gUg nkF]
  exact al_true
theorem nLr_ok : CSOk Tryd.prog (nL ωr) := csAlt_ok (csP_alt (callOk8 φr nr_ok) (csP_alt (callOk14 φr nr_ok) callOk9)) (csAlt_ok (callOk7 nWr_ok) (csAlt_ok (callOk13 φr nr_ok) (csAlt_ok (callOk15 φr nr_ok) (csAlt_ok (callOkn14 φr nr_ok) (callOkn15 φr nr_ok)))))
theorem run3a (ω : Fw) (g : Nat → UInt64) (l : List UInt8) : ansO (run1O Tryd.prog (psW ω) (nL ω) [5,8,10,11,300006] [true] [.bool true, .tup []] (mask 3) 100 3 [.str l] [(0, .cells true (cellsU 80 g))] 1) =
    some (.bool true, [alD ω 33 [(0, .cells true (cellsU 80 g))], decide ((2048 : Int) < (l.length : Int))]) := by kernel_rfl
theorem run3b (ω : Fw) (g : Nat → UInt64) (l : List UInt8) : ansO (run1O Tryd.prog (psW ω) (nL ω) [5,8,10,11,300013] [false, true] [.bool true, .tup []] (mask 3) 100 3 [.str l] [(0, .cells true (cellsU 80 g))] 1) =
    some (.bool true, [alD ω 81 [(0, .cells true (cellsU 80 g))], ω.of (gU (cellsU 80 g)) l == ω.doc l, Nat.ble l.length 100000000, Nat.ble l.length 100000000, !(decide ((2048 : Int) < (l.length : Int)))]) := by kernel_rfl
theorem run6 (ω : Fw) (g : Nat → UInt64) (l : List UInt8) : ansO (run1O Tryd.prog (psW ω) (nL ω) [300014] [] [.bool true, .tup []] (mask 6) 100 6 [.str l] [(0, .cells true (cellsU 80 g))] 1) =
    some (.bool true, [alD ω 97 [(0, .cells true (cellsU 80 g))]]) := by kernel_rfl
def G0 : HL := [(0, .cells true (cellsU 80 kF))]
theorem law6 (l : List UInt8) : ∃ nn F, (run1 Tryd.prog (nL ωr) nn F 6 [.str l] G0 1).map (·.1) = some (.bool true) :=
  ⟨_, _, ansO_run (nL_ps ωr) (run6 ωr kF l) (by
    have h1 := al_r (base := 97) (H := [(0, .cells true (cellsU 80 kF))]) rfl
    simp only [allT, h1, cond_true])⟩
theorem law3 (l : List UInt8) : ∃ nn F, (run1 Tryd.prog (nL ωr) nn F 3 [.str l] G0 1).map (·.1) = some (.bool true) := by
  by_cases hl : 2048 < l.length
  · exact ⟨_, _, ansO_run (nL_ps ωr) (run3a ωr kF l) (by
      have h1 := al_r (base := 33) (H := [(0, .cells true (cellsU 80 kF))]) rfl
      have h2 : decide ((2048 : Int) < (l.length : Int)) = true := decide_eq_true (by omega)
      simp only [allT, h1, h2, cond_true])⟩
  · exact ⟨_, _, ansO_run (nL_ps ωr) (run3b ωr kF l) (by
      have h1 := al_r (base := 81) (H := [(0, .cells true (cellsU 80 kF))]) rfl
      have h2 : decide ((2048 : Int) < (l.length : Int)) = false := decide_eq_false (by omega)
      have h3 : (ωr.of (gU (cellsU 80 kF)) l == ωr.doc l) = true := by
        rw [gUg nkF, beq_iff_eq]
        exact of_doc l (by omega)
      have h4 : Nat.ble l.length 100000000 = true := Nat.ble_eq_true_of_le (by omega)
      simp only [allT, h1, h2, h3, h4, Bool.not_false, cond_true])⟩
end Go.Proofs.YtaepfopmicnnbaaDoor

/- Engine, part 20: from a law's answer to the row. -/
namespace Go.Eng
set_option linter.unusedVariables false
set_option linter.unusedSimpArgs false
open Go Go.WideShapes Go.ChangeShapes
theorem post_of_grew {H : Type} {enc : TypeId × Value → H} {P : Program} {f : Func} {s : ChangeSpec} {apart fresh handsOn again : Bool} {W W' : World} {args : Array Value} {v : Value} {ds gs : List (DataW H)} {before pa pv : List MemPlace}
    (hW : DataW.Whole enc P f.params.toList s.vars apart W args.toList ds gs before)
    (hres : ∀ (b : Nat) (sp : Nat → Bool) (hd : Bool), DataW.TrodAll enc P W' b sp hd f.resultTypes.toList (v.resultList f.resultTypes.size) (s.fn H (ds ++ gs)).results [])
    (hargs : ∀ sp : Nat → Bool, (∀ p ∈ before, sp p.block = true) → DataW.TrodAll enc P W' 0 sp true f.params.toList args.toList (s.fn H (ds ++ gs)).args pa)
    (hvars : ∀ sp : Nat → Bool, (∀ p ∈ before, sp p.block = true) → DataW.TrodVars enc P W' sp s.vars (s.fn H (ds ++ gs)).vars pv)
    (hps : before = pa ++ pv) (hg : Grew W W')
    (hok : ∀ (j : Nat) (t : TypeId) (r : Value), f.resultTypes[j]? = some t → (v.resultList f.resultTypes.size)[j]? = some r → Value.okWide P W' .any 0 t r) :
    s.post enc P f apart fresh handsOn again W args v W' := by
  have hlt := hW.lt
  have hold : ∀ p ∈ before, (fun b => decide (b < W.heap.size)) p.block = true := fun p hp => by simpa using hlt p hp
  refine ⟨ds, gs, before, [], pa, pv, hW, hres _ _ _, hargs _ hold, hvars _ hold, World.keptBut_mono (fun p hp => hp.elim) hg.1, fun _ => ?_⟩
  obtain ⟨_, _, _, _, _, hz, hn⟩ := hW
  have hmem : ∀ p, p ∈ ([] ++ pa) ++ pv → p ∈ before := fun p hp => by rw [hps]; simpa using hp
  refine ⟨hok, _, _, ([] ++ pa) ++ pv, ⟨[] ++ pa, pv, trodAll_append (hargs _ (fun _ _ => rfl)) (hres _ _ _), hvars _ (fun _ _ => rfl), rfl, fun b off hp => ?_, fun ha => ?_⟩, fun p hp _ => ?_⟩
  · have hb := hmem _ hp
    rw [hg.2.1 ⟨b, off, none⟩ (hlt _ hb)]
    exact hz b off hb
  · have := hn ha
    rw [hps] at this
    simpa using this
  · exact hmem _ hp
/-! ### the arguments -/
theorem vr_str (σ : Sig) (a : ByteArray) : VR σ (.str a.data.toList) (.string a) := by
  have := VR.str (σ := σ) a.data.toList
  rwa [Array.toArray_toList] at this
theorem wf_le {k : IntKind} {n : Int} (h : (Lit.int k n).wf = true) : k.min ≤ n ∧ n ≤ k.max := by
  simpa only [Lit.wf, Bool.and_eq_true, decide_eq_true_eq] using h
theorem vr_u8 {a : Int} (h : (Lit.int .u8 a).wf = true) : ∃ x : UInt8, ∀ σ, VR σ (.u8 x) (.int .u8 a) := by
  have h' := wf_le h
  have h1 : (0 : Int) ≤ a := h'.1
  have h2 : a ≤ 255 := h'.2
  refine ⟨UInt8.ofNat a.toNat, fun σ => ?_⟩
  have e : ((UInt8.ofNat a.toNat).toNat : Int) = a := by rw [UInt8.toNat_ofNat_of_lt' (show a.toNat < 256 by omega)]; omega
  have := VR.u8 (σ := σ) (UInt8.ofNat a.toNat)
  rwa [e] at this
theorem vr_u32 {a : Int} (h : (Lit.int .u32 a).wf = true) : ∃ x : UInt32, ∀ σ, VR σ (.u32 x) (.int .u32 a) := by
  have h' := wf_le h
  have h1 : (0 : Int) ≤ a := h'.1
  have h2 : a ≤ 4294967295 := h'.2
  refine ⟨UInt32.ofNat a.toNat, fun σ => ?_⟩
  have e : ((UInt32.ofNat a.toNat).toNat : Int) = a := by rw [UInt32.toNat_ofNat_of_lt' (show a.toNat < 4294967296 by omega)]; omega
  have := VR.u32 (σ := σ) (UInt32.ofNat a.toNat)
  rwa [e] at this
theorem vr_u64 {a : Int} (h : (Lit.int .u64 a).wf = true) : ∃ x : UInt64, ∀ σ, VR σ (.u64 x) (.int .u64 a) := by
  have h' := wf_le h
  have h1 : (0 : Int) ≤ a := h'.1
  have h2 : a ≤ 18446744073709551615 := h'.2
  refine ⟨UInt64.ofNat a.toNat, fun σ => ?_⟩
  have e : ((UInt64.ofNat a.toNat).toNat : Int) = a := by rw [UInt64.toNat_ofNat_of_lt' (show a.toNat < 18446744073709551616 by omega)]; omega
  have := VR.u64 (σ := σ) (UInt64.ofNat a.toNat)
  rwa [e] at this
end Go.Eng

/- Engine, part 29: laws whose arguments are rows: opened out of the given reading, shut again. -/
namespace Go.Eng
set_option linter.unusedVariables false
set_option linter.unusedSimpArgs false
open Go Go.WideShapes Go.ChangeShapes

/-! ### what a row's element is made of -/
inductive Kd where
  | bool
  | int (k : IntKind)
  | str
def HasK : Kd → Value → Prop
  | .bool, v => ∃ b, v = .bool b
  | .int k, v => ∃ n, v = .int k n ∧ (Lit.int k n).wf = true
  | .str, v => ∃ s : ByteArray, v = .string s ∧ s.size ≤ maxLen
def KindsP : List Kd → List Value → Prop
  | [], [] => True
  | k :: ks, v :: vs => HasK k v ∧ KindsP ks vs
  | _, _ => False
theorem KindsP.append : ∀ {ks ks' : List Kd} {vs vs' : List Value}, KindsP ks vs → KindsP ks' vs' → KindsP (ks ++ ks') (vs ++ vs')
  | [], _, [], _, _, h => h
  | k :: ks, _, v :: vs, _, h, h' => ⟨h.1, h.2.append h'⟩
def kindsFs (rec : TypeId → Option (List Kd)) (P : Program) : List Field → Nat → Option (List Kd)
  | [], _ => some []
  | f :: l, a => match rec f.type with
    | some ks => cond (Nat.beq f.offset a && Nat.beq ks.length (P.cellsOf f.type)) (match kindsFs rec P l (a + ks.length) with
      | some r => some (ks ++ r)
      | none => none) none
    | none => none
def kindsOf (P : Program) : Nat → TypeId → Option (List Kd)
  | 0, _ => none
  | n + 1, t => match P.underlying t with
    | some .bool => some [.bool]
    | some (.int k) => some [.int k]
    | some .string => some [.str]
    | some (.struct fs) => match kindsFs (kindsOf P n) P fs.toList 0 with
      | some ks => cond (Nat.beq ks.length (P.cellsOf t)) (some ks) none
      | none => none
    | _ => none
section
variable {H : Type} {enc : TypeId × Value → H} {P : Program} {w : World} {base : Nat} {spare : Nat → Bool} {held : Bool}
theorem kindsFs_ok {rec : TypeId → Option (List Kd)} {m : Nat} {cs : List Value} (hr : ∀ t ks cs' x, rec t = some ks → DataW.trod enc P w base spare held m t cs' = some x → KindsP ks cs') :
    ∀ (l : List Field) (a : Nat) (ks : List Kd), kindsFs rec P l a = some ks → a + ks.length ≤ cs.length → (∀ f ∈ l, ∃ x, DataW.trod enc P w base spare held m f.type ((cs.drop f.offset).take (P.cellsOf f.type)) = some x) → KindsP ks ((cs.drop a).take ks.length)
  | [], a, ks, h, _, _ => by
    cases h
    rw [List.length_nil, List.take_zero]; trivial
  | f :: l, a, ks, h, hle, hx => by
    unfold kindsFs at h
    split at h
    · rename_i k1 hk1
      cases hc : (Nat.beq f.offset a && Nat.beq k1.length (P.cellsOf f.type)) with
      | false => rw [hc] at h; cases h
      | true =>
        rw [hc, cond_true] at h
        simp only [Bool.and_eq_true] at hc
        have e1 := Nat.eq_of_beq_eq_true hc.1
        have e2 := Nat.eq_of_beq_eq_true hc.2
        split at h
        · rename_i r hr2
          cases h
          obtain ⟨x, hx1⟩ := hx f (List.mem_cons_self ..)
          have h1 := hr _ _ _ _ hk1 hx1
          rw [e1, ← e2] at h1
          rw [List.length_append] at hle
          have h2 := kindsFs_ok hr l (a + k1.length) r hr2 (by omega) (fun g hg => hx g (List.mem_cons_of_mem _ hg))
          have := h1.append h2
          rw [List.length_append, List.take_add]
          rw [List.drop_drop]
          exact this
        · cases h
    · cases h
theorem kindsOf_ok : ∀ (n : Nat) (t : TypeId) (ks : List Kd), kindsOf P n t = some ks → ∀ (m : Nat) (cs : List Value) (x : DataW H × List MemPlace), DataW.trod enc P w base spare held m t cs = some x → KindsP ks cs
  | 0, _, _, h, _, _, _, _ => by cases h
  | n + 1, t, ks, h, m, cs, x, hx => by
    unfold kindsOf at h
    split at h
    · rename_i ht
      cases h
      obtain ⟨b, rfl, _⟩ := DataW.trod_bool ht hx
      exact ⟨⟨b, rfl⟩, trivial⟩
    · rename_i k ht
      cases h
      obtain ⟨z, rfl, _, hz⟩ := DataW.trod_int ht hx
      exact ⟨⟨z, rfl, hz⟩, trivial⟩
    · rename_i ht
      cases h
      obtain ⟨s, rfl, _, hs⟩ := DataW.trod_string ht hx
      exact ⟨⟨s, rfl, hs⟩, trivial⟩
    · rename_i fs ht
      split at h
      · rename_i ks' hk
        cases hc : Nat.beq ks'.length (P.cellsOf t) with
        | false => rw [hc] at h; cases h
        | true =>
          rw [hc] at h
          cases h
          have e := Nat.eq_of_beq_eq_true hc
          obtain ⟨xs, m', rfl, _, hl, hxl, hf⟩ := DataW.trod_struct ht hx
          have := kindsFs_ok (cs := cs) (m := m') (fun t ks cs' x h1 h2 => kindsOf_ok n t ks h1 m' cs' x h2) fs.toList 0 _ hk (by omega) (fun f hmem => by
            obtain ⟨i, hi⟩ := List.getElem?_of_mem hmem
            have hi2 : fs[i]? = some f := by simpa using hi
            have := hf i f hi2
            have hlt : i < xs.length := by rw [hxl]; exact (Array.getElem?_eq_some_iff.1 hi2).1
            exact ⟨xs[i], by rw [this]; simp [hlt]⟩)
          rw [List.drop_zero, e, ← hl, List.take_length] at this
          exact this
      · cases h
    · cases h
end
/-! ### a slice of such elements -/
structure RowAt (W : World) (ks : List Kd) (b o len cap : Nat) (c : Array Value) (t : TypeId) (fz : Nat × Nat) : Prop where
  blk : W.heap[b]? = some (.cells c t fz)
  fits : o + cap * ks.length ≤ c.size
  el : ∀ i, i < len → ∃ cs', cs'.length = ks.length ∧ (∀ j, j < ks.length → c[o + i * ks.length + j]? = cs'[j]?) ∧ KindsP ks cs'
theorem cellAt29 {W : World} {a : Addr} {v : Value} (h : W.cell? a = some v) : a.spot = none ∧ ∃ c t fz, W.heap[a.block]? = some (.cells c t fz) ∧ c[a.off]? = some v := by
  unfold World.cell? at h
  split at h
  · rename_i c t fz hb
    cases hs : a.spot with
    | none => rw [hs] at h; exact ⟨rfl, c, t, fz, hb, by simpa using h⟩
    | some s => rw [hs] at h; simp at h
  · cases h
theorem add_off (a : Addr) (i : Nat) : (a.add i).block = a.block ∧ (a.add i).off = a.off + i ∧ (a.spot = none → (a.add i).spot = none) ∧ ((a.add i).spot = none → i = 0 → a.spot = none) := by
  unfold Addr.add
  by_cases h : i = 0
  · subst h; simp
  · simp [h]
theorem open_flat {H : Type} {enc : TypeId × Value → H} {P : Program} {W : World} {t e : TypeId} (ht : P.underlying t = some (.slice e)) {n : Nat} {ks : List Kd} (hk : kindsOf P n e = some ks) (hc : P.cellsOf e = ks.length) (hpos : 0 < ks.length) {v : Value} {d : DataW H} {p : List MemPlace} {b0 : Nat}
    (hval : Value.okWide P W .any b0 t v) (h : DataW.Trod enc P W 0 (fun _ => true) true t v d p) :
    v = .slice none 0 0 ∨ ∃ b o len cap, v = .slice (some ⟨b, o, none⟩) len cap ∧ len ≤ cap ∧ cap ≤ maxLen ∧ (0 < len → ∃ c t' fz, RowAt W ks b o len cap c t' fz) := by
  obtain ⟨fuel, hf⟩ := h
  have hv : v.cells.toList = [v] ∨ ∃ cs, v = .agg cs := by
    cases v <;> first | exact .inl rfl | exact .inr ⟨_, rfl⟩
  unfold Value.okWide at hval
  rw [ht] at hval
  unfold Cell.okWide at hval
  rw [ht] at hval
  rcases hv with hv | ⟨cs, rfl⟩
  · rw [hv] at hf
    rcases Go.Deep.open_slice ht hf with ⟨h1, _⟩ | ⟨a, len, cap, m, n', D, Pl, h1, hb, hl, hm, hmm, _, hel⟩
    · left; simpa using h1
    · right
      simp only [List.cons.injEq, and_true] at h1
      subst h1
      unfold Cell.ok at hval
      rw [ht] at hval
      have hsp : a.spot = none := hval.2.2.2.1
      obtain ⟨b, o, sp⟩ := a
      cases hsp
      refine ⟨b, o, len, cap, rfl, hl, hm, fun hlen => ?_⟩
      simp only [if_true] at hmm
      subst hmm
      have cellAt : ∀ i, i < m → ∃ cs', cs'.length = ks.length ∧ (∀ j, j < ks.length → W.cell? ⟨b, o + i * ks.length + j, none⟩ = cs'[j]?) ∧ KindsP ks cs' := fun i hi => by
        obtain ⟨cs', g1, g2⟩ := hel i hi
        obtain ⟨_, g3, g4⟩ := World.cells?_some g1
        rw [hc] at g3 g4
        refine ⟨cs', g3, fun j hj => ?_, kindsOf_ok n e ks hk _ _ _ g2⟩
        rw [← g4 j hj]
        congr 1
        unfold Addr.add
        by_cases h1 : i * ks.length = 0 <;> by_cases h2 : j = 0 <;> simp [h1, h2]
      have first : ∃ c t' fz, W.heap[b]? = some (.cells c t' fz) := by
        obtain ⟨cs', g1, g2, _⟩ := cellAt 0 (by omega)
        have : (cs'[0]?).isSome = true := by simp [g1, hpos]
        rw [← g2 0 hpos] at this
        obtain ⟨v, hv⟩ := Option.isSome_iff_exists.1 this
        obtain ⟨_, c, t', fz, h3, _⟩ := cellAt29 hv
        exact ⟨c, t', fz, h3⟩
      obtain ⟨c, t', fz, hblk⟩ := first
      have cellIn : ∀ k v, W.cell? ⟨b, k, none⟩ = some v → c[k]? = some v := fun k v hv => by
        obtain ⟨_, c2, t2, fz2, h3, h4⟩ := cellAt29 hv
        rw [hblk] at h3
        cases h3
        exact h4
      refine ⟨c, t', fz, hblk, ?_, fun i hi => ?_⟩
      · obtain ⟨cs', g1, g2, _⟩ := cellAt (m - 1) (by omega)
        have : (cs'[ks.length - 1]?).isSome = true := by simp [g1]; omega
        rw [← g2 (ks.length - 1) (by omega)] at this
        obtain ⟨v, hv⟩ := Option.isSome_iff_exists.1 this
        have := (Array.getElem?_eq_some_iff.1 (cellIn _ _ hv)).1
        have e1 : m * ks.length = (m - 1) * ks.length + ks.length := by
          rw [← Nat.succ_mul]; congr 1; omega
        omega
      · obtain ⟨cs', g1, g2, g3⟩ := cellAt i (by omega)
        refine ⟨cs', g1, fun j hj => ?_, g3⟩
        have hj2 : j < cs'.length := by omega
        have := g2 j hj
        rw [List.getElem?_eq_getElem hj2] at this ⊢
        exact cellIn _ _ this
  · simp [Cell.ok, ht] at hval
/-- The elements as data of a type of one's own. -/
theorem row_obj {W : World} {ks : List Kd} {b o len cap : Nat} {c : Array Value} {t : TypeId} {fz : Nat × Nat} (h : RowAt W ks b o len cap c t fz) {E : Type} [Inhabited E] {cellsE : E → List AVal} (hE : ∀ x, (cellsE x).length = ks.length)
    (hK : ∀ cs', KindsP ks cs' → ∃ x : E, ∀ (j : Nat) u v, (cellsE x)[j]? = some u → cs'[j]? = some v → ∀ σ, VR σ u v) :
    ∃ l : List E, l.length = len ∧ ∀ σ, ORel σ W ⟨b, o, c.size⟩ (.cells true (l.flatMap cellsE)) := by
  have h1 : ∀ i, i < len → ∃ x : E, ∀ j, j < ks.length → ∃ v, c[o + i * ks.length + j]? = some v ∧ ∀ u, (cellsE x)[j]? = some u → ∀ σ, VR σ u v := fun i hi => by
    obtain ⟨cs', g1, g2, g3⟩ := h.el i hi
    obtain ⟨x, hx⟩ := hK cs' g3
    refine ⟨x, fun j hj => ?_⟩
    have hj2 : j < cs'.length := by omega
    exact ⟨cs'[j], by rw [g2 j hj]; exact List.getElem?_eq_getElem hj2, fun u hu => hx j u _ hu (List.getElem?_eq_getElem hj2)⟩
  obtain ⟨f, hf⟩ := Go.Deep.choose_lt h1
  refine ⟨(List.range len).map f, by simp, fun σ => ⟨c, t, fz, h.blk, rfl, ?_, fun h => by cases h⟩⟩
  have key : ∀ (n : Nat), n ≤ len → ∀ (i : Nat) v, (((List.range n).map f).flatMap cellsE)[i]? = some v → ∃ v', c[o + i]? = some v' ∧ VR σ v v' := by
    intro n
    induction n with
    | zero => intro _ i v hi; simp at hi
    | succ n ih =>
      intro hn i v hi
      have hlen : (((List.range n).map f).flatMap cellsE).length = n * ks.length := by
        have : ∀ (l : List E), (l.flatMap cellsE).length = l.length * ks.length := fun l => by
          induction l with
          | nil => simp
          | cons x l ih => rw [List.flatMap_cons, List.length_append, ih, hE, List.length_cons, Nat.succ_mul]; omega
        rw [this]; simp
      rw [List.range_succ, List.map_append, List.flatMap_append, List.getElem?_append, hlen] at hi
      split at hi
      · exact ih (by omega) i v hi
      · rename_i hge
        simp only [List.map_cons, List.map_nil, List.flatMap_cons, List.flatMap_nil, List.append_nil] at hi
        have hj : i - n * ks.length < ks.length := by
          have := (List.getElem?_eq_some_iff.1 hi).1
          rwa [hE (f n)] at this
        obtain ⟨v', g1, g2⟩ := hf n (by omega) _ hj
        refine ⟨v', ?_, g2 v hi σ⟩
        rw [show o + i = o + n * ks.length + (i - n * ks.length) by omega]
        exact g1
  exact key len (Nat.le_refl _)
theorem KindsP.cons {k : Kd} {ks : List Kd} {cs : List Value} (h : KindsP (k :: ks) cs) : ∃ v vs, cs = v :: vs ∧ HasK k v ∧ KindsP ks vs := by
  cases cs with
  | nil => exact h.elim
  | cons v vs => exact ⟨v, vs, rfl, h.1, h.2⟩
theorem KindsP.none {cs : List Value} (h : KindsP [] cs) : cs = [] := by
  cases cs with
  | nil => rfl
  | cons v vs => exact h.elim
inductive VRs : List AVal → List Value → Prop where
  | nil : VRs [] []
  | cons {u v us vs} (h : ∀ σ, VR σ u v) (t : VRs us vs) : VRs (u :: us) (v :: vs)
theorem VRs.get {us : List AVal} {vs : List Value} (h : VRs us vs) : ∀ (j : Nat) u v, us[j]? = some u → vs[j]? = some v → ∀ σ, VR σ u v := by
  induction h with
  | nil => intro j u v hj; simp at hj
  | cons h t ih =>
    intro j u v h1 h2 σ
    cases j with
    | zero => simp at h1 h2; subst h1 h2; exact h σ
    | succ j => exact ih j u v (by simpa using h1) (by simpa using h2) σ
/-! ### the call -/
def Still (W w' : World) : Prop := ∀ b, b < W.heap.size → w'.heap[b]? = W.heap[b]?
theorem hrel_ro {σ : Sig} {H : Heap} {w : World} (h : ∀ n o, H n = some o → o.ro = true ∧ ∃ p, σ n = some p ∧ ORel σ w p o) : HRel σ H w :=
  ⟨fun n o hn => (h n o hn).2, fun n m o o' p q hn hm _ _ _ => .inr ⟨(h n o hn).1, (h m o' hm).1⟩⟩
theorem law_calls_H {P : Program} {cs : CS} (hcs : CSOk P cs) (hm : P.follows .mixedOrders = true) {nn F : Nat} {f : FuncId} {args : List AVal} {H : HL} {fr : Nat} (h : (run1 P cs nn F f args H fr).map (·.1) = some (.bool true))
    {σ : Sig} {args' : Array Value} {w : World} (hro : ∀ n o, aget H n = some o → o.ro = true ∧ ∃ p, σ n = some p ∧ ORel σ w p o) (hg : GRel P σ) (hfr : Fresh σ fr) (hl : LR σ args args') :
    Calls P f args' w fun r w' => r = .returned (.bool true) ∧ Grew w w' ∧ Still w w' := by
  obtain ⟨r, hr, hrv⟩ := optMap h
  obtain ⟨v, H', fr'⟩ := r
  obtain ⟨fn, c, hf, hb, hrun⟩ := run1_some hr
  refine (runF_ok hcs hm hf hb hrun hl (hrel_ro hro) hg hfr).mono fun r w' ⟨σ', v', h1, h2, _, h4, _⟩ => ?_
  have hv : v = .bool true := hrv
  subst hv
  cases h2
  have hs : Still w w' := fun b hb => (h4.old b hb (by
    rintro ⟨n, o, p, g1, g2, _⟩
    rw [(hro n o g1).1] at g2
    cases g2)).1
  exact ⟨h1, grew_of h4.os h4.output h4.size hs, hs⟩
theorem args_stay {H : Type} {enc : TypeId × Value → H} {P : Program} (hl : laidOutB P = true) {W W' : World} (hs : Still W W') :
    ∀ {ts : List TypeId} {vs : List Value} {ds : List (DataW H)} {ps : List MemPlace}, (ts.all fun t => P.readableRec t && decide (t < P.types.size)) = true → DataW.TrodAll enc P W 0 (fun _ => true) true ts vs ds ps → (∀ p ∈ ps, p.block < W.heap.size) →
    ∀ sp : Nat → Bool, (∀ p ∈ ps, sp p.block = true) → DataW.TrodAll enc P W' 0 sp true ts vs ds ps
  | [], [], [], _, _, h, _, _, _ => h
  | t :: ts, v :: vs, d :: ds, ps, ht, ⟨p, q, h1, h2, e⟩, hlt, sp, hsp => by
    simp only [List.all_cons, Bool.and_eq_true, decide_eq_true_eq] at ht
    subst e
    have same : ∀ x : MemPlace, x.block < W.heap.size → W.sameAt W' x := fun x hx => by
      cases x with
      | cell b off =>
        show W'.cell? _ = W.cell? _
        unfold World.cell?
        rw [show W'.heap[(⟨b, off, none⟩ : Addr).block]? = W.heap[b]? from hs b hx]
      | map b => exact hs b hx
    exact ⟨p, q, Go.WideElems.Trod_stays hl ht.1.1 ht.1.2 h1 (fun x hx => same x (hlt x (List.mem_append_left _ hx))) (fun x hx => hsp x (List.mem_append_left _ hx)),
      args_stay hl hs (by simpa using ht.2) h2 (fun x hx => hlt x (List.mem_append_right _ hx)) sp (fun x hx => hsp x (List.mem_append_right _ hx)), rfl⟩
theorem sig0_fresh (P : Program) : Fresh (sig0 P) P.globals.size := fun n hn => by
  unfold sig0
  rw [if_neg (by omega)]
theorem fresh_set {σ : Sig} {n : Nat} (h : Fresh σ n) (p : Place) : Fresh (σ.set n p) (n + 1) := fun m hm => by
  rw [Sig.set_other σ p (by omega)]
  exact h m (by omega)
theorem grel_set {P : Program} {σ : Sig} (h : GRel P σ) {n : Nat} (hn : P.globals.size ≤ n) (p : Place) : GRel P (σ.set n p) := fun g hg => by
  rw [Sig.set_other σ p (by omega)]
  exact h g hg
/-- A law with one row among its arguments. -/
theorem rows_calls {P : Program} {cs : CS} (hcs : CSOk P cs) (hm : P.follows .mixedOrders = true) {nn F : Nat} {f : FuncId} {ks : List Kd} {E : Type} [Inhabited E] {cellsE : E → List AVal} (hE : ∀ x, (cellsE x).length = ks.length)
    (hK : ∀ cs', KindsP ks cs' → ∃ x : E, ∀ (j : Nat) u v, (cellsE x)[j]? = some u → cs'[j]? = some v → ∀ σ, VR σ u v)
    {args : AVal → List AVal} {args' : Value → Array Value} (harg : ∀ σ u u', VR σ u u' → LR σ (args u) (args' u')) {G : Nat} (hG : P.globals.size = G)
    (hn : (run1 P cs nn F f (args .nilSlice) [] G).map (·.1) = some (.bool true))
    (he : (run1 P cs nn F f (args (.slice G 0 0 ks.length)) [] (G + 1)).map (·.1) = some (.bool true))
    (hl : ∀ l : List E, (run1 P cs nn F f (args (.slice G 0 l.length ks.length)) [(G, .cells true (l.flatMap cellsE))] (G + 1)).map (·.1) = some (.bool true))
    {W : World} {v : Value} (ho : v = .slice none 0 0 ∨ ∃ b o len cap, v = .slice (some ⟨b, o, none⟩) len cap ∧ len ≤ cap ∧ cap ≤ maxLen ∧ (0 < len → ∃ c t' fz, RowAt W ks b o len cap c t' fz)) :
    Calls P f (args' v) W fun r w' => r = .returned (.bool true) ∧ Grew W w' ∧ Still W w' := by
  subst hG
  rcases ho with rfl | ⟨b, o, len, cap, rfl, h1, h2, h3⟩
  · exact law_calls_H hcs hm hn (fun n o h => by simp [aget] at h) (sig0_g P) (sig0_fresh P) (harg _ _ _ .nilSlice)
  · by_cases h0 : len = 0
    · subst h0
      exact law_calls_H hcs hm he (σ := (sig0 P).set P.globals.size ⟨b, o, o + cap * ks.length⟩) (fun n o h => by simp [aget] at h) (grel_set (sig0_g P) (Nat.le_refl _) _) (fresh_set (sig0_fresh P) _)
        (harg _ _ _ (.slice (Sig.set_same _ _ _) (.inl rfl) h1 (Nat.le_refl _)))
    · obtain ⟨c, t', fz, hr⟩ := h3 (by omega)
      obtain ⟨l, hll, hobj⟩ := row_obj hr hE hK
      subst hll
      refine law_calls_H hcs hm (hl l) (σ := (sig0 P).set P.globals.size ⟨b, o, c.size⟩) (fun n ob h => ?_) (grel_set (sig0_g P) (Nat.le_refl _) _) (fresh_set (sig0_fresh P) _)
        (harg _ _ _ (.slice (Sig.set_same _ _ _) (.inr (by simp)) h1 hr.fits))
      rcases beq_cases P.globals.size n with ⟨e, hb⟩ | ⟨e, hb⟩
      · simp only [aget, hb, cond_true, Option.some.injEq] at h
        subst h
        exact ⟨rfl, _, by rw [← e]; exact Sig.set_same _ _ _, hobj _⟩
      · simp only [aget, hb, cond_false] at h
        cases h
end Go.Eng

/- Engine, part 42: tables of words that the program's text lays. -/
namespace Go.Eng
set_option linter.unusedVariables false
set_option linter.unusedSimpArgs false
open Go
/-- A table of words, as an abstract block. -/
theorem table_u64 {H : Type} {enc : TypeId × Value → H} {P : Program} {W : World} {n : String} {g : Nat} {t e : TypeId} {cs : Array Value} {k : Nat} {l : List UInt64} {base : Nat} {spare : Nat → Bool} {held : Bool} {fuel : Nat} {x : DataW H × List MemPlace}
    (hg : P.globalNamed n = some g) (hv : W.var? P n = some cs) (ht : P.underlying t = some (.array k e)) (he : P.underlying e = some (.int .u64)) (hc : P.cellsOf e = 1)
    (hd : DataW.trod enc P W base spare held fuel t cs.toList = some x) (hx : x.1 = .agg (l.map fun y => .lit (.int .u64 (y.toNat : Int)))) (σ : Sig) : ORel σ W ⟨g, 0, cs.size⟩ (.cells true (l.map .u64)) := by
  have hb : ∃ t' fz, W.heap[g]? = some (.cells cs t' fz) := by
    simp only [World.var?, hg, Option.bind_some] at hv
    split at hv
    · rename_i hh
      simp only [Option.some.injEq] at hv
      subst hv
      exact ⟨_, _, hh⟩
    · cases hv
  obtain ⟨t', fz, hb⟩ := hb
  refine ⟨cs, t', fz, hb, rfl, fun i v hi => ?_, fun h => by cases h⟩
  obtain ⟨xs, m, rfl, hx1, hlen, hn, hel⟩ := DataW.trod_array ht hd
  rw [hx1] at hx
  simp only [DataW.agg.injEq] at hx
  rw [List.getElem?_map] at hi
  cases hl : l[i]? with
  | none => rw [hl] at hi; cases hi
  | some y =>
    rw [hl] at hi
    simp only [Option.map_some, Option.some.injEq] at hi
    subst hi
    have hxi : (xs.map (·.1))[i]? = some (.lit (.int .u64 (y.toNat : Int))) := by rw [hx, List.getElem?_map, hl]; rfl
    rw [List.getElem?_map] at hxi
    cases hxs : xs[i]? with
    | none => rw [hxs] at hxi; cases hxi
    | some z =>
      rw [hxs] at hxi
      simp only [Option.map_some, Option.some.injEq] at hxi
      have hin : i < k := by
        have := (List.getElem?_eq_some_iff.1 hxs).1
        omega
      have h1 := hel i hin
      rw [hxs, hc, Nat.mul_one] at h1
      obtain ⟨r, e1, e2, _⟩ := DataW.trod_int he h1
      rw [e2] at hxi
      simp only [DataW.lit.injEq, Lit.int.injEq, true_and] at hxi
      have h2 : cs.toList[i]? = some (.int .u64 r) := by
        have : (List.take 1 (cs.toList.drop i))[0]? = some (.int .u64 r) := by rw [e1]; rfl
        rw [List.getElem?_take_of_lt (by omega), List.getElem?_drop, Nat.add_zero] at this
        exact this
      refine ⟨.int .u64 r, by rw [Nat.zero_add]; simpa using h2, ?_⟩
      rw [hxi]
      exact .u64 y
end Go.Eng

/- What the table that the program's text lays gives the walks. -/
namespace Go.Proofs.YtaepfopmicnnbaaDoor
set_option linter.unusedVariables false
set_option linter.unusedSimpArgs false
open Go Go.Eng Go.ChangeShapes Go.WideShapes Go.ChangeAt Go.RowKit
set_option maxRecDepth 1000000
def laid1 : List (String × DataW Unit) := [("isthmus/sha.rounds", Rows.laid_isthmus_sha_rounds)]
theorem gTab : Tryd.prog.globalNamed "isthmus/sha.rounds" = some 0 := by kernel_rfl
theorem tTab : (Tryd.prog.globals[0]?).map (·.type) = some 26 := by kernel_rfl
theorem uTab : Tryd.prog.underlying 26 = some (.array 80 25) := by kernel_rfl
theorem uEl : Tryd.prog.underlying 25 = some (.int .u64) := by kernel_rfl
theorem door_met (os : Os) (args : Array Value) : laidMetH Tryd.prog laid1 ((World.doorLaid Tryd.prog 400 os).forCall (fun _ _ => 0) ⟨#[], args, []⟩).memory :=
  laidMetH_of_parts3 (fuel := 8) (laidMet_of_run' 8 (by kernel_rfl) (by kernel_rfl)) (by kernel_rfl) (by kernel_rfl)
theorem tabD {H : Type} : (Rows.laid_isthmus_sha_rounds : DataW H) = .agg (roundsL.map fun y => .lit (.int .u64 (y.toNat : Int))) := by kernel_rfl
theorem tabA : cellsU 80 kF = roundsL.map .u64 := by kernel_rfl
theorem of_laid {W : World} (h : laidMetH Tryd.prog laid1 W) : ∃ n, ∀ σ, ORel σ W ⟨0, 0, n⟩ (.cells true (cellsU 80 kF)) := by
  rw [MakeChecks.laidMetH_plain _ _ _ (by kernel_rfl)] at h
  obtain ⟨ps, ⟨g0, t0, cs0, f0, p0, q0, hg0, ht0, hv0, hd0, _⟩, _, _⟩ := h
  obtain rfl := Option.some.inj (gTab.symm.trans hg0)
  obtain rfl := Option.some.inj (tTab.symm.trans ht0)
  refine ⟨cs0.size, fun σ => ?_⟩
  rw [tabA]
  exact table_u64 hg0 hv0 uTab uEl (by kernel_rfl) hd0 tabD σ
/-- The names of the tables. -/
def sigT (n : Nat) : Sig := fun g => if g = 0 then some ⟨0, 0, n⟩ else none
theorem sigT_g (n : Nat) : GRel Tryd.prog (sigT n) := fun g hg => by
  have e1 : Tryd.prog.globals.size = 1 := gl
  have : g = 0 := by omega
  subst this
  exact ⟨n, rfl⟩
theorem sigT_fresh (n : Nat) : Fresh (sigT n) 1 := fun k hk => by
  unfold sigT
  rw [if_neg (by omega)]
/-- A law of plain arguments, where the table is as it is laid. -/
theorem law_calls_T {cs : CS} (hcs : CSOk Tryd.prog cs) {f : FuncId} {args : List AVal} (h : ∃ nn F, (run1 Tryd.prog cs nn F f args G0 1).map (·.1) = some (.bool true)) {args' : Array Value} {W : World} (hL : laidMetH Tryd.prog laid1 W) (hl : ∀ σ, LR σ args args') :
    Calls Tryd.prog f args' W fun r w' => r = .returned (.bool true) ∧ Grew W w' := by
  obtain ⟨nn, F, h⟩ := h
  obtain ⟨n, ho⟩ := of_laid hL
  refine (law_calls_H hcs hmix h (σ := sigT n) (fun k o hk => ?_) (sigT_g n) (sigT_fresh n) (hl _)).mono fun r w' h => ⟨h.1, h.2.1⟩
  unfold G0 at hk
  rcases beq_cases 0 k with ⟨e, hb⟩ | ⟨e, hb⟩
  · simp only [aget, hb, cond_true, Option.some.injEq] at hk
    subst hk
    subst e
    exact ⟨rfl, _, rfl, ho _⟩
  · simp only [aget, hb, cond_false] at hk
    cases hk
end Go.Proofs.YtaepfopmicnnbaaDoor
