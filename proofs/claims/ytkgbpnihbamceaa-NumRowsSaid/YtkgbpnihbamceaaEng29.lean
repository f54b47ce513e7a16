/- Engine, part 29: laws whose arguments are rows: opened out of the given reading, shut again. -/
import Derived.Test.YtkgbpnihbamceaaEng20
import Derived.Deep.Slices
import Derived.WideKeyArgs
namespace Go.Eng
set_option linter.unusedVariables false
set_option linter.unusedSimpArgs false
open Go Go.WideShapes Go.ChangeShapes

/-! ### what a row's element is made of -/
inductive Kd where
  | bool
  | int (k : IntKind)
  | str
def HasK : Kd → Value → Prop
  | .bool, v => ∃ b, v = .bool b
  | .int k, v => ∃ n, v = .int k n ∧ (Lit.int k n).wf = true
  | .str, v => ∃ s : ByteArray, v = .string s ∧ s.size ≤ maxLen
def KindsP : List Kd → List Value → Prop
  | [], [] => True
  | k :: ks, v :: vs => HasK k v ∧ KindsP ks vs
  | _, _ => False
theorem KindsP.append : ∀ {ks ks' : List Kd} {vs vs' : List Value}, KindsP ks vs → KindsP ks' vs' → KindsP (ks ++ ks') (vs ++ vs')
  | [], _, [], _, _, h => h
  | k :: ks, _, v :: vs, _, h, h' => ⟨h.1, h.2.append h'⟩
def kindsFs (rec : TypeId → Option (List Kd)) (P : Program) : List Field → Nat → Option (List Kd)
  | [], _ => some []
  | f :: l, a => match rec f.type with
    | some ks => cond (Nat.beq f.offset a && Nat.beq ks.length (P.cellsOf f.type)) (match kindsFs rec P l (a + ks.length) with
      | some r => some (ks ++ r)
      | none => none) none
    | none => none
def kindsOf (P : Program) : Nat → TypeId → Option (List Kd)
  | 0, _ => none
  | n + 1, t => match P.underlying t with
    | some .bool => some [.bool]
    | some (.int k) => some [.int k]
    | some .string => some [.str]
    | some (.struct fs) => match kindsFs (kindsOf P n) P fs.toList 0 with
      | some ks => cond (Nat.beq ks.length (P.cellsOf t)) (some ks) none
      | none => none
    | _ => none
section
variable {H : Type} {enc : TypeId × Value → H} {P : Program} {w : World} {base : Nat} {spare : Nat → Bool} {held : Bool}
theorem kindsFs_ok {rec : TypeId → Option (List Kd)} {m : Nat} {cs : List Value} (hr : ∀ t ks cs' x, rec t = some ks → DataW.trod enc P w base spare held m t cs' = some x → KindsP ks cs') :
    ∀ (l : List Field) (a : Nat) (ks : List Kd), kindsFs rec P l a = some ks → a + ks.length ≤ cs.length → (∀ f ∈ l, ∃ x, DataW.trod enc P w base spare held m f.type ((cs.drop f.offset).take (P.cellsOf f.type)) = some x) → KindsP ks ((cs.drop a).take ks.length)
  | [], a, ks, h, _, _ => by
    cases h
    rw [List.length_nil, List.take_zero]; trivial
  | f :: l, a, ks, h, hle, hx => by
    unfold kindsFs at h
    split at h
    · rename_i k1 hk1
      cases hc : (Nat.beq f.offset a && Nat.beq k1.length (P.cellsOf f.type)) with
      | false => rw [hc] at h; cases h
      | true =>
        rw [hc, cond_true] at h
        simp only [Bool.and_eq_true] at hc
        have e1 := Nat.eq_of_beq_eq_true hc.1
        have e2 := Nat.eq_of_beq_eq_true hc.2
        split at h
        · rename_i r hr2
          cases h
          obtain ⟨x, hx1⟩ := hx f (List.mem_cons_self ..)
          have h1 := hr _ _ _ _ hk1 hx1
          rw [e1, ← e2] at h1
          rw [List.length_append] at hle
          have h2 := kindsFs_ok hr l (a + k1.length) r hr2 (by omega) (fun g hg => hx g (List.mem_cons_of_mem _ hg))
          have := h1.append h2
          rw [List.length_append, List.take_add]
          rw [List.drop_drop]
          exact this
        · cases h
    · cases h
theorem kindsOf_ok : ∀ (n : Nat) (t : TypeId) (ks : List Kd), kindsOf P n t = some ks → ∀ (m : Nat) (cs : List Value) (x : DataW H × List MemPlace), DataW.trod enc P w base spare held m t cs = some x → KindsP ks cs
  | 0, _, _, h, _, _, _, _ => by cases h
  | n + 1, t, ks, h, m, cs, x, hx => by
    unfold kindsOf at h
    split at h
    · rename_i ht
      cases h
      obtain ⟨b, rfl, _⟩ := DataW.trod_bool ht hx
      exact ⟨⟨b, rfl⟩, trivial⟩
    · rename_i k ht
      cases h
      obtain ⟨z, rfl, _, hz⟩ := DataW.trod_int ht hx
      exact ⟨⟨z, rfl, hz⟩, trivial⟩
    · rename_i ht
      cases h
      obtain ⟨s, rfl, _, hs⟩ := DataW.trod_string ht hx
      exact ⟨⟨s, rfl, hs⟩, trivial⟩
    · rename_i fs ht
      split at h
      · rename_i ks' hk
        cases hc : Nat.beq ks'.length (P.cellsOf t) with
        | false => rw [hc] at h; cases h
        | true =>
          rw [hc] at h
          cases h
          have e := Nat.eq_of_beq_eq_true hc
          obtain ⟨xs, m', rfl, _, hl, hxl, hf⟩ := DataW.trod_struct ht hx
          have := kindsFs_ok (cs := cs) (m := m') (fun t ks cs' x h1 h2 => kindsOf_ok n t ks h1 m' cs' x h2) fs.toList 0 _ hk (by omega) (fun f hmem => by
            obtain ⟨i, hi⟩ := List.getElem?_of_mem hmem
            have hi2 : fs[i]? = some f := by simpa using hi
            have := hf i f hi2
            have hlt : i < xs.length := by rw [hxl]; exact (Array.getElem?_eq_some_iff.1 hi2).1
            exact ⟨xs[i], by rw [this]; simp [hlt]⟩)
          rw [List.drop_zero, e, ← hl, List.take_length] at this
          exact this
      · cases h
    · cases h
end
/-! ### a slice of such elements -/
structure RowAt (W : World) (ks : List Kd) (b o len cap : Nat) (c : Array Value) (t : TypeId) (fz : Nat × Nat) : Prop where
  blk : W.heap[b]? = some (.cells c t fz)
  fits : o + cap * ks.length ≤ c.size
  el : ∀ i, i < len → ∃ cs', cs'.length = ks.length ∧ (∀ j, j < ks.length → c[o + i * ks.length + j]? = cs'[j]?) ∧ KindsP ks cs'
theorem cellAt29 {W : World} {a : Addr} {v : Value} (h : W.cell? a = some v) : a.spot = none ∧ ∃ c t fz, W.heap[a.block]? = some (.cells c t fz) ∧ c[a.off]? = some v := by
  unfold World.cell? at h
  split at h
  · rename_i c t fz hb
    cases hs : a.spot with
    | none => rw [hs] at h; exact ⟨rfl, c, t, fz, hb, by simpa using h⟩
    | some s => rw [hs] at h; simp at h
  · cases h
theorem add_off (a : Addr) (i : Nat) : (a.add i).block = a.block ∧ (a.add i).off = a.off + i ∧ (a.spot = none → (a.add i).spot = none) ∧ ((a.add i).spot = none → i = 0 → a.spot = none) := by
  unfold Addr.add
  by_cases h : i = 0
  · subst h; simp
  · simp [h]
theorem open_flat {H : Type} {enc : TypeId × Value → H} {P : Program} {W : World} {t e : TypeId} (ht : P.underlying t = some (.slice e)) {n : Nat} {ks : List Kd} (hk : kindsOf P n e = some ks) (hc : P.cellsOf e = ks.length) (hpos : 0 < ks.length) {v : Value} {d : DataW H} {p : List MemPlace} {b0 : Nat}
    (hval : Value.okWide P W .any b0 t v) (h : DataW.Trod enc P W 0 (fun _ => true) true t v d p) :
    v = .slice none 0 0 ∨ ∃ b o len cap, v = .slice (some ⟨b, o, none⟩) len cap ∧ len ≤ cap ∧ cap ≤ maxLen ∧ (0 < len → ∃ c t' fz, RowAt W ks b o len cap c t' fz) := by
  obtain ⟨fuel, hf⟩ := h
  have hv : v.cells.toList = [v] ∨ ∃ cs, v = .agg cs := by
    cases v <;> first | exact .inl rfl | exact .inr ⟨_, rfl⟩
  unfold Value.okWide at hval
  rw [ht] at hval
  unfold Cell.okWide at hval
  rw [ht] at hval
  rcases hv with hv | ⟨cs, rfl⟩
  · rw [hv] at hf
    rcases Go.Deep.open_slice ht hf with ⟨h1, _⟩ | ⟨a, len, cap, m, n', D, Pl, h1, hb, hl, hm, hmm, _, hel⟩
    · left; simpa using h1
    · right
      simp only [List.cons.injEq, and_true] at h1
      subst h1
      unfold Cell.ok at hval
      rw [ht] at hval
      have hsp : a.spot = none := hval.2.2.2.1
      obtain ⟨b, o, sp⟩ := a
      cases hsp
      refine ⟨b, o, len, cap, rfl, hl, hm, fun hlen => ?_⟩
      simp only [if_true] at hmm
      subst hmm
      have cellAt : ∀ i, i < m → ∃ cs', cs'.length = ks.length ∧ (∀ j, j < ks.length → W.cell? ⟨b, o + i * ks.length + j, none⟩ = cs'[j]?) ∧ KindsP ks cs' := fun i hi => by
        obtain ⟨cs', g1, g2⟩ := hel i hi
        obtain ⟨_, g3, g4⟩ := World.cells?_some g1
        rw [hc] at g3 g4
        refine ⟨cs', g3, fun j hj => ?_, kindsOf_ok n e ks hk _ _ _ g2⟩
        rw [← g4 j hj]
        congr 1
        unfold Addr.add
        by_cases h1 : i * ks.length = 0 <;> by_cases h2 : j = 0 <;> simp [h1, h2]
      have first : ∃ c t' fz, W.heap[b]? = some (.cells c t' fz) := by
        obtain ⟨cs', g1, g2, _⟩ := cellAt 0 (by omega)
        have : (cs'[0]?).isSome = true := by simp [g1, hpos]
        rw [← g2 0 hpos] at this
        obtain ⟨v, hv⟩ := Option.isSome_iff_exists.1 this
        obtain ⟨_, c, t', fz, h3, _⟩ := cellAt29 hv
        exact ⟨c, t', fz, h3⟩
      obtain ⟨c, t', fz, hblk⟩ := first
      have cellIn : ∀ k v, W.cell? ⟨b, k, none⟩ = some v → c[k]? = some v := fun k v hv => by
        obtain ⟨_, c2, t2, fz2, h3, h4⟩ := cellAt29 hv
        rw [hblk] at h3
        cases h3
        exact h4
      refine ⟨c, t', fz, hblk, ?_, fun i hi => ?_⟩
      · obtain ⟨cs', g1, g2, _⟩ := cellAt (m - 1) (by omega)
        have : (cs'[ks.length - 1]?).isSome = true := by simp [g1]; omega
        rw [← g2 (ks.length - 1) (by omega)] at this
        obtain ⟨v, hv⟩ := Option.isSome_iff_exists.1 this
        have := (Array.getElem?_eq_some_iff.1 (cellIn _ _ hv)).1
        have e1 : m * ks.length = (m - 1) * ks.length + ks.length := by
          rw [← Nat.succ_mul]; congr 1; omega
        omega
      · obtain ⟨cs', g1, g2, g3⟩ := cellAt i (by omega)
        refine ⟨cs', g1, fun j hj => ?_, g3⟩
        have hj2 : j < cs'.length := by omega
        have := g2 j hj
        rw [List.getElem?_eq_getElem hj2] at this ⊢
        exact cellIn _ _ this
  · simp [Cell.ok, ht] at hval
/-- The elements as data of a type of one's own. -/
theorem row_obj {W : World} {ks : List Kd} {b o len cap : Nat} {c : Array Value} {t : TypeId} {fz : Nat × Nat} (h : RowAt W ks b o len cap c t fz) {E : Type} [Inhabited E] {cellsE : E → List AVal} (hE : ∀ x, (cellsE x).length = ks.length)
    (hK : ∀ cs', KindsP ks cs' → ∃ x : E, ∀ (j : Nat) u v, (cellsE x)[j]? = some u → cs'[j]? = some v → ∀ σ, VR σ u v) :
    ∃ l : List E, l.length = len ∧ ∀ σ, ORel σ W ⟨b, o, c.size⟩ (.cells true (l.flatMap cellsE)) := by
  have h1 : ∀ i, i < len → ∃ x : E, ∀ j, j < ks.length → ∃ v, c[o + i * ks.length + j]? = some v ∧ ∀ u, (cellsE x)[j]? = some u → ∀ σ, VR σ u v := fun i hi => by
    obtain ⟨cs', g1, g2, g3⟩ := h.el i hi
    obtain ⟨x, hx⟩ := hK cs' g3
    refine ⟨x, fun j hj => ?_⟩
    have hj2 : j < cs'.length := by omega
    exact ⟨cs'[j], by rw [g2 j hj]; exact List.getElem?_eq_getElem hj2, fun u hu => hx j u _ hu (List.getElem?_eq_getElem hj2)⟩
  obtain ⟨f, hf⟩ := Go.Deep.choose_lt h1
  refine ⟨(List.range len).map f, by simp, fun σ => ⟨c, t, fz, h.blk, rfl, ?_, fun h => by cases h⟩⟩
  have key : ∀ (n : Nat), n ≤ len → ∀ (i : Nat) v, (((List.range n).map f).flatMap cellsE)[i]? = some v → ∃ v', c[o + i]? = some v' ∧ VR σ v v' := by
    intro n
    induction n with
    | zero => intro _ i v hi; simp at hi
    | succ n ih =>
      intro hn i v hi
      have hlen : (((List.range n).map f).flatMap cellsE).length = n * ks.length := by
        have : ∀ (l : List E), (l.flatMap cellsE).length = l.length * ks.length := fun l => by
          induction l with
          | nil => simp
          | cons x l ih => rw [List.flatMap_cons, List.length_append, ih, hE, List.length_cons, Nat.succ_mul]; omega
        rw [this]; simp
      rw [List.range_succ, List.map_append, List.flatMap_append, List.getElem?_append, hlen] at hi
      split at hi
      · exact ih (by omega) i v hi
      · rename_i hge
        simp only [List.map_cons, List.map_nil, List.flatMap_cons, List.flatMap_nil, List.append_nil] at hi
        have hj : i - n * ks.length < ks.length := by
          have := (List.getElem?_eq_some_iff.1 hi).1
          rwa [hE (f n)] at this
        obtain ⟨v', g1, g2⟩ := hf n (by omega) _ hj
        refine ⟨v', ?_, g2 v hi σ⟩
        rw [show o + i = o + n * ks.length + (i - n * ks.length) by omega]
        exact g1
  exact key len (Nat.le_refl _)
theorem KindsP.cons {k : Kd} {ks : List Kd} {cs : List Value} (h : KindsP (k :: ks) cs) : ∃ v vs, cs = v :: vs ∧ HasK k v ∧ KindsP ks vs := by
  cases cs with
  | nil => exact h.elim
  | cons v vs => exact ⟨v, vs, rfl, h.1, h.2⟩
theorem KindsP.none {cs : List Value} (h : KindsP [] cs) : cs = [] := by
  cases cs with
  | nil => rfl
  | cons v vs => exact h.elim
inductive VRs : List AVal → List Value → Prop where
  | nil : VRs [] []
  | cons {u v us vs} (h : ∀ σ, VR σ u v) (t : VRs us vs) : VRs (u :: us) (v :: vs)
theorem VRs.get {us : List AVal} {vs : List Value} (h : VRs us vs) : ∀ (j : Nat) u v, us[j]? = some u → vs[j]? = some v → ∀ σ, VR σ u v := by
  induction h with
  | nil => intro j u v hj; simp at hj
  | cons h t ih =>
    intro j u v h1 h2 σ
    cases j with
    | zero => simp at h1 h2; subst h1 h2; exact h σ
    | succ j => exact ih j u v (by simpa using h1) (by simpa using h2) σ
/-! ### the call -/
def Still (W w' : World) : Prop := ∀ b, b < W.heap.size → w'.heap[b]? = W.heap[b]?
theorem hrel_ro {σ : Sig} {H : Heap} {w : World} (h : ∀ n o, H n = some o → o.ro = true ∧ ∃ p, σ n = some p ∧ ORel σ w p o) : HRel σ H w :=
  ⟨fun n o hn => (h n o hn).2, fun n m o o' p q hn hm _ _ _ => .inr ⟨(h n o hn).1, (h m o' hm).1⟩⟩
theorem law_calls_H {P : Program} {cs : CS} (hcs : CSOk P cs) (hm : P.follows .mixedOrders = true) {nn F : Nat} {f : FuncId} {args : List AVal} {H : HL} {fr : Nat} (h : (run1 P cs nn F f args H fr).map (·.1) = some (.bool true))
    {σ : Sig} {args' : Array Value} {w : World} (hro : ∀ n o, aget H n = some o → o.ro = true ∧ ∃ p, σ n = some p ∧ ORel σ w p o) (hg : GRel P σ) (hfr : Fresh σ fr) (hl : LR σ args args') :
    Calls P f args' w fun r w' => r = .returned (.bool true) ∧ Grew w w' ∧ Still w w' := by
  obtain ⟨r, hr, hrv⟩ := optMap h
  obtain ⟨v, H', fr'⟩ := r
  obtain ⟨fn, c, hf, hb, hrun⟩ := run1_some hr
  refine (runF_ok hcs hm hf hb hrun hl (hrel_ro hro) hg hfr).mono fun r w' ⟨σ', v', h1, h2, _, h4, _⟩ => ?_
  have hv : v = .bool true := hrv
  subst hv
  cases h2
  have hs : Still w w' := fun b hb => (h4.old b hb (by
    rintro ⟨n, o, p, g1, g2, _⟩
    rw [(hro n o g1).1] at g2
    cases g2)).1
  exact ⟨h1, grew_of h4.os h4.output h4.size hs, hs⟩
theorem args_stay {H : Type} {enc : TypeId × Value → H} {P : Program} (hl : laidOutB P = true) {W W' : World} (hs : Still W W') :
    ∀ {ts : List TypeId} {vs : List Value} {ds : List (DataW H)} {ps : List MemPlace}, (ts.all fun t => P.readableRec t && decide (t < P.types.size)) = true → DataW.TrodAll enc P W 0 (fun _ => true) true ts vs ds ps → (∀ p ∈ ps, p.block < W.heap.size) →
    ∀ sp : Nat → Bool, (∀ p ∈ ps, sp p.block = true) → DataW.TrodAll enc P W' 0 sp true ts vs ds ps
  | [], [], [], _, _, h, _, _, _ => h
  | t :: ts, v :: vs, d :: ds, ps, ht, ⟨p, q, h1, h2, e⟩, hlt, sp, hsp => by
    simp only [List.all_cons, Bool.and_eq_true, decide_eq_true_eq] at ht
    subst e
    have same : ∀ x : MemPlace, x.block < W.heap.size → W.sameAt W' x := fun x hx => by
      cases x with
      | cell b off =>
        show W'.cell? _ = W.cell? _
        unfold World.cell?
        rw [show W'.heap[(⟨b, off, none⟩ : Addr).block]? = W.heap[b]? from hs b hx]
      | map b => exact hs b hx
    exact ⟨p, q, Go.WideElems.Trod_stays hl ht.1.1 ht.1.2 h1 (fun x hx => same x (hlt x (List.mem_append_left _ hx))) (fun x hx => hsp x (List.mem_append_left _ hx)),
      args_stay hl hs (by simpa using ht.2) h2 (fun x hx => hlt x (List.mem_append_right _ hx)) sp (fun x hx => hsp x (List.mem_append_right _ hx)), rfl⟩
theorem sig0_fresh (P : Program) : Fresh (sig0 P) P.globals.size := fun n hn => by
  unfold sig0
  rw [if_neg (by omega)]
theorem fresh_set {σ : Sig} {n : Nat} (h : Fresh σ n) (p : Place) : Fresh (σ.set n p) (n + 1) := fun m hm => by
  rw [Sig.set_other σ p (by omega)]
  exact h m (by omega)
theorem grel_set {P : Program} {σ : Sig} (h : GRel P σ) {n : Nat} (hn : P.globals.size ≤ n) (p : Place) : GRel P (σ.set n p) := fun g hg => by
  rw [Sig.set_other σ p (by omega)]
  exact h g hg
/-- A law with one row among its arguments. -/
theorem rows_calls {P : Program} {cs : CS} (hcs : CSOk P cs) (hm : P.follows .mixedOrders = true) {nn F : Nat} {f : FuncId} {ks : List Kd} {E : Type} [Inhabited E] {cellsE : E → List AVal} (hE : ∀ x, (cellsE x).length = ks.length)
    (hK : ∀ cs', KindsP ks cs' → ∃ x : E, ∀ (j : Nat) u v, (cellsE x)[j]? = some u → cs'[j]? = some v → ∀ σ, VR σ u v)
    {args : AVal → List AVal} {args' : Value → Array Value} (harg : ∀ σ u u', VR σ u u' → LR σ (args u) (args' u')) {G : Nat} (hG : P.globals.size = G)
    (hn : (run1 P cs nn F f (args .nilSlice) [] G).map (·.1) = some (.bool true))
    (he : (run1 P cs nn F f (args (.slice G 0 0 ks.length)) [] (G + 1)).map (·.1) = some (.bool true))
    (hl : ∀ l : List E, (run1 P cs nn F f (args (.slice G 0 l.length ks.length)) [(G, .cells true (l.flatMap cellsE))] (G + 1)).map (·.1) = some (.bool true))
    {W : World} {v : Value} (ho : v = .slice none 0 0 ∨ ∃ b o len cap, v = .slice (some ⟨b, o, none⟩) len cap ∧ len ≤ cap ∧ cap ≤ maxLen ∧ (0 < len → ∃ c t' fz, RowAt W ks b o len cap c t' fz)) :
    Calls P f (args' v) W fun r w' => r = .returned (.bool true) ∧ Grew W w' ∧ Still W w' := by
  subst hG
  rcases ho with rfl | ⟨b, o, len, cap, rfl, h1, h2, h3⟩
  · exact law_calls_H hcs hm hn (fun n o h => by simp [aget] at h) (sig0_g P) (sig0_fresh P) (harg _ _ _ .nilSlice)
  · by_cases h0 : len = 0
    · subst h0
      exact law_calls_H hcs hm he (σ := (sig0 P).set P.globals.size ⟨b, o, o + cap * ks.length⟩) (fun n o h => by simp [aget] at h) (grel_set (sig0_g P) (Nat.le_refl _) _) (fresh_set (sig0_fresh P) _)
        (harg _ _ _ (.slice (Sig.set_same _ _ _) (.inl rfl) h1 (Nat.le_refl _)))
    · obtain ⟨c, t', fz, hr⟩ := h3 (by omega)
      obtain ⟨l, hll, hobj⟩ := row_obj hr hE hK
      subst hll
      refine law_calls_H hcs hm (hl l) (σ := (sig0 P).set P.globals.size ⟨b, o, c.size⟩) (fun n ob h => ?_) (grel_set (sig0_g P) (Nat.le_refl _) _) (fresh_set (sig0_fresh P) _)
        (harg _ _ _ (.slice (Sig.set_same _ _ _) (.inr (by simp)) h1 hr.fits))
      rcases beq_cases P.globals.size n with ⟨e, hb⟩ | ⟨e, hb⟩
      · simp only [aget, hb, cond_true, Option.some.injEq] at h
        subst h
        exact ⟨rfl, _, by rw [← e]; exact Sig.set_same _ _ _, hobj _⟩
      · simp only [aget, hb, cond_false] at h
        cases h
end Go.Eng
