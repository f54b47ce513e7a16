/- The given statement: for every input the law returns true, and each argument reads as it read. No condition. -/
import Derived.Test.YtjdhndicgifnbaaRows
import Derived.Test.YtjdhndicgifnbaaQ12
import Derived.Test.YtjdhndicgifnbaaQ11
import Derived.SizedLaws
import Derived.WalkKit
import Derived.ProofKit
import Derived.OpenShut
import Derived.ShutString
namespace Go.Proofs.Ytjdhndicgifnbaa.tunnelOnce
open Go Go.Eng Go.ChangeShapes Go.WideShapes Go.ChangeAt Go.RowKit
open Go.ChangeMaps (open_string shut_string)
set_option linter.unusedVariables false
set_option linter.unusedSimpArgs false
set_option maxRecDepth 100000
theorem own : ownKnob Try.prog.godebug = none := by kernel_rfl
theorem laid : laidOutB Try.prog = true := by kernel_rfl
theorem flat_arg {H : Type} {enc : TypeId × Value → H} {P : Program} {W : World} {t : TypeId} {n : Nat} {ks : List Kd} (hk : kindsOf P n t = some ks) {v : Value} {d : DataW H} {p : List MemPlace} (h : DataW.Trod enc P W 0 (fun _ => true) true t v d p) : KindsP ks v.cells.toList := by
  obtain ⟨fuel, hf⟩ := h
  exact kindsOf_ok n t ks hk _ _ _ hf
theorem agg_of {v : Value} {a b : Kd} {ks : List Kd} (h : KindsP (a :: b :: ks) v.cells.toList) : ∃ cs, v = .agg cs ∧ KindsP (a :: b :: ks) cs.toList := by
  cases v with
  | agg cs => exact ⟨cs, rfl, h⟩
  | _ => exact absurd h (by simp [Value.cells, KindsP])
theorem vr_agg {us : List AVal} {cs : Array Value} (h : VRs us cs.toList) (hl : us.length = cs.size) (σ : Sig) : VR σ (.agg us) (.agg cs) :=
  .agg hl fun i u v h1 h2 => h.get i u v h1 (by simpa using h2) σ
theorem lim_arg {v : Value} (h : KindsP [.int .u64, .int .u64, .int .u64, .int .u64, .int .i64] v.cells.toList) : ∃ rc ct rk lf sz, ∀ σ, VR σ (Go.Proofs.Ytjdhndicgifnbaa.Tun.limA rc ct rk lf sz) v := by
  obtain ⟨cs, rfl, hk⟩ := agg_of h
  obtain ⟨c0, r0, e0, ⟨s0, rfl, w0⟩, k1⟩ := hk.cons
  obtain ⟨c1, r1, e1, ⟨s1, rfl, w1⟩, k2⟩ := k1.cons
  obtain ⟨c2, r2, e2, ⟨s2, rfl, w2⟩, k3⟩ := k2.cons
  obtain ⟨c3, r3, e3, ⟨s3, rfl, w3⟩, k4⟩ := k3.cons
  obtain ⟨c4, r4, e4, ⟨s4, rfl, _⟩, k5⟩ := k4.cons
  have e5 := k5.none
  subst e5 e4 e3 e2 e1
  obtain ⟨x0, hx0⟩ := vr_u64 w0
  obtain ⟨x1, hx1⟩ := vr_u64 w1
  obtain ⟨x2, hx2⟩ := vr_u64 w2
  obtain ⟨x3, hx3⟩ := vr_u64 w3
  refine ⟨x0, x1, x2, x3, s4, vr_agg ?_ ?_⟩
  · rw [e0]
    exact .cons hx0 (.cons hx1 (.cons hx2 (.cons hx3 (.cons (fun σ => .int .i64 s4) .nil))))
  · rw [← Array.length_toList, e0]; rfl
theorem mem_all {H : Type} {P : Program} {e : TypeId} {n : Nat} {x : DataW H} (hn : n ∈ x.weights P e) : ∀ {l : List (DataW H)}, x ∈ l → n ∈ DataW.weightsAll P e l
  | [], h => by cases h
  | y :: l, h => by
    unfold DataW.weightsAll
    rcases List.mem_cons.1 h with rfl | h
    · exact List.mem_append.2 (.inl hn)
    · exact List.mem_append.2 (.inr (mem_all hn h))
/-- How long the texts of a row are. -/
theorem txt_bound {H : Type} {enc : TypeId × Value → H} {P : Program} {W : World} {t e : TypeId} (ht : P.underlying t = some (.slice e)) (he : P.underlying e = some .string) (hc : P.cellsOf e = 1) {b o len cap : Nat} {d : DataW H} {p : List MemPlace}
    (h : DataW.Trod enc P W 0 (fun _ => true) true t (.slice (some ⟨b, o, none⟩) len cap) d p) (hz : ∀ n, n ∈ d.weights P t → n ≤ reachBytes) {c : Array Value} {t' : TypeId} {fz : Nat × Nat} (hb : W.heap[b]? = some (.cells c t' fz)) :
    ∀ i, i < len → ∀ s : ByteArray, c[o + i]? = some (.string s) → s.size ≤ reachBytes := by
  intro i hi s hs
  obtain ⟨fuel, hf⟩ := h
  rcases Go.Deep.open_slice1 ht hc hf with ⟨h1, _⟩ | ⟨a, len', cap', m, n', V, D, Pl, h1, _, hl, hm, hmm, hx, hel⟩
  · exact absurd h1 (by simp [Value.cells])
  · have h1' : (Value.slice (some ⟨b, o, none⟩) len cap) = .slice (some a) len' cap' := by
      have : (Value.slice (some ⟨b, o, none⟩) len cap).cells.toList = [.slice (some ⟨b, o, none⟩) len cap] := rfl
      rw [this] at h1
      simpa using h1
    cases h1'
    have hm' : i < m := by
      rw [hmm, if_pos rfl]; omega
    obtain ⟨g1, g2⟩ := hel i hm'
    obtain ⟨_, c2, t2, fz2, g3, g4⟩ := cellAt29 g1
    obtain ⟨a1, a2, _, _⟩ := add_off (⟨b, o, none⟩ : Addr) i
    rw [a1] at g3
    rw [hb] at g3
    cases g3
    rw [a2] at g4
    rw [hs] at g4
    have hV : Value.string s = V i := Option.some.inj g4
    obtain ⟨s', e1, e2, _⟩ := DataW.trod_string he g2
    have e3 : V i = .string s' := by simpa using e1
    rw [e3] at hV
    cases hV
    have e4 : D i = .lit (.string s.data.toList) := by
      have := congrArg Prod.fst e2
      exact this
    have ed : d = .slice ((List.range len).map D) ((List.range (m - len)).map fun j => D (len + j)) := congrArg Prod.fst hx
    have hw : s.data.toList.length ∈ d.weights P t := by
      rw [ed]
      unfold DataW.weights
      rw [ht]
      refine List.mem_cons_of_mem _ (List.mem_append.2 (.inl (mem_all (x := D i) ?_ (List.mem_map.2 ⟨i, List.mem_range.2 hi, rfl⟩))))
      rw [e4]
      simp [DataW.weights]
    have := hz _ hw
    rw [Array.length_toList] at this
    exact this
theorem flat_str (l : List (List UInt8)) : l.flatMap (fun x => [AVal.str x]) = l.map .str := by
  induction l with
  | nil => rfl
  | cons a l ih => rw [List.flatMap_cons, ih]; rfl
theorem flat_u8 (l : List UInt8) : l.flatMap (fun x => [AVal.u8 x]) = l.map .u8 := by
  induction l with
  | nil => rfl
  | cons a l ih => rw [List.flatMap_cons, ih]; rfl
/-- A row of bytes, as it is handed in. -/
theorem come_row {W : World} {v : Value} (ho : v = .slice none 0 0 ∨ ∃ b o len cap, v = .slice (some ⟨b, o, none⟩) len cap ∧ len ≤ cap ∧ cap ≤ maxLen ∧ (0 < len → ∃ c t' fz, RowAt W [.int .u8] b o len cap c t' fz)) :
    ∃ (r : Go.Proofs.Ytjdhndicgifnbaa.Tun.RowV) (p : Eng.Place), ∀ σ : Sig, σ 1 = some p → VR σ (Go.Proofs.Ytjdhndicgifnbaa.Tun.cvA r) v ∧ ∀ n ob, aget (Go.Proofs.Ytjdhndicgifnbaa.Tun.cH r) n = some ob → n = 1 ∧ ob.ro = true ∧ ORel σ W p ob := by
  rcases ho with rfl | ⟨b, o, len, cap, rfl, h1, h2, h3⟩
  · exact ⟨.nil, ⟨0, 0, 0, none⟩, fun σ _ => ⟨.nilSlice, fun n ob h => by cases h⟩⟩
  · by_cases h0 : len = 0
    · subst h0
      exact ⟨.emp, ⟨b, o, o + cap * 1, none⟩, fun σ hσ => ⟨.slice hσ (.inl rfl) h1 (Nat.le_refl _), fun n ob h => by cases h⟩⟩
    · obtain ⟨c, t', fz, hr⟩ := h3 (by omega)
      obtain ⟨l, hll, hobj⟩ := row_obj hr (E := UInt8) (cellsE := fun x => [.u8 x]) (fun _ => rfl) fun cs' hk => by
        obtain ⟨_, _, rfl, ⟨s0, rfl, w0⟩, k1⟩ := hk.cons
        obtain ⟨y, hy⟩ := vr_u8 w0
        obtain rfl := k1.none
        exact ⟨y, VRs.get (.cons hy .nil)⟩
      subst hll
      refine ⟨.row l, ⟨b, o, c.size, none⟩, fun σ hσ => ⟨.slice hσ (.inr (by simp)) h1 hr.fits, fun n ob h => ?_⟩⟩
      simp only [Go.Proofs.Ytjdhndicgifnbaa.Tun.cH, aget] at h
      rcases beq_cases 1 n with ⟨e, hb⟩ | ⟨e, hb⟩ <;> rw [hb] at h <;> simp only [cond_true, cond_false] at h
      · simp only [Option.some.injEq] at h
        subst h
        refine ⟨e.symm, rfl, ?_⟩
        have := hobj σ
        rw [flat_u8] at this
        exact this
      · cases h
/-- A row of texts, as it is handed in. -/
theorem texts_row {W : World} {v : Value} (ho : v = .slice none 0 0 ∨ ∃ b o len cap, v = .slice (some ⟨b, o, none⟩) len cap ∧ len ≤ cap ∧ cap ≤ maxLen ∧ (0 < len → ∃ c t' fz, RowAt W [.str] b o len cap c t' fz))
    (hs : ∀ b o len cap c t' fz, v = .slice (some ⟨b, o, none⟩) len cap → W.heap[b]? = some (.cells c t' fz) → ∀ i, i < len → ∀ s : ByteArray, c[o + i]? = some (.string s) → s.size ≤ reachBytes) :
    (∃ (b : Bool) (p : Eng.Place), ∀ σ : Sig, σ 0 = some p → VR σ (Go.Proofs.Ytjdhndicgifnbaa.Tun.tvA b) v) ∨
    ∃ (ts : List (List UInt8)) (p : Eng.Place), ts ≠ [] ∧ ts.length ≤ 9223372036854775807 ∧ (∀ x, x ∈ ts → x.length ≤ 4611686018427387904) ∧ ∀ σ : Sig, σ 0 = some p → VR σ (.slice 0 0 ts.length 1) v ∧ ORel σ W p (.cells true (ts.map .str)) := by
  rcases ho with rfl | ⟨b, o, len, cap, rfl, h1, h2, h3⟩
  · exact .inl ⟨true, ⟨0, 0, 0, none⟩, fun σ _ => .nilSlice⟩
  · by_cases h0 : len = 0
    · subst h0
      exact .inl ⟨false, ⟨b, o, o + cap * 1, none⟩, fun σ hσ => .slice hσ (.inl rfl) h1 (Nat.le_refl _)⟩
    · right
      obtain ⟨c, t', fz, hr⟩ := h3 (by omega)
      obtain ⟨l, hll, hobj⟩ := row_obj hr (E := List UInt8) (cellsE := fun x => [.str x]) (fun _ => rfl) fun cs' hk => by
        obtain ⟨_, _, rfl, ⟨s0, rfl, w0⟩, k1⟩ := hk.cons
        obtain rfl := k1.none
        exact ⟨s0.data.toList, VRs.get (.cons (fun σ => vr_str σ s0) .nil)⟩
      subst hll
      have hb : maxLen ≤ 9223372036854775807 := by decide
      refine ⟨l, ⟨b, o, c.size, none⟩, fun e => h0 (by rw [e]; rfl), by omega, fun x hx => ?_, fun σ hσ => ⟨.slice hσ (.inr (by simp)) h1 hr.fits, ?_⟩⟩
      · obtain ⟨i, hi⟩ := List.getElem?_of_mem hx
        have hil := (List.getElem?_eq_some_iff.1 hi).1
        have := hobj (fun _ => none)
        rw [flat_str] at this
        obtain ⟨c', t2, fz2, g1, _, g3, _⟩ := this
        have g1' : W.heap[b]? = some (.cells c' t2 fz2) := g1
        rw [hr.blk] at g1'
        cases g1'
        obtain ⟨v', k1, k2⟩ := g3 i (.str x) (by rw [List.getElem?_map, hi]; rfl)
        cases k2
        have := hs b o _ cap c t' fz rfl hr.blk i hil _ k1
        have hsz : (⟨x.toArray⟩ : ByteArray).size = x.length := by
          show x.toArray.size = x.length
          simp
        rw [hsz] at this
        have hrb : reachBytes ≤ 4611686018427387904 := by decide
        omega
      · have := hobj σ
        rw [flat_str] at this
        exact this
theorem walk (v0 v1 v2 : Value) {rc ct rk lf : UInt64} {sz : Int} (h0 : ∀ σ, VR σ (Go.Proofs.Ytjdhndicgifnbaa.Tun.limA rc ct rk lf sz) v0) (a3 : Int) (w3 : (Lit.int .u64 a3).wf = true) (W : World)
    (ho1 : v1 = .slice none 0 0 ∨ ∃ b o len cap, v1 = .slice (some ⟨b, o, none⟩) len cap ∧ len ≤ cap ∧ cap ≤ maxLen ∧ (0 < len → ∃ c t' fz, RowAt W [.str] b o len cap c t' fz))
    (hs : ∀ b o len cap c t' fz, v1 = .slice (some ⟨b, o, none⟩) len cap → W.heap[b]? = some (.cells c t' fz) → ∀ i, i < len → ∀ s : ByteArray, c[o + i]? = some (.string s) → s.size ≤ reachBytes)
    (ho2 : v2 = .slice none 0 0 ∨ ∃ b o len cap, v2 = .slice (some ⟨b, o, none⟩) len cap ∧ len ≤ cap ∧ cap ≤ maxLen ∧ (0 < len → ∃ c t' fz, RowAt W [.int .u8] b o len cap c t' fz)) :
    Calls Try.prog 4 #[v0, v1, v2, .int .u64 a3] W fun e w' => e = .returned (.bool true) ∧ Grew W w' ∧ Still W w' := by
  obtain ⟨x3, hx3⟩ := vr_u64 w3
  obtain ⟨r, p1, hr⟩ := come_row ho2
  have gs : Try.prog.globals.size = 0 := Go.Proofs.Ytjdhndicgifnbaa.Tun.gl
  have setup : ∀ p0 : Eng.Place, ∃ σ : Sig, σ 0 = some p0 ∧ σ 1 = some p1 ∧ GRel Try.prog σ ∧ Fresh σ 2 := fun p0 => by
    have f0 : Fresh (sig0 Try.prog) 0 := by have := sig0_fresh Try.prog; rw [gs] at this; exact this
    refine ⟨((sig0 Try.prog).set 0 p0).set 1 p1, ?_, Sig.set_same _ _ _, grel_set (grel_set (sig0_g _) (by omega) _) (by omega) _, fresh_set (fresh_set f0 p0) p1⟩
    rw [Sig.set_other _ _ (by omega)]
    exact Sig.set_same _ _ _
  rcases texts_row ho1 hs with ⟨b, p0, ht⟩ | ⟨ts, p0, hne, hlen, hb, ht⟩
  · obtain ⟨σ, s0, s1, sg, sf⟩ := setup p0
    obtain ⟨nn, F, hrun⟩ := Go.Proofs.Ytjdhndicgifnbaa.Tun.run4e (v := r) (now := x3) (rc := rc) (ct := ct) (rk := rk) (lf := lf) (sz := sz) b
    obtain ⟨c1, c2⟩ := hr σ s1
    exact law_calls_H Go.Proofs.Ytjdhndicgifnbaa.Tun.csL_ok Go.Proofs.Ytjdhndicgifnbaa.Tun.hmix hrun (fun n ob h => by
      obtain ⟨rfl, e1, e2⟩ := c2 n ob h
      exact ⟨e1, _, s1, e2⟩) sg sf (.cons (h0 σ) (.cons (ht σ s0) (.cons c1 (.cons (hx3 σ) (.nil _)))))
  · obtain ⟨σ, s0, s1, sg, sf⟩ := setup p0
    obtain ⟨nn, F, hrun⟩ := Go.Proofs.Ytjdhndicgifnbaa.Tun.run4f (v := r) (ts := ts) (now := x3) (rc := rc) (ct := ct) (rk := rk) (lf := lf) (sz := sz) hne hlen hb
    obtain ⟨c1, c2⟩ := hr σ s1
    obtain ⟨d1, d2⟩ := ht σ s0
    exact law_calls_H Go.Proofs.Ytjdhndicgifnbaa.Tun.csL_ok Go.Proofs.Ytjdhndicgifnbaa.Tun.hmix hrun (fun n ob h => by
      have h' : aget ((0, AObj.cells true (ts.map .str)) :: Go.Proofs.Ytjdhndicgifnbaa.Tun.cH r) n = some ob := h
      simp only [aget] at h'
      rcases beq_cases 0 n with ⟨e, hb⟩ | ⟨e, hb⟩ <;> rw [hb] at h' <;> simp only [cond_true, cond_false] at h'
      · simp only [Option.some.injEq] at h'
        subst h' e
        exact ⟨rfl, _, s0, d2⟩
      · obtain ⟨rfl, e1, e2⟩ := c2 n ob h'
        exact ⟨e1, _, s1, e2⟩) sg sf (.cons (h0 σ) (.cons d1 (.cons c1 (.cons (hx3 σ) (.nil _)))))
theorem lifted (os : Os) (started : os.Started) (H : Type) (enc : TypeId × Value → H) :
    ReturnsInHanded {} Try.checked os 4 .any (Rows.tunnelOnceSpec.pre6 enc Try.prog Try.f4 Rows.tunnelOnceRow.domain false) (Rows.tunnelOnceSpec.post enc Try.prog Try.f4 false true false false) := by
  refine returnsInHanded_of_change_sized (C := Try.checked) own started (by kernel_rfl) Try.func4
    (ChangeSpec.witness6 (enc := enc) (C := Try.checked) false ⟨#[], #[.agg #[.int .u64 0, .int .u64 0, .int .u64 0, .int .u64 0, .int .i64 0], .slice none 0 0, .slice none 0 0, .int .u64 0], []⟩ 8 (by kernel_rfl) (by kernel_rfl) (by kernel_rfl) (by kernel_rfl)) ?_
  intro W base args ds gs before hval0 hW hcnd hz _
  have hval : ∀ (j : Nat) t v, Try.f4.params[j]? = some t → args[j]? = some v → Value.okWide Try.prog W .any base t v := hval0
  have hW' := hW
  obtain ⟨p, q, hA0, hV, rfl, hfz, hnd⟩ := hW
  have hA1 := hA0
  have hA : DataW.TrodAll enc Try.prog W 0 (fun _ => true) true Try.f4.params.toList args.toList ds p := hA0
  rw [Try.params4] at hA hval
  obtain ⟨v0, vs0, d0, ds0, p0, q0, hargs, rfl, rfl, h0, r0⟩ := trodAll_cons hA
  obtain ⟨v1, vs1, d1, ds1, p1, q1, rfl, rfl, rfl, h1, r1⟩ := trodAll_cons r0
  obtain ⟨v2, vs2, d2, ds2, p2, q2, rfl, rfl, rfl, h2, r2⟩ := trodAll_cons r1
  obtain ⟨v3, vs3, d3, ds3, p3, q3, rfl, rfl, rfl, h3, r3⟩ := trodAll_cons r2
  obtain ⟨rfl, rfl, rfl⟩ := trodAll_nil r3
  obtain rfl : args = #[v0, v1, v2, v3] := by cases args; simp_all
  obtain ⟨rfl, rfl⟩ := trodVars_none hV
  obtain ⟨rc, ct, rk, lf, sz, e0⟩ := lim_arg (flat_arg (n := 20) (by kernel_rfl) h0)
  have ho1 := open_flat Try.underlying54 (n := 20) (ks := [.str]) (by kernel_rfl) (by kernel_rfl) (by decide) (hval 1 54 v1 rfl rfl) h1
  have ho2 := open_flat Try.underlying55 (n := 20) (ks := [.int .u8]) (by kernel_rfl) (by kernel_rfl) (by decide) (hval 2 55 v2 rfl rfl) h2
  obtain ⟨a3, rfl, rfl, rfl, w3⟩ := open_int Try.underlying24 (hval 3 24 v3 rfl rfl) h3
  have hz1 : ∀ n, n ∈ d1.weights Try.prog 54 → n ≤ reachBytes := fun n hn => by
    have := List.all_eq_true.1 hz _ (DataW.weights_mem_each (j := 1) (t := 54) (by kernel_rfl) rfl n hn)
    simpa using this
  refine (walk v0 v1 v2 e0 a3 w3 W ho1 (fun b o len cap c t' fz hv hb => by
    subst hv
    exact txt_bound Try.underlying54 (by kernel_rfl) (by kernel_rfl) h1 hz1 hb) ho2).mono fun e W' ⟨he, hg, hs⟩ => ?_
  subst he
  exact ⟨_, rfl, Go.Eng.post_of_grew (pv := []) hW' (fun _ _ _ => (trodAll_cons_mk (shut_bool Try.underlying4 _) trodAll_mk0)) (fun sp hsp => args_stay laid hs (by kernel_rfl) hA1 (fun x hx => hW'.lt x (List.mem_append_left _ hx)) sp (fun x hx => hsp x (List.mem_append_left _ hx))) (fun _ _ => rfl) rfl
    hg (ok_one (by kernel_rfl) rfl (okWide_bool_mk Try.underlying4 _))⟩
theorem over : Rows.tunnelOnceRow.holds Try.pinned (OpenSpec.ofChange Rows.tunnelOnceSpec) :=
  OpenClaim.holds_of_wide 4 Try.f4 rfl rfl rfl rfl rfl rfl rfl ⟨rfl, rfl, rfl, rfl, rfl⟩ rfl rfl rfl rfl rfl (by kernel_rfl) Try.func4 (by kernel_rfl)
    (of_decide_eq_true (by kernel_rfl)) (by unfold Func.isWrapper; first | (rw [if_pos (by decide +kernel)]; kernel_rfl) | (rw [if_neg (by decide +kernel)]; exact ⟨rfl, rfl⟩))
    (fun os started H enc _ => lifted os started H enc)
theorem proved : Rows.TunnelOnceSaid :=
  over
end Go.Proofs.Ytjdhndicgifnbaa.tunnelOnce
