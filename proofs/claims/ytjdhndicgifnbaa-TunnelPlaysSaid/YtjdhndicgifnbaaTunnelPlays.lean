/- The given statement: for every input the law returns true, and each argument reads as it read. No condition. -/
import Derived.Test.YtjdhndicgifnbaaRows
import Derived.Test.YtjdhndicgifnbaaP15
import Derived.Test.YtjdhndicgifnbaaP13
import Derived.Test.YtjdhndicgifnbaaP14
import Derived.WalkKit
import Derived.ProofKit
import Derived.OpenShut
import Derived.ShutString
namespace Go.Proofs.Ytjdhndicgifnbaa.tunnelPlays
open Go Go.Eng Go.ChangeShapes Go.WideShapes Go.ChangeAt Go.RowKit
open Go.ChangeMaps (open_string shut_string)
set_option linter.unusedVariables false
set_option linter.unusedSimpArgs false
set_option maxRecDepth 100000
theorem own : ownKnob Try.prog.godebug = none := by kernel_rfl
theorem laid : laidOutB Try.prog = true := by kernel_rfl
/-- A flat argument's cells are of their kinds. -/
theorem flat_arg {H : Type} {enc : TypeId × Value → H} {P : Program} {W : World} {t : TypeId} {n : Nat} {ks : List Kd} (hk : kindsOf P n t = some ks) {v : Value} {d : DataW H} {p : List MemPlace} (h : DataW.Trod enc P W 0 (fun _ => true) true t v d p) : KindsP ks v.cells.toList := by
  obtain ⟨fuel, hf⟩ := h
  exact kindsOf_ok n t ks hk _ _ _ hf
theorem agg_of {v : Value} {a b : Kd} {ks : List Kd} (h : KindsP (a :: b :: ks) v.cells.toList) : ∃ cs, v = .agg cs ∧ KindsP (a :: b :: ks) cs.toList := by
  cases v with
  | agg cs => exact ⟨cs, rfl, h⟩
  | _ => exact absurd h (by simp [Value.cells, KindsP])
theorem vr_agg {us : List AVal} {cs : Array Value} (h : VRs us cs.toList) (hl : us.length = cs.size) (σ : Sig) : VR σ (.agg us) (.agg cs) :=
  .agg hl fun i u v h1 h2 => h.get i u v h1 (by simpa using h2) σ
theorem got_arg {v : Value} (h : KindsP [.str, .str, .str, .str, .str] v.cells.toList) : ∃ g1 g2 g3 g4 g5, ∀ σ, VR σ (Go.Proofs.Ytjdhndicgifnbaa.Tun.gotA g1 g2 g3 g4 g5) v := by
  obtain ⟨cs, rfl, hk⟩ := agg_of h
  obtain ⟨c0, r0, e0, ⟨s0, rfl, _⟩, k1⟩ := hk.cons
  obtain ⟨c1, r1, e1, ⟨s1, rfl, _⟩, k2⟩ := k1.cons
  obtain ⟨c2, r2, e2, ⟨s2, rfl, _⟩, k3⟩ := k2.cons
  obtain ⟨c3, r3, e3, ⟨s3, rfl, _⟩, k4⟩ := k3.cons
  obtain ⟨c4, r4, e4, ⟨s4, rfl, _⟩, k5⟩ := k4.cons
  have e5 := k5.none
  subst e5 e4 e3 e2 e1
  refine ⟨s0.data.toList, s1.data.toList, s2.data.toList, s3.data.toList, s4.data.toList, vr_agg ?_ ?_⟩
  · rw [e0]
    exact .cons (fun σ => vr_str σ s0) (.cons (fun σ => vr_str σ s1) (.cons (fun σ => vr_str σ s2) (.cons (fun σ => vr_str σ s3) (.cons (fun σ => vr_str σ s4) .nil))))
  · rw [← Array.length_toList, e0]; rfl
theorem lim_arg {v : Value} (h : KindsP [.int .u64, .int .u64, .int .u64, .int .u64, .int .i64] v.cells.toList) : ∃ rc ct rk lf sz, ∀ σ, VR σ (Go.Proofs.Ytjdhndicgifnbaa.Tun.limA rc ct rk lf sz) v := by
  obtain ⟨cs, rfl, hk⟩ := agg_of h
  obtain ⟨c0, r0, e0, ⟨s0, rfl, w0⟩, k1⟩ := hk.cons
  obtain ⟨c1, r1, e1, ⟨s1, rfl, w1⟩, k2⟩ := k1.cons
  obtain ⟨c2, r2, e2, ⟨s2, rfl, w2⟩, k3⟩ := k2.cons
  obtain ⟨c3, r3, e3, ⟨s3, rfl, w3⟩, k4⟩ := k3.cons
  obtain ⟨c4, r4, e4, ⟨s4, rfl, _⟩, k5⟩ := k4.cons
  have e5 := k5.none
  subst e5 e4 e3 e2 e1
  obtain ⟨x0, hx0⟩ := vr_u64 w0
  obtain ⟨x1, hx1⟩ := vr_u64 w1
  obtain ⟨x2, hx2⟩ := vr_u64 w2
  obtain ⟨x3, hx3⟩ := vr_u64 w3
  refine ⟨x0, x1, x2, x3, s4, vr_agg ?_ ?_⟩
  · rw [e0]
    exact .cons hx0 (.cons hx1 (.cons hx2 (.cons hx3 (.cons (fun σ => .int .i64 s4) .nil))))
  · rw [← Array.length_toList, e0]; rfl
def El : Type := {x : Go.Proofs.Ytjdhndicgifnbaa.Tun.Stp // x.s.length ≤ maxLen}
instance : Inhabited El := ⟨⟨⟨0, 0, [], 0, 0, 0⟩, Nat.zero_le _⟩⟩
theorem row_of (l : List El) : l.flatMap (fun x => Go.Proofs.Ytjdhndicgifnbaa.Tun.Stp.C x.1) = Go.Proofs.Ytjdhndicgifnbaa.Tun.stRow (l.map (·.1)) := by
  unfold Go.Proofs.Ytjdhndicgifnbaa.Tun.stRow
  rw [List.flatMap_map]
theorem walk (v0 v2 : Value) {g1 g2 g3 g4 g5 : List UInt8} {rc ct rk lf : UInt64} {sz : Int} (h0 : ∀ σ, VR σ (Go.Proofs.Ytjdhndicgifnbaa.Tun.gotA g1 g2 g3 g4 g5) v0) (h2 : ∀ σ, VR σ (Go.Proofs.Ytjdhndicgifnbaa.Tun.limA rc ct rk lf sz) v2) (a1 : Int) (w1 : (Lit.int .u64 a1).wf = true) (v : Value) (W : World) (ho : v = .slice none 0 0 ∨ ∃ b o len cap, v = .slice (some ⟨b, o, none⟩) len cap ∧ len ≤ cap ∧ cap ≤ maxLen ∧ (0 < len → ∃ c t' fz, RowAt W [.int .i64, .int .u8, .str, .int .i64, .int .i64, .int .u64] b o len cap c t' fz)) :
    Calls Try.prog 3 #[v0, .int .u64 a1, v2, v] W fun e w' => e = .returned (.bool true) ∧ Grew W w' ∧ Still W w' := by
  obtain ⟨x1, hx1⟩ := vr_u64 w1
  exact rows_calls2 Go.Proofs.Ytjdhndicgifnbaa.Tun.csR_ok Go.Proofs.Ytjdhndicgifnbaa.Tun.hmix (ks := [.int .i64, .int .u8, .str, .int .i64, .int .i64, .int .u64]) (E := El) (cellsE := fun x => Go.Proofs.Ytjdhndicgifnbaa.Tun.Stp.C x.1) (fun _ => rfl) (by
    intro cs' hk
    obtain ⟨_, _, rfl, ⟨s0, rfl, _⟩, k1⟩ := hk.cons
    obtain ⟨_, _, rfl, ⟨s1, rfl, w1⟩, k2⟩ := k1.cons
    obtain ⟨y1, hy1⟩ := vr_u8 w1
    obtain ⟨_, _, rfl, ⟨s2, rfl, b2⟩, k3⟩ := k2.cons
    obtain ⟨_, _, rfl, ⟨s3, rfl, _⟩, k4⟩ := k3.cons
    obtain ⟨_, _, rfl, ⟨s4, rfl, _⟩, k5⟩ := k4.cons
    obtain ⟨_, _, rfl, ⟨s5, rfl, w5⟩, k6⟩ := k5.cons
    obtain ⟨y5, hy5⟩ := vr_u64 w5
    obtain rfl := k6.none
    refine ⟨⟨⟨s0, y1, s2.data.toList, s3, s4, y5⟩, ?_⟩, VRs.get (.cons (fun σ => .int .i64 s0) (.cons hy1 (.cons (fun σ => vr_str σ s2) (.cons (fun σ => .int .i64 s3) (.cons (fun σ => .int .i64 s4) (.cons hy5 .nil))))))⟩
    show s2.data.toList.length ≤ maxLen
    rw [Array.length_toList]
    exact b2) (args := fun u => [Go.Proofs.Ytjdhndicgifnbaa.Tun.gotA g1 g2 g3 g4 g5, .u64 x1, Go.Proofs.Ytjdhndicgifnbaa.Tun.limA rc ct rk lf sz, u]) (args' := fun v => #[v0, .int .u64 a1, v2, v]) (fun σ u u' h => .cons (h0 σ) (.cons (hx1 σ) (.cons (h2 σ) (.cons h (.nil _))))) (G := 0) (by kernel_rfl)
    Go.Proofs.Ytjdhndicgifnbaa.Tun.run3n Go.Proofs.Ytjdhndicgifnbaa.Tun.run3e (fun l hl hne => by
      cases l with
      | nil => exact absurd rfl hne
      | cons x l =>
        have hb : maxLen ≤ 9223372036854775807 := by decide
        have e : (x :: l).flatMap (fun x => Go.Proofs.Ytjdhndicgifnbaa.Tun.Stp.C x.1) = Go.Proofs.Ytjdhndicgifnbaa.Tun.stRow (x.1 :: l.map (·.1)) := row_of (x :: l)
        have el : (x :: l).length = (x.1 :: l.map (·.1)).length := by simp
        rw [e, el]
        refine Go.Proofs.Ytjdhndicgifnbaa.Tun.run3f (by rw [← el]; omega) fun q hq => ?_
        rcases List.mem_cons.1 hq with rfl | hq
        · have := x.2; omega
        · obtain ⟨y, _, rfl⟩ := List.mem_map.1 hq
          have := y.2; omega) ho
theorem lifted (os : Os) (started : os.Started) (H : Type) (enc : TypeId × Value → H) :
    ReturnsInHanded {} Try.checked os 3 .any (Rows.tunnelPlaysSpec.pre6 enc Try.prog Try.f3 Rows.tunnelPlaysRow.domain false) (Rows.tunnelPlaysSpec.post enc Try.prog Try.f3 false true false false) := by
  refine returnsInHanded_of_change (C := Try.checked) own started (by kernel_rfl) Try.func3
    (ChangeSpec.witness6 (enc := enc) (C := Try.checked) false ⟨#[], #[.agg #[.string ByteArray.empty, .string ByteArray.empty, .string ByteArray.empty, .string ByteArray.empty, .string ByteArray.empty], .int .u64 0, .agg #[.int .u64 0, .int .u64 0, .int .u64 0, .int .u64 0, .int .i64 0], .slice none 0 0], []⟩ 8 (by kernel_rfl) (by kernel_rfl) (by kernel_rfl) (by kernel_rfl)) ?_
  intro W base args ds gs before hval0 hW hcnd _
  have hval : ∀ (j : Nat) t v, Try.f3.params[j]? = some t → args[j]? = some v → Value.okWide Try.prog W .any base t v := hval0
  have hW' := hW
  obtain ⟨p, q, hA0, hV, rfl, hfz, hnd⟩ := hW
  have hA1 := hA0
  have hA : DataW.TrodAll enc Try.prog W 0 (fun _ => true) true Try.f3.params.toList args.toList ds p := hA0
  rw [Try.params3] at hA hval
  obtain ⟨v0, vs0, d0, ds0, p0, q0, hargs, rfl, rfl, h0, r0⟩ := trodAll_cons hA
  obtain ⟨v1, vs1, d1, ds1, p1, q1, rfl, rfl, rfl, h1, r1⟩ := trodAll_cons r0
  obtain ⟨v2, vs2, d2, ds2, p2, q2, rfl, rfl, rfl, h2, r2⟩ := trodAll_cons r1
  obtain ⟨v3, vs3, d3, ds3, p3, q3, rfl, rfl, rfl, h3, r3⟩ := trodAll_cons r2
  obtain ⟨rfl, rfl, rfl⟩ := trodAll_nil r3
  obtain rfl : args = #[v0, v1, v2, v3] := by cases args; simp_all
  obtain ⟨rfl, rfl⟩ := trodVars_none hV
  obtain ⟨g1, g2, g3, g4, g5, e0⟩ := got_arg (flat_arg (n := 20) (by kernel_rfl) h0)
  obtain ⟨a1, rfl, rfl, rfl, w1⟩ := open_int Try.underlying24 (hval 1 24 v1 rfl rfl) h1
  obtain ⟨rc, ct, rk, lf, sz, e2⟩ := lim_arg (flat_arg (n := 20) (by kernel_rfl) h2)
  have ho := open_flat Try.underlying27 (n := 20) (ks := [.int .i64, .int .u8, .str, .int .i64, .int .i64, .int .u64]) (by kernel_rfl) (by kernel_rfl) (by decide) (hval 3 27 v3 rfl rfl) h3
  refine (walk v0 v2 e0 e2 a1 w1 v3 W ho).mono fun e W' ⟨he, hg, hs⟩ => ?_
  subst he
  exact ⟨_, rfl, Go.Eng.post_of_grew (pv := []) hW' (fun _ _ _ => (trodAll_cons_mk (shut_bool Try.underlying4 _) trodAll_mk0)) (fun sp hsp => args_stay laid hs (by kernel_rfl) hA1 (fun x hx => hW'.lt x (List.mem_append_left _ hx)) sp (fun x hx => hsp x (List.mem_append_left _ hx))) (fun _ _ => rfl) rfl
    hg (ok_one (by kernel_rfl) rfl (okWide_bool_mk Try.underlying4 _))⟩
theorem over : Rows.tunnelPlaysRow.holds Try.pinned (OpenSpec.ofChange Rows.tunnelPlaysSpec) :=
  OpenClaim.holds_of_wide 3 Try.f3 rfl rfl rfl rfl rfl rfl rfl ⟨rfl, rfl, rfl, rfl, rfl⟩ rfl rfl rfl rfl rfl (by kernel_rfl) Try.func3 (by kernel_rfl)
    (of_decide_eq_true (by kernel_rfl)) (by unfold Func.isWrapper; first | (rw [if_pos (by decide +kernel)]; kernel_rfl) | (rw [if_neg (by decide +kernel)]; exact ⟨rfl, rfl⟩))
    (fun os started H enc _ => lifted os started H enc)
theorem proved : Rows.TunnelPlaysSaid :=
  over
end Go.Proofs.Ytjdhndicgifnbaa.tunnelPlays
