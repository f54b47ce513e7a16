/- Texts TACi2c, TACi2d, TACi3a, Eng37, TACi3b, TACi4, TACi5, Pv1, Pv2, TAPl1, TAPl2, TAPl3, Eng46, TAPl4, Eng47, TAPl5: what they show stands ahead of each. -/
import Derived.Test.YtjdhndicgifnbaaT9
import Derived.Test.YtjdhndicgifnbaaT6
import Derived.Test.YtjdhndicgifnbaaT7
/- The stream is an iterator. -/
namespace Go.Proofs.Ytjdhndicgifnbaa.Cha
set_option linter.unusedVariables false
set_option linter.unusedSimpArgs false
open Go Go.Eng Go.Cha
set_option maxRecDepth 100000
set_option maxHeartbeats 1000000
set_option linter.unusedSimpArgs false
set_option linter.unusedVariables false
theorem sg_some {φ : Fb} {sy : List Nat} {vs : List AVal} {Ts T Tq : TL} {H H' : HL} {l : List Code} {x : XA} {ob : List Bool} (h : sg φ sy vs Ts T H l = some (x, Tq, H', ob)) : endS Ts (evSO Try.prog (psb φ) (nb φ) sy Try.f82.ntmps (mask 82) 100 200 l ⟨T, H, 200⟩ ⟨[], vs, []⟩) = some (x, Tq, H', ob) := h
theorem aget_cases {α : Type} {k s : Nat} {v u : α} {l : List (Nat × α)} (h : aget ((k, v) :: l) s = some u) : (s = k ∧ u = v) ∨ aget l s = some u := by
  simp only [aget] at h
  rcases beq_cases k s with ⟨e, hb⟩ | ⟨_, hb⟩ <;> rw [hb] at h <;> simp only [cond_true, cond_false] at h
  · cases h; exact .inl ⟨e.symm, rfl⟩
  · exact .inr h
def capS : List AVal := [.ptr 192 0, .ptr 193 0, .ptr 194 0]
def pin4 (l : Nat) (u0 u1 u2 : Value) : List (Tmp × Value) := [(0, .func (.yield l) #[] #[]), (1, u0), (2, u1), (3, u2)]
def X (k n : List UInt8) (c : UInt32) (i : Nat) : List AVal := [.int .i64 (i : Int), .u8 (byteAt k n (c + UInt32.ofNat (i / 64)) (i % 64))]
abbrev ITs (k n : List UInt8) (c : UInt32) (l : Nat) (u0 u1 u2 : Value) (T : TL) (a : Act) (w : World) : Prop := IT Try.prog Try.f82.ntmps 200 (Hc k n c) capS #[u0, u1, u2] (pin4 l u0 u1 u2) T a w
theorem roS (k n : List UInt8) (c : UInt32) : ∀ m o, aget (Hc k n c) m = some o → o.ro = true := fun m o h => by
  unfold Hc at h
  rcases aget_cases h with ⟨_, rfl⟩ | h
  · rfl
  rcases aget_cases h with ⟨_, rfl⟩ | h
  · rfl
  rcases aget_cases h with ⟨_, rfl⟩ | h
  · rfl
  simp [aget] at h
theorem gl : Try.prog.globals.size ≤ 200 := by
  have : Nat.ble Try.prog.globals.size 200 = true := by kernel_rfl
  exact Nat.le_of_ble_eq_true this
theorem pin_m (l : Nat) (u0 u1 u2 : Value) : (pin4 l u0 u1 u2).map (·.1) = [0, 1, 2, 3] := rfl
/-- A segment, as it is used. -/
theorem seg {k n : List UInt8} {c : UInt32} {l : Nat} {u0 u1 u2 : Value} {J : World → Prop} (hJ : ∀ A B, J A → Grown A B → J B) {sy : List Nat} {vs : List AVal} {Ts T Tq : TL} {cl : List Code} {x : XA} {ob : List Bool}
    (h : sg realFb sy vs Ts T (Hc k n c) cl = some (x, Tq, Hc k n c, ob)) (ha : allT ob = true) (hTl : ltT 200 Tq = true) (hp : pinS [0, 1, 2, 3] cl = true) {a : Act} {w : World} {Q : Exit → Act → World → Prop} (hi : ITs k n c l u0 u1 u2 T a w) (hj : J w)
    (hQ : ∀ a' w', ITs k n c l u0 u1 u2 Tq a' w' → J w' → Q x.out a' w') : wpS none 0 Try.prog cl Q a w :=
  itSegO (nb_ps _) nb_ok hmix hJ (roS k n c) rfl rfl gl h ha hTl (pin := pin4 l u0 u1 u2) (by rw [pin_m]; exact hp) hi hj hQ
theorem split5 : ∃ o0 oc : Oper, ops5.toList = o0 :: (midL ++ oc :: ops5.toList.drop 6) ∧ o0.op = .move (.tmp 0) ∧ o0.guard = none ∧ o0.dst = some 22 ∧ oc.op = .call ⟨.value (.tmp 22), #[.tmp 25, .tmp 26], #[3, 5]⟩ ∧ oc.guard = none ∧ oc.dst = some 27 ∧ pinO [0, 1, 2, 3] o0 = true ∧ pinO [0, 1, 2, 3] oc = true ∧ pinL (22 :: [0, 1, 2, 3]) midL = true :=
  ⟨ops5[0]!, ops5[5]!, by kernel_rfl, by kernel_rfl, by kernel_rfl, by kernel_rfl, by kernel_rfl, by kernel_rfl, by kernel_rfl, by kernel_rfl, by kernel_rfl, by kernel_rfl⟩
theorem nt18 : Try.f82.ntmps = 30 := by kernel_rfl
theorem lt22 : 22 < Try.f82.ntmps := by rw [nt18]; decide
theorem lt27 : 27 < Try.f82.ntmps := by rw [nt18]; decide
section
variable {k n : List UInt8} {c : UInt32} {l : Nat} {u0 u1 u2 : Value} {J : Nat → World → Prop} {Jx : World → Prop} {N : Nat}
def Prem (k n : List UInt8) (c : UInt32) (l : Nat) (u0 u1 u2 : Value) (J : Nat → World → Prop) (Jx : World → Prop) (N : Nat) : Prop :=
  ∀ i W1, J i W1 → i ≤ N ∧ ∃ σ1, GRel Try.prog σ1 ∧ HRel σ1 (aget (Hc k n c)) W1 ∧ LR σ1 capS #[u0, u1, u2] ∧ ((i < N ∨ false = false) → ∀ xs, LR σ1 (X k n c i) xs → ∀ m, YieldAt Fence.wide m Try.prog l xs W1 fun e W' => (e = .returned (.bool true) ∧ J (i + 1) W') ∨ (e = .returned (.bool false) ∧ Jx W'))
theorem carry {φ : Fb} {cq : UInt32} {x : Int} {j : Nat} {y : Int} : ∀ σ1, LR σ1 capS #[u0, u1, u2] → ∀ s v, aget (Tj φ k n cq x j) s = some v → s ≠ 22 ∧ s ≠ 27 ∧ ((aget (Ty φ k n cq x j ++ [(23, .int .i64 x), (24, .int .i64 j), (25, .int .i64 y), (26, .u8 (φ.bb k n cq j))]) s = some v ∧ ltV 0 v = true) ∨ ∃ u, (s, u) ∈ pin4 l u0 u1 u2 ∧ VR σ1 v u) := fun σ1 h s v hs => by
  obtain ⟨a0, a1, a2, e, h0, h1, h2⟩ := LR.inv3 h
  simp only [Array.mk.injEq, List.cons.injEq, and_true] at e
  obtain ⟨rfl, rfl, rfl⟩ := e
  unfold Tj at hs
  rcases aget_cases hs with ⟨rfl, rfl⟩ | hs
  · exact ⟨by decide, by decide, .inr ⟨_, by simp [pin4], h0⟩⟩
  rcases aget_cases hs with ⟨rfl, rfl⟩ | hs
  · exact ⟨by decide, by decide, .inr ⟨_, by simp [pin4], h1⟩⟩
  rcases aget_cases hs with ⟨rfl, rfl⟩ | hs
  · exact ⟨by decide, by decide, .inr ⟨_, by simp [pin4], h2⟩⟩
  rcases aget_cases hs with ⟨rfl, rfl⟩ | hs
  · exact ⟨by decide, by decide, .inl ⟨rfl, rfl⟩⟩
  rcases aget_cases hs with ⟨rfl, rfl⟩ | hs
  · exact ⟨by decide, by decide, .inl ⟨rfl, ltL_u8 0 ((List.range 64).map fun i => φ.bb k n cq i)⟩⟩
  rcases aget_cases hs with ⟨rfl, rfl⟩ | hs
  · exact ⟨by decide, by decide, .inl ⟨rfl, rfl⟩⟩
  simp [aget] at hs
theorem wrap_add {x : Nat} {j : Nat} (h : x + j < 4611686018427387904) : eqS (.int .i64 (IntKind.wrap .i64 ((x : Int) + (j : Int)))) (.int .i64 ((x + j : Nat) : Int)) = true := by
  rw [wrapI _ (by omega) (by omega)]
  simp [eqS]
/-- One round of the inner loop. -/
theorem inner (hJ : ∀ i A B, J i A → Grown A B → J i B) (hJx : ∀ A B, Jx A → Grown A B → Jx B) (hY : Prem k n c l u0 u1 u2 J Jx N) (hN : N < 1099511627776) {q : Nat} {Q : Exit → Act → World → Prop}
    (hret : ∀ a w, a.defers = [] → Jx w → Q .ret a w) (hex : ∀ a w, ITs k n c l u0 u1 u2 (Tj realFb k n (c + UInt32.ofNat q) ((64 * q : Nat) : Int) (64 : Nat)) a w → J (64 * q + 64) w → Q (.exit 2) a w) :
    ∀ (r j : Nat) (a : Act) (w : World), j + r = 64 → ITs k n c l u0 u1 u2 (Tj realFb k n (c + UInt32.ofNat q) ((64 * q : Nat) : Int) j) a w → J (64 * q + j) w → Code.roundsIn (Fw none) 0 Try.prog IB Q (r + 1) a w
  | 0, j, a, w, hj, hi, hw => by
    have : j = 64 := by omega
    subst this
    rw [roundsIn_succ]
    refine wpS_pieces IB ?_
    show wpS none 0 Try.prog pI _ a w
    rw [pI_eq]
    refine wpS_app' [_, _] [_, _] (seg (J := J (64 * q + 64)) (hJ _) (s64 realFb k n c _ _) rfl rfl (by kernel_rfl) hi hw fun a' w' hi' hw' => ?_)
    exact hex a' w' hi' hw'
  | r + 1, j, a, w, hj, hi, hw => by
    have hj64 : j < 64 := by omega
    obtain ⟨p1, p2, p6⟩ := tall realFb k n c (c + UInt32.ofNat q) ((64 * q : Nat) : Int) j hj64
    rw [roundsIn_succ]
    refine wpS_pieces IB ?_
    show wpS none 0 Try.prog pI _ a w
    rw [pI_eq]
    refine wpS_app' [_, _] [_, _] (seg (J := J (64 * q + j)) (hJ _) p1 rfl rfl (by kernel_rfl) hi hw fun a1 w1 hi1 hw1 => ?_)
    show (Code.block 3 B3).wpIn (Fw none) 0 Try.prog _ a1 w1
    refine wpIn_block (wpS_pieces B3 ?_)
    show wpS none 0 Try.prog p3 _ a1 w1
    rw [p3_eq]
    refine wpS_app' [_] [_, _] (seg (J := J (64 * q + j)) (hJ _) p2 rfl rfl (by kernel_rfl) hi1 hw1 fun a2 w2 hi2 hw2 => ?_)
    show (Code.region 5 ops5 false).wpIn (Fw none) 0 Try.prog _ a2 w2
    have hle := (hY _ _ hw2).1
    have hm := mid5 realFb k n c (c + UInt32.ofNat q) ((64 * q : Nat) : Int) ((64 * q + j : Nat) : Int) j
    obtain ⟨⟨T1, H1, q1⟩, hm1, hm2⟩ := optMap hm
    simp only [Prod.mk.injEq] at hm2
    obtain ⟨rfl, rfl, hob⟩ := hm2
    have hmid := (runS_ok (nb_ps realFb) hm1 (by rw [hob]; simp only [allT]; rw [wrap_add (by omega)]; rfl)).1
    have hX : X k n c (64 * q + j) = [.int .i64 ((64 * q + j : Nat) : Int), .u8 (realFb.bb k n (c + UInt32.ofNat q) j)] := by
      unfold X
      rw [show (64 * q + j) / 64 = q by omega, show (64 * q + j) % 64 = j by omega]
      rfl
    obtain ⟨o0, oc, hops, e1, e2, e3, e4, e5, e6, e7, e8, e9⟩ := split5
    refine itYield (cs := nb realFb) (cap := capS) (lb := #[u0, u1, u2]) (pin := pin4 l u0 u1 u2) (l := l) (J := J (64 * q + j)) (J' := J (64 * q + j + 1)) (Jx := Jx) nb_ok (hJ _) (hJ _) hJx (roS k n c) rfl rfl gl (List.mem_cons_self ..) hops e1 e2 e3 e4 e5 e6 rfl e7 e8 e9 (show pinL [0, 1, 2, 3] (ops5.toList.drop 6) = true by kernel_rfl) lt22 lt27 (by rfl) hmid (by rfl)
      (Tj realFb k n (c + UInt32.ofNat q) ((64 * q : Nat) : Int) j) rfl carry (T2 realFb k n (c + UInt32.ofNat q) ((64 * q : Nat) : Int) j) (fun b Hx => post5 realFb k n _ _ j b Hx) (fun b => rfl) hi2 hw2 ?_ (.inl rfl) ?_ ?_ ?_
    · intro W hW
      obtain ⟨_, σ1, g1, g2, g3, g4⟩ := hY _ W hW
      refine ⟨σ1, g1, g2, g3, fun xs hxs m => g4 (.inr rfl) xs (by rw [hX]; exact hxs) m⟩
    · intro W hW
      obtain ⟨_, σ1, g1, g2, g3, g4⟩ := hY _ W hW
      exact ⟨σ1, g1, g2, g3⟩
    · intro a3 w3 hi3 hw3
      refine seg (J := J (64 * q + j + 1)) (hJ _) (cT realFb k n c _ _ j) rfl rfl (by kernel_rfl) hi3 hw3 fun a4 w4 hi4 hw4 => ?_
      refine seg (J := J (64 * q + j + 1)) (hJ _) p6 rfl rfl (by kernel_rfl) hi4 hw4 fun a5 w5 hi5 hw5 => ?_
      exact inner hJ hJx hY hN hret hex r (j + 1) a5 w5 (by omega) hi5 hw5
    · intro a3 w3 hi3 hw3
      refine itSegO (nb_ps realFb) nb_ok hmix (J := Jx) hJx (fun m o h => by simp [aget] at h) rfl rfl gl (cF realFb k n _ _ j) rfl rfl (pin := pin4 l u0 u1 u2) (show pinS [0, 1, 2, 3] [rC] = true by kernel_rfl) hi3 hw3 fun a4 w4 hi4 hw4 => ?_
      obtain ⟨σ, hr, _⟩ := hi4
      exact hret a4 w4 hr.defers hw4
end
end Go.Proofs.Ytjdhndicgifnbaa.Cha

/- The stream is an iterator: all of it. -/
namespace Go.Proofs.Ytjdhndicgifnbaa.Cha
set_option linter.unusedVariables false
set_option linter.unusedSimpArgs false
open Go Go.Eng Go.Cha
set_option maxRecDepth 100000
set_option maxHeartbeats 1000000
set_option linter.unusedSimpArgs false
set_option linter.unusedVariables false
theorem ofInt32 (q : Nat) : UInt32.ofInt (q : Int) = UInt32.ofNat q := by
  apply UInt32.toNat_inj.1
  simp [UInt32.ofInt]
  omega
theorem eqS_u32 {a b : UInt32} (h : a = b) : eqS (.u32 a) (.u32 b) = true := by
  subst h
  simp [eqS]
theorem block_no {c : UInt32} {q : Nat} (h : 64 * q < 4611686018427387904) : eqS (.u32 (c + UInt32.ofInt (IntKind.wrap .i64 (Int.tdiv ((64 * q : Nat) : Int) 64)))) (.u32 (c + UInt32.ofNat q)) = true := by
  refine eqS_u32 ?_
  have e : Int.tdiv ((64 * q : Nat) : Int) 64 = (q : Int) := by
    rw [show (64 : Int) = ((64 : Nat) : Int) from rfl, ← Int.ofNat_tdiv]
    congr 1
    omega
  rw [e, wrapI _ (by omega) (by omega), ofInt32]
theorem ltT_Tj (φ : Fb) (k n : List UInt8) (cq : UInt32) (x j : Int) (m : Nat) : ltT m (Tj φ k n cq x j) = ltT m [(1, .ptr 192 0), (2, .ptr 193 0), (3, .ptr 194 0)] := by
  have h : ltV m (.agg ((List.range 64).map fun i => .u8 (φ.bb k n cq i))) = true := ltL_u8 m ((List.range 64).map fun i => φ.bb k n cq i)
  unfold Tj
  simp only [ltT, h]
  rfl
theorem Tj_lt (φ : Fb) (k n : List UInt8) (cq : UInt32) (x j : Int) : ltT 200 (Tj φ k n cq x j) = true := (ltT_Tj φ k n cq x j 200).trans (by decide)
theorem at4 {y u0 u1 u2 : Value} {B : Array Value} {s : Nat} {v : Value} (h : (#[y, u0, u1, u2] : Array Value)[s]? = some v) : (#[y] ++ #[u0, u1, u2] ++ B)[s]? = some v := by
  have e : (#[y] ++ #[u0, u1, u2] : Array Value) = #[y, u0, u1, u2] := rfl
  rw [e, Array.getElem?_append_left (Array.getElem?_eq_some_iff.1 h).1]
  exact h
section
variable {k n : List UInt8} {c : UInt32} {l : Nat} {u0 u1 u2 : Value} {J : Nat → World → Prop} {Jx : World → Prop} {N : Nat}
theorem outer (hk : may k n = true) (hJ : ∀ i A B, J i A → Grown A B → J i B) (hJx : ∀ A B, Jx A → Grown A B → Jx B) (hY : Prem k n c l u0 u1 u2 J Jx N) (hN : N < 1099511627776) {Q : Exit → Act → World → Prop} (hret : ∀ a w, a.defers = [] → Jx w → Q .ret a w) :
    ∀ (m q : Nat) (a : Act) (w : World), N + 1 ≤ 64 * (q + m) → ITs k n c l u0 u1 u2 (T0 ((64 * q : Nat) : Int)) a w → J (64 * q) w → Code.roundsIn (Fw none) 0 Try.prog LB Q (m + 1) a w
  | 0, q, a, w, h, hi, hw => by
    have := (hY _ _ hw).1
    exfalso
    omega
  | m + 1, q, a, w, h, hi, hw => by
    have hle := (hY _ _ hw).1
    rw [roundsIn_succ]
    refine wpS_pieces LB ?_
    show wpS none 0 Try.prog pL _ a w
    rw [pL_eq]
    show (Code.block 1 B1).wpIn (Fw none) 0 Try.prog _ a w
    refine wpIn_block (wpS_pieces B1 ?_)
    show wpS none 0 Try.prog pB _ a w
    rw [pB_eq]
    refine wpS_app' [_] [_] (seg (J := J (64 * q)) (hJ _) (s2 realFb k n c (c + UInt32.ofNat q) ((64 * q : Nat) : Int)) ?_ (Tj_lt _ _ _ _ _ _) (by kernel_rfl) hi hw fun a1 w1 hi1 hw1 => ?_)
    · show allT [may k n, _] = true
      rw [hk, block_no (by omega)]; rfl
    show (Code.block 2 (.loop IB)).wpIn (Fw none) 0 Try.prog _ a1 w1
    refine wpIn_block (wpIn_loop_rounds (64 + 1) ?_)
    refine inner hJ hJx hY hN (q := q) ?_ ?_ 64 0 a1 w1 rfl hi1 hw1
    · intro a w hd hx
      exact hret a w hd hx
    · intro a2 w2 hi2 hw2
      simp only [Exit.inBlock, if_true]
      show wpS none 0 Try.prog [pL.getD 1 .skip] _ a2 w2
      refine seg (J := J (64 * q + 64)) (hJ _) (s1 realFb k n c (c + UInt32.ofNat q) ((64 * q : Nat) : Int) ((64 * (q + 1) : Nat) : Int)) ?_ rfl (by kernel_rfl) hi2 hw2 fun a3 w3 hi3 hw3 => ?_
      · simp only [allT]
        have := wrap_add (x := 64 * q) (j := 64) (by omega)
        rw [show 64 * (q + 1) = 64 * q + 64 by omega]
        rw [show ((64 : Nat) : Int) = 64 from rfl] at this
        rw [this]; rfl
      exact outer hk hJ hJx hY hN hret m (q + 1) a3 w3 (by omega) hi3 (by rw [show 64 * (q + 1) = 64 * q + 64 by omega]; exact hw3)
end
theorem res18 (tmps : Array Value) (w : World) : (results Try.f82 tmps).run Try.prog w = .ok (.tuple #[]) w := by
  have hr : Try.f82.results = #[] := by kernel_rfl
  unfold results
  rw [hr]
  simp
theorem stream_it {k n : List UInt8} {c : UInt32} {N : Nat} (hk : may k n = true) (hN : N < 1099511627776) : ItOk Try.prog 82 capS (Hc k n c) (X k n c) N false := by
  intro lb l J Jx W hJ hJx hY h0
  obtain ⟨_, σ0, g1, g2, g3, _⟩ := hY 0 W h0
  obtain ⟨u0, u1, u2, rfl, v0, v1, v2⟩ := LR.inv3 g3
  refine (callsIn_wide (n := 0)).1 (callsIn_of_wp_marks (F := Fence.wide) (fn := Try.f82) (c := bodyOf Try.f82) (by kernel_rfl) (by kernel_rfl) trivial ?_ rfl)
  refine wpS_pieces (ro := none) (n := 0) _ ?_
  show wpS none 0 Try.prog p18 _ _ W
  rw [p18_eq]
  have hsz : Try.f82.ntmps = 30 := nt18
  have start : ITs k n c l u0 u1 u2 Tc { tmps := #[.func (.yield l) #[] #[]] ++ #[u0, u1, u2] ++ Array.replicate (Try.f82.ntmps - (#[.func (.yield l) #[] #[]] ++ #[u0, u1, u2] : Array Value).size) undef, defers := [] } W := by
    refine ⟨Go.Eng.cut 200 σ0, ⟨(RRel.cut (m := 200) (T := Tc) ⟨fun s v hs => ?_, by simp [bare, hsz], rfl, g2, g1⟩ rfl rfl gl), rfl, fun s v hs => ?_⟩, cut_fresh _ _, ltM_ok rfl g3⟩
    · unfold Tc at hs
      rcases aget_cases hs with ⟨rfl, rfl⟩ | hs
      · exact ⟨u0, at4 rfl, v0⟩
      rcases aget_cases hs with ⟨rfl, rfl⟩ | hs
      · exact ⟨u1, at4 rfl, v1⟩
      rcases aget_cases hs with ⟨rfl, rfl⟩ | hs
      · exact ⟨u2, at4 rfl, v2⟩
      simp [aget] at hs
    · simp only [pin4, List.mem_cons, Prod.mk.injEq, List.mem_nil_iff, or_false] at hs
      rcases hs with ⟨rfl, rfl⟩ | ⟨rfl, rfl⟩ | ⟨rfl, rfl⟩ | ⟨rfl, rfl⟩ <;> exact at4 rfl
  refine wpS_app' [_] [_] (seg (J := J 0) (hJ 0) (s0 realFb k n c) rfl rfl (by kernel_rfl) start h0 fun a w hi hw => ?_)
  show (Code.block 0 (.loop LB)).wpIn (Fw none) 0 Try.prog _ a w
  refine wpIn_block (wpIn_loop_rounds (N / 64 + 2) (outer hk hJ hJx hY hN (fun a w hd hx => ?_) (N / 64 + 1) 0 a w (by omega) hi hw))
  show LeavesInM Fence.wide 0 Try.prog Try.f82 a.tmps _ a.defers .returning w
  rw [hd]
  exact ⟨_, res18 _ _, ⟨_, rfl⟩, .inr hx⟩
end Go.Proofs.Ytjdhndicgifnbaa.Cha

/- Turn: its pieces. -/
namespace Go.Proofs.Ytjdhndicgifnbaa.Cha
set_option linter.unusedVariables false
set_option linter.unusedSimpArgs false
open Go Go.Eng Go.Cha
set_option maxRecDepth 100000
set_option maxHeartbeats 1000000
set_option linter.unusedSimpArgs false
set_option linter.unusedVariables false
def rfBody : Code → Code
  | .rangeFunc _ _ _ b => b
  | _ => .skip
def rfAssign : Code → Code
  | .rangeFunc _ _ a _ => a
  | _ => .skip
noncomputable def p10 : List Code := pieces (bodyOf Try.f60)
noncomputable def rf10 : Code := blkOf (p10.getD 4 .skip)
noncomputable def as10 : Code := rfAssign rf10
noncomputable def bd10 : Code := rfBody rf10
theorem p10_eq : p10 = p10.take 4 ++ .block 1 (.rangeFunc (.tmp 33) #[34, 35] as10 bd10) :: p10.drop 5 := by kernel_rfl
def nt10 (φ : Fb) : CS := csAlt (csOne 75 k16) (nb φ)
theorem nt10_ok : CSOk Try.prog (nt10 realFb) := csAlt_ok k16_ok nb_ok
theorem nt10_ps (φ : Fb) : PSOk (psb φ) (nt10 φ) := fun f args e h => by
  have h1 := nb_ps φ f args e h
  unfold nt10 csAlt csOne
  cases hb : Nat.beq f 75 with
  | false => exact h1
  | true =>
    rw [Nat.eq_of_beq_eq_true hb] at h
    exact absurd h (by
      intro h2
      have : psb φ 75 args = none := rfl
      rw [this] at h2
      cases h2)
end Go.Proofs.Ytjdhndicgifnbaa.Cha

/- Engine, part 37: bytes as a string, where the bytes are known as a list alone. -/
namespace Go.Eng
set_option linter.unusedVariables false
set_option linter.unusedSimpArgs false
open Go
theorem conv_bytes {P : Program} {cs : CS} {nt base : Nat} {ops : Array Oper} {o : Oper} {T T' : TL} {H : HL} {s d e : TypeId} {x : Operand} {n m : Nat} {L : List UInt8} {ro : Bool} (hg : o.guard = none) (ho : o.op = .convert s d x) (hx : opd P (aget T) x = some (.slice n 0 m 1))
    (hs : P.underlying s = some (.slice e)) (he : P.underlying e = some (.int .u8)) (hd : P.underlying d = some .string) (hH : aget H n = some (.cells ro (L.map .u8))) (hm : m = L.length) (hput : putT nt T o.dst (.str L) = some T') : stepA P cs nt ops base o T H = some (T', H) := by
  subst hm
  have hc : convA P s d (.slice n 0 L.length 1) = none := by
    unfold convA
    simp only [hs, hd]
  have hb : bytesStrA P s d (.slice n 0 L.length 1) = some (.read n fun ob => match ob with
        | .cells _ c => cond (Nat.ble (0 + L.length) c.length) (match bytesA ((c.drop 0).take L.length) with
          | some bs => some (.str bs)
          | none => none) none) := by
    unfold bytesStrA
    simp only [hs, he, hd]
    rfl
  have hf : effA P cs (opd P (aget T)) o = some (.read n fun ob => match ob with
        | .cells _ c => cond (Nat.ble (0 + L.length) c.length) (match bytesA ((c.drop 0).take L.length) with
          | some bs => some (.str bs)
          | none => none) none) := by
    unfold effA
    rw [ho]
    simp only [hx, nrm, hc, hb, ofV, orElse]
  have hw : wantA ops (aget T) o = some true := by
    unfold wantA
    rw [hg]
  have hbl : Nat.ble (0 + L.length) (L.map AVal.u8).length = true := Nat.ble_eq_true_of_le (by simp)
  have ht : (L.map AVal.u8).take L.length = L.map .u8 := List.take_of_length_le (by simp)
  unfold stepA
  simp only [hw, hf, EffA.app, hH, hbl, cond_true, List.drop_zero, ht, bytesA_map, hput]
/-- The list, each byte of which is turned in its turn. -/
def turnTo (f : Nat → UInt8) (s : List UInt8) : Nat → List UInt8
  | 0 => s
  | i + 1 => (turnTo f s i).set i (s.getD i 0 ^^^ f i)
theorem turnTo_len (f : Nat → UInt8) (s : List UInt8) : ∀ i, (turnTo f s i).length = s.length
  | 0 => rfl
  | i + 1 => by unfold turnTo; rw [List.length_set]; exact turnTo_len f s i
theorem turnTo_get (f : Nat → UInt8) (s : List UInt8) : ∀ (i j : Nat), j < s.length → (turnTo f s i)[j]? = some (if j < i then s.getD j 0 ^^^ f j else s.getD j 0)
  | 0, j, h => by
    rw [if_neg (by omega), List.getD_eq_getElem?_getD]
    show s[j]? = _
    rw [List.getElem?_eq_getElem h]; rfl
  | i + 1, j, h => by
    unfold turnTo
    by_cases e : i = j
    · subst e
      rw [List.getElem?_set_self (by rw [turnTo_len]; exact h), if_pos (by omega)]
    · rw [List.getElem?_set_ne e, turnTo_get f s i j h]
      by_cases hl : j < i
      · rw [if_pos hl, if_pos (by omega)]
      · rw [if_neg hl, if_neg (by omega)]
theorem putA_u8 (L : List UInt8) {i : Nat} (h : i < L.length) (x : UInt8) : putA (L.map .u8) (0 + ((i : Int).toNat * 1)) (cellsA (.u8 x)) = (L.set i x).map .u8 := by
  have e : 0 + ((i : Int).toNat * 1) = i := by simp
  rw [e, List.map_set]
  unfold putA
  show (L.map AVal.u8).take i ++ [AVal.u8 x] ++ (L.map AVal.u8).drop (i + 1) = _
  rw [List.set_eq_take_append_cons_drop, if_pos (by simpa using h)]
  simp
end Go.Eng

/- Turn: what it makes of a text. -/
namespace Go.Proofs.Ytjdhndicgifnbaa.Cha
set_option linter.unusedVariables false
set_option linter.unusedSimpArgs false
open Go Go.Eng Go.Cha
set_option maxRecDepth 100000
set_option maxHeartbeats 1000000
set_option linter.unusedSimpArgs false
set_option linter.unusedVariables false
theorem endS_ok {P : Program} {ps : PS} {cs : CS} (hps : PSOk ps cs) {sy : List Nat} {nt nn F bs : Nat} {l : List Code} {s : SA} {os : List Bool} {vs : List AVal} {Ts Tq : TL} {x : XA} {H : HL} {ob : List Bool} (h : endS Ts (evSO P ps cs sy nt nn F bs l s ⟨os, vs, []⟩) = some (x, Tq, H, ob)) (ha : allT ob = true) :
    ∃ s', evS P cs nt nn F bs l s = some (x, s') ∧ s'.H = H := by
  unfold endS at h
  split at h
  · rename_i y s' q hs
    simp only [Option.some.injEq, Prod.mk.injEq] at h
    obtain ⟨rfl, _, rfl, rfl⟩ := h
    exact ⟨s', (evSO_ok hps l _ _ _ _ _ hs ha).1, rfl⟩
  · cases h
def TL10 (k n s : List UInt8) (c : UInt32) : TL := [(0, .str k), (1, .str n), (2, .u32 c), (3, .str s), (8, .str []), (9, .int .i64 0), (13, .bool false), (18, .bool false), (10, .ptr 152 0), (33, .fn 82 [.ptr 192 0, .ptr 193 0, .ptr 194 0])]
def HH10 (k n : List UInt8) (c : UInt32) (L : List UInt8) (m : Nat) : HL := [(144, .cells false (L.map .u8)), (152, .cells false [.slice 144 0 m 1]), (192, .cells false [.str k]), (193, .cells false [.str n]), (194, .cells false [.u32 c])]
def over (c : UInt32) (m : Nat) : Bool := decide (UInt64.ofNat (Int.toNat 4294967296) < c.toUInt64 + UInt64.ofInt (IntKind.wrap .i64 ((m : Int) + 63)) / UInt64.ofNat (Int.toNat 64))
theorem w10p (φ : Fb) (k n s : List UInt8) (c : UInt32) : segO (evSO Try.prog (psb φ) (nt10 φ) [17, 27] Try.f60.ntmps (mask 60) 100 Try.prog.globals.size (p10.take 4) ⟨startT [.str k, .str n, .u32 c, .str s] 0, [], Try.prog.globals.size⟩ ⟨[false, false], [], []⟩) = some (⟨TL10 k n s c, HH10 k n c s s.length, 200⟩, [!over c s.length, !!(φ.may k n)]) := by kernel_rfl
theorem w10e (φ : Fb) (k n s : List UInt8) (c : UInt32) : ansO (run1O Try.prog (psb φ) (nt10 φ) [17, 27] [true] [] (mask 60) 100 60 [.str k, .str n, .u32 c, .str s] [] Try.prog.globals.size) = some (.tup [.str [], .int .i64 2], [!(φ.may k n)]) := by kernel_rfl
theorem w10l (φ : Fb) (k n s : List UInt8) (c : UInt32) : ansO (run1O Try.prog (psb φ) (nt10 φ) [17, 27] [false, true] [] (mask 60) 100 60 [.str k, .str n, .u32 c, .str s] [] Try.prog.globals.size) = some (.tup [.str [], .int .i64 4], [over c s.length, !!(φ.may k n)]) := by kernel_rfl
def TA10 (k n s : List UInt8) (c : UInt32) (i : Nat) (b : UInt8) : TL := TL10 k n s c ++ [(34, .int .i64 (i : Int)), (35, .u8 b), (11, .int .i64 (i : Int)), (12, .u8 b)]
theorem w10a (φ : Fb) (k n s : List UInt8) (c : UInt32) (H : HL) (i : Nat) (b : UInt8) : evC Try.prog (nt10 φ) Try.f60.ntmps (mask 60) 100 200 as10 ⟨putPs (TL10 k n s c) [34, 35] [.int .i64 (i : Int), .u8 b], H, 200⟩ = some (.normal, ⟨TA10 k n s c i b, H, 216⟩) := by kernel_rfl
theorem w10b (φ : Fb) (k n s L : List UInt8) (c : UInt32) (i m : Nat) (b x : UInt8) : endS [] (evSO Try.prog (psb φ) (nt10 φ) [39, 43, 42, 46, 100046] Try.f60.ntmps (mask 60) 100 200 [bd10] ⟨TA10 k n s c i b, HH10 k n c L m, 216⟩ ⟨[false], [.u8 x], []⟩) =
    some (.normal, [], [(144, .cells false (putA (L.map .u8) (0 + ((i : Int).toNat * 1)) (cellsA (.u8 (x ^^^ b))))), (152, .cells false [.slice 144 0 m 1]), (192, .cells false [.str k]), (193, .cells false [.str n]), (194, .cells false [.u32 c])],
      [Nat.ble ((0 + ((i : Int).toNat * 1)) + (cellsA (.u8 (x ^^^ b))).length) (L.map AVal.u8).length, decide (0 ≤ (i : Int)) && decide ((i : Int) < (m : Int)), isAt (L.map .u8) (0 + ((i : Int).toNat * 1)) (.u8 x), decide (0 ≤ (i : Int)) && decide ((i : Int) < (m : Int)), !((i : Int) == (m : Int))]) := by kernel_rfl
theorem w10x (φ : Fb) (k n s L : List UInt8) (c : UInt32) (i m : Nat) (b : UInt8) : endS [] (evSO Try.prog (psb φ) (nt10 φ) [39, 43, 42, 46, 100046] Try.f60.ntmps (mask 60) 100 200 [bd10] ⟨TA10 k n s c i b, HH10 k n c L m, 216⟩ ⟨[true], [], []⟩) =
    some (.exit 1, [], HH10 k n c L m, [((i : Int) == (m : Int))]) := by kernel_rfl
noncomputable def ops11 : Array Oper := opsOf (p10.getD 5 .skip)
theorem p10d : p10.drop 5 = [.region 11 ops11 false, .ret] := by kernel_rfl
theorem split11 : ∃ o0 o1 o2 o3 : Oper, ops11.toList = [o0, o1, o2, o3] ∧ o1.guard = none ∧ o1.op = .convert 55 9 (.tmp 47) ∧ o1.dst = some 48 ∧
    (∀ (φ : Fb) k n s c L m, stepA Try.prog (nt10 φ) Try.f60.ntmps ops11 200 o0 (TL10 k n s c) (HH10 k n c L m) = some (TL10 k n s c ++ [(47, .slice 144 0 m 1)], HH10 k n c L m)) ∧
    (∀ (φ : Fb) k n s c (L : List UInt8) (H : HL), runA Try.prog (nt10 φ) Try.f60.ntmps ops11 [o2, o3] 216 (TL10 k n s c ++ [(47, .slice 144 0 L.length 1), (48, .str L)]) H = some (aset (aset (TL10 k n s c ++ [(47, .slice 144 0 L.length 1), (48, .str L)]) 8 (.str L)) 9 (.int .i64 0), H)) :=
  ⟨ops11[0]!, ops11[1]!, ops11[2]!, ops11[3]!, by kernel_rfl, by kernel_rfl, by kernel_rfl, by kernel_rfl, fun φ k n s c L m => by kernel_rfl, fun φ k n s c L H => by kernel_rfl⟩
theorem u36 : ∃ e, Try.prog.underlying 55 = some (.slice e) ∧ Try.prog.underlying e = some (.int .u8) := ⟨5, by kernel_rfl, by kernel_rfl⟩
theorem u9 : Try.prog.underlying 9 = some .string := by kernel_rfl
theorem nt10_n : Try.f60.ntmps = 49 := by kernel_rfl
theorem fin10 (L k n s : List UInt8) (c : UInt32) (H : HL) (fr : Nat) : finR Try.prog Try.f60 ⟨prune (mask 60) (aset (aset (TL10 k n s c ++ [(47, .slice 144 0 L.length 1), (48, .str L)]) 8 (.str L)) 9 (.int .i64 0)), H, fr⟩ = some (.tup [.str L, .int .i64 0], H, fr) := by kernel_rfl
theorem tail10 (φ : Fb) (k n s : List UInt8) (c : UInt32) (L : List UInt8) : ∃ s2, evS Try.prog (nt10 φ) Try.f60.ntmps (mask 60) 100 Try.prog.globals.size (p10.drop 5) ⟨TL10 k n s c, HH10 k n c L L.length, 200⟩ = some (.ret, s2) ∧ ∃ H' fr', finR Try.prog Try.f60 s2 = some (.tup [.str L, .int .i64 0], H', fr') := by
  obtain ⟨o0, o1, o2, o3, h1, h2, h3, h4, h5, h6⟩ := split11
  obtain ⟨e, e1, e2⟩ := u36
  have hc := conv_bytes (P := Try.prog) (cs := nt10 φ) (nt := Try.f60.ntmps) (base := 208) (ops := ops11) (T := TL10 k n s c ++ [(47, .slice 144 0 L.length 1)]) (T' := TL10 k n s c ++ [(47, .slice 144 0 L.length 1), (48, .str L)]) (H := HH10 k n c L L.length) (n := 144) (m := L.length) (L := L) (ro := false) h2 h3 (by rfl) e1 e2 u9 rfl rfl (by rw [h4, nt10_n]; rfl)
  have hr := runA_cons (h5 φ k n s c L L.length) rfl (runA_cons hc rfl (h6 φ k n s c L (HH10 k n c L L.length)))
  rw [p10d]
  have he : evC Try.prog (nt10 φ) Try.f60.ntmps (mask 60) 100 Try.prog.globals.size (.region 11 ops11 false) ⟨TL10 k n s c, HH10 k n c L L.length, 200⟩ = some (.normal, ⟨prune (mask 60) (aset (aset (TL10 k n s c ++ [(47, .slice 144 0 L.length 1), (48, .str L)]) 8 (.str L)) 9 (.int .i64 0)), HH10 k n c L L.length, 200 + 8 * ops11.size⟩) := by
    simp only [evC, regA, h1, hr]
  have hv : evS Try.prog (nt10 φ) Try.f60.ntmps (mask 60) 100 Try.prog.globals.size [.region 11 ops11 false, .ret] ⟨TL10 k n s c, HH10 k n c L L.length, 200⟩ = some (.ret, ⟨prune (mask 60) (aset (aset (TL10 k n s c ++ [(47, .slice 144 0 L.length 1), (48, .str L)]) 8 (.str L)) 9 (.int .i64 0)), HH10 k n c L L.length, 200 + 8 * ops11.size⟩) := by
    rw [evS, he]; rfl
  exact ⟨_, hv, _, _, fin10 L _ _ _ _ _ _⟩
/-! ### Turn -/
theorem hlt10 (k n : List UInt8) (c : UInt32) (L : List UInt8) (m : Nat) : ltH 200 (HH10 k n c L m) = true := by
  unfold HH10
  simp only [ltH, ltL_u8]
  rfl
theorem hc10 (k n : List UInt8) (c : UInt32) (L : List UInt8) (m : Nat) : LessRo (Hc k n c) (HH10 k n c L m) := fun j o h => by
  unfold Hc at h
  rcases aget_cases h with ⟨rfl, rfl⟩ | h
  · exact ⟨false, _, rfl, rfl⟩
  rcases aget_cases h with ⟨rfl, rfl⟩ | h
  · exact ⟨false, _, rfl, rfl⟩
  rcases aget_cases h with ⟨rfl, rfl⟩ | h
  · exact ⟨false, _, rfl, rfl⟩
  simp [aget] at h
def tb (k n : List UInt8) (c : UInt32) (i : Nat) : UInt8 := byteAt k n (c + UInt32.ofNat (i / 64)) (i % 64)
theorem natI (i m : Nat) : ((i : Int) == (m : Int)) = (i == m) := by rw [Bool.eq_iff_iff]; simp only [beq_iff_eq]; omega
theorem ents {P : Program} {f : FuncId} (hb : bodied P f = true) : ∀ args w, (callFunc f args).run P w = .ok (.enter f args) w := by
  obtain ⟨fn, hfn, hbody, hname⟩ := bodied_ok hb
  intro args w
  simp only [callFunc, Sem.run_bind, run_program, Result.andThen_ok, hfn, hname, hbody, Bool.false_eq_true, if_false, Sem.run_pure]
theorem ents10 : ∀ args w, (callFunc 82 args).run Try.prog w = .ok (.enter 82 args) w := ents (by kernel_rfl)
theorem turn_callOk (k n s : List UInt8) (c : UInt32) (hk : may k n = true) (ho : over c s.length = false) (hs : s.length < 1099511627776) : CallOk Try.prog 60 [.str k, .str n, .u32 c, .str s] (.pure (.tup [.str (turnTo (tb k n c) s s.length), .int .i64 0])) := by
  have h1 := segO_pre (nt10_ps _) (w10p realFb k n s c) (by show allT [!over c s.length, !!(may k n)] = true; rw [ho, hk]; rfl)
  have hL : (turnTo (tb k n c) s s.length).length = s.length := turnTo_len _ _ _
  obtain ⟨s2, ht, H', fr', hfin⟩ := tail10 realFb k n s c (turnTo (tb k n c) s s.length)
  rw [hL] at ht
  refine callOk_of (H' := H') (fr' := fr') (fun σ args' w hl hH hg hf => ?_) rfl rfl
  refine runR_ok nt10_ok hmix (nn := mask 60) (F := 100) (fn := Try.f60) (c := bodyOf Try.f60) (by kernel_rfl) (by kernel_rfl) (by kernel_rfl) (l1 := p10.take 4) (l2 := p10.drop 5) p10_eq h1 (N := s.length) (fin := false) (cap := capS) (Hc := Hc k n c) (X := X k n c) (by rfl) ents10 (stream_it hk hs) gl
    (fun i => HH10 k n c (turnTo (tb k n c) s i) s.length) (fun _ _ h => h) (fun i _ => hlt10 k n c _ _) (fun i _ => hc10 k n c _ _) (fun i => rfl) ?_ ?_ (Hf := HH10 k n c (turnTo (tb k n c) s s.length) s.length) (fun h => by cases h) (hlt10 k n c _ _) ?_ ht (.inr rfl) hfin hl hH hg hf
  · intro p hp
    rw [nt10_n]
    simp only [List.mem_cons, List.mem_nil_iff, or_false] at hp
    rcases hp with rfl | rfl <;> decide
  · intro i hi
    have hli : (turnTo (tb k n c) s i).length = s.length := turnTo_len _ _ _
    have hx : (turnTo (tb k n c) s i)[i]? = some (s.getD i 0) := by
      rw [turnTo_get _ _ _ _ hi, if_neg (by omega)]
    have q1 : ((turnTo (tb k n c) s i).map AVal.u8)[0 + ((i : Int).toNat * 1)]? = some (.u8 (s.getD i 0)) := by
      rw [show 0 + ((i : Int).toNat * 1) = i by simp, List.getElem?_map, hx]; rfl
    have q2 := isAt_of q1 (by simp [eqS])
    have q3 : Nat.ble ((0 + ((i : Int).toNat * 1)) + (cellsA (.u8 (s.getD i 0 ^^^ tb k n c i))).length) ((turnTo (tb k n c) s i).map AVal.u8).length = true := by
      rw [show 0 + ((i : Int).toNat * 1) = i by simp, List.length_map, hli]
      exact Nat.ble_eq_true_of_le hi
    have q4 : (decide (0 ≤ (i : Int)) && decide ((i : Int) < (s.length : Int))) = true := by simp; omega
    have q5 : ((i : Int) == (s.length : Int)) = false := by rw [natI]; simp; omega
    obtain ⟨s', e1, e2⟩ := endS_ok (nt10_ps realFb) (w10b realFb k n s (turnTo (tb k n c) s i) c i s.length (tb k n c i) (s.getD i 0)) (by simp only [allT, q2, q3, q4, q5]; rfl)
    rw [evS_one] at e1
    refine ⟨_, s', w10a realFb k n s c _ i (tb k n c i), e1, fun m o hm => ?_⟩
    rw [e2, putA_u8 _ (by rw [hli]; exact hi)]
    exact hm
  · intro _
    obtain ⟨s', e1, e2⟩ := endS_ok (nt10_ps realFb) (w10x realFb k n s (turnTo (tb k n c) s s.length) c s.length s.length (tb k n c s.length)) (by simp [allT])
    rw [evS_one] at e1
    refine ⟨_, s', w10a realFb k n s c _ s.length (tb k n c s.length), e1, fun m o hm => ?_⟩
    rw [e2]
    exact hm
end Go.Proofs.Ytjdhndicgifnbaa.Cha

/- The document's Turn. -/
namespace Go.Proofs.Ytjdhndicgifnbaa.Cha
set_option linter.unusedVariables false
set_option linter.unusedSimpArgs false
open Go Go.Eng Go.Cha
set_option maxRecDepth 100000
set_option maxHeartbeats 1000000
set_option linter.unusedSimpArgs false
set_option linter.unusedVariables false
noncomputable def p11 : List Code := pieces (bodyOf Try.f70)
noncomputable def L11 : Code := loopOf (p11.getD 9 .skip)
theorem p11_9 : p11[9]? = some (.block 0 (.loop L11)) := by kernel_rfl
def T11 (k n s cur : List UInt8) (c : UInt32) (bl : UInt64) (m i : Nat) : TL := [(0, .str k), (1, .str n), (2, .u32 c), (3, .str s), (8, .str []), (9, .int .i64 0), (17, .bool false), (10, .u64 bl), (27, .bool false), (11, .slice 144 0 m 1), (12, .str cur), (13, .int .i64 (i : Int))]
def S11 (k n s cur L : List UInt8) (c : UInt32) (bl : UInt64) (m i : Nat) : SA := ⟨T11 k n s cur c bl m i, [(144, .cells false (L.map .u8))], 176⟩
def bl11 (m : Nat) : UInt64 := UInt64.ofInt (IntKind.wrap .i64 ((m : Int) + 63)) / UInt64.ofNat (Int.toNat 64)
theorem w11p (φ : Fb) (k n s : List UInt8) (c : UInt32) (F : Nat) : segO (evSO Try.prog (psb φ) (nb φ) [17, 27] Try.f70.ntmps (mask 70) F Try.prog.globals.size (p11.take 9) ⟨startT [.str k, .str n, .u32 c, .str s] 0, [], Try.prog.globals.size⟩ ⟨[false, false], [], []⟩) = some (S11 k n s [] s c (bl11 s.length) s.length 0, [!over c s.length, !!(φ.may k n)]) := by kernel_rfl
theorem w11e (φ : Fb) (k n s : List UInt8) (c : UInt32) : ansO (run1O Try.prog (psb φ) (nb φ) [17, 27] [true] [] (mask 70) 100 70 [.str k, .str n, .u32 c, .str s] [] Try.prog.globals.size) = some (.tup [.str [], .int .i64 2], [!(φ.may k n)]) := by kernel_rfl
theorem w11l (φ : Fb) (k n s : List UInt8) (c : UInt32) : ansO (run1O Try.prog (psb φ) (nb φ) [17, 27] [false, true] [] (mask 70) 100 70 [.str k, .str n, .u32 c, .str s] [] Try.prog.globals.size) = some (.tup [.str [], .int .i64 4], [over c s.length, !!(φ.may k n)]) := by kernel_rfl
def sy11 : List Nat := [33, 38, 46, 200045, 51, 52, 56, 58, 100058, 200035]
theorem r11a (φ : Fb) (k n s cur L cur0 L0 : List UInt8) (c cq : UInt32) (bl : UInt64) (m i F y : Nat) (x : UInt8) : roundO2 Try.prog (psb φ) (nb φ) sy11 [true, true] [.u32 cq, .u8 x, .int .i64 (y : Int)] Try.f70.ntmps (mask 70) F Try.prog.globals.size L11 (S11 k n s cur0 L0 c bl m 0) (S11 k n s cur L c bl m i) =
    some (⟨T11 k n s (blkL φ k n cq) c bl m y, [(144, .cells false (putA (L.map .u8) (0 + ((i : Int).toNat * 1)) (cellsA (.u8 (x ^^^ (blkL φ k n cq).getD (Int.toNat (Int.tmod (i : Int) 64)) 0)))))], 176⟩,
      [eqS (.int .i64 (IntKind.wrap .i64 ((i : Int) + 1))) (.int .i64 (y : Int)), Nat.ble ((0 + ((i : Int).toNat * 1)) + (cellsA (.u8 (x ^^^ (blkL φ k n cq).getD (Int.toNat (Int.tmod (i : Int) 64)) 0))).length) (L.map AVal.u8).length, decide (0 ≤ (i : Int)) && decide ((i : Int) < (m : Int)), decide (0 ≤ Int.tmod (i : Int) 64) && decide (Int.tmod (i : Int) 64 < ((blkL φ k n cq).length : Int)), isAt (L.map .u8) (0 + ((i : Int).toNat * 1)) (.u8 x), decide (0 ≤ (i : Int)) && decide ((i : Int) < (m : Int)), φ.may k n, eqS (.u32 (c + UInt32.ofInt (IntKind.wrap .i64 (Int.tdiv (i : Int) 64)))) (.u32 cq), Int.tmod (i : Int) 64 == 0, decide ((i : Int) < (m : Int))]) := by kernel_rfl
theorem r11b (φ : Fb) (k n s cur L cur0 L0 : List UInt8) (c : UInt32) (bl : UInt64) (m i F y : Nat) (x : UInt8) : roundO2 Try.prog (psb φ) (nb φ) sy11 [true, false] [.u8 x, .int .i64 (y : Int)] Try.f70.ntmps (mask 70) F Try.prog.globals.size L11 (S11 k n s cur0 L0 c bl m 0) (S11 k n s cur L c bl m i) =
    some (⟨T11 k n s cur c bl m y, [(144, .cells false (putA (L.map .u8) (0 + ((i : Int).toNat * 1)) (cellsA (.u8 (x ^^^ cur.getD (Int.toNat (Int.tmod (i : Int) 64)) 0)))))], 176⟩,
      [eqS (.int .i64 (IntKind.wrap .i64 ((i : Int) + 1))) (.int .i64 (y : Int)), Nat.ble ((0 + ((i : Int).toNat * 1)) + (cellsA (.u8 (x ^^^ cur.getD (Int.toNat (Int.tmod (i : Int) 64)) 0))).length) (L.map AVal.u8).length, decide (0 ≤ (i : Int)) && decide ((i : Int) < (m : Int)), decide (0 ≤ Int.tmod (i : Int) 64) && decide (Int.tmod (i : Int) 64 < (cur.length : Int)), isAt (L.map .u8) (0 + ((i : Int).toNat * 1)) (.u8 x), decide (0 ≤ (i : Int)) && decide ((i : Int) < (m : Int)), !(Int.tmod (i : Int) 64 == 0), decide ((i : Int) < (m : Int))]) := by kernel_rfl
theorem x11 (φ : Fb) (k n s cur L : List UInt8) (c : UInt32) (bl : UInt64) (m i F : Nat) : evSO Try.prog (psb φ) (nb φ) [33] Try.f70.ntmps (mask 70) F Try.prog.globals.size [L11] (S11 k n s cur L c bl m i) ⟨[false], [], []⟩ = some (.exit 0, ⟨T11 k n s cur c bl m i ++ [(33, .bool false)], [(144, .cells false (L.map .u8))], 208⟩, ⟨[], [], [!(decide ((i : Int) < (m : Int)))]⟩) := by kernel_rfl
/-! ### what stands behind the loop -/
noncomputable def ops14 : Array Oper := opsOf (p11.getD 10 .skip)
theorem p11d : p11.drop 10 = [.region 14 ops14 false, .ret] := by kernel_rfl
theorem split14 : ∃ o0 o1 o2 o3 : Oper, ops14.toList = [o0, o1, o2, o3] ∧ o1.guard = none ∧ o1.op = .convert 55 9 (.tmp 59) ∧ o1.dst = some 60 ∧
    (∀ (φ : Fb) k n s cur c bl m i (H : HL), stepA Try.prog (nb φ) Try.f70.ntmps ops14 208 o0 (T11 k n s cur c bl m i ++ [(33, .bool false)]) H = some (T11 k n s cur c bl m i ++ [(33, .bool false), (59, .slice 144 0 m 1)], H)) ∧
    (∀ (φ : Fb) k n s cur c bl i (L : List UInt8) (H : HL), runA Try.prog (nb φ) Try.f70.ntmps ops14 [o2, o3] 224 (T11 k n s cur c bl L.length i ++ [(33, .bool false), (59, .slice 144 0 L.length 1), (60, .str L)]) H = some (aset (aset (T11 k n s cur c bl L.length i ++ [(33, .bool false), (59, .slice 144 0 L.length 1), (60, .str L)]) 8 (.str L)) 9 (.int .i64 0), H)) :=
  ⟨ops14[0]!, ops14[1]!, ops14[2]!, ops14[3]!, by kernel_rfl, by kernel_rfl, by kernel_rfl, by kernel_rfl, fun φ k n s cur c bl m i H => by kernel_rfl, fun φ k n s cur c bl i L H => by kernel_rfl⟩
theorem nt11_n : Try.f70.ntmps = 61 := by kernel_rfl
theorem fin11 (L k n s cur : List UInt8) (c : UInt32) (bl : UInt64) (i : Nat) (H : HL) (fr : Nat) : finV Try.prog Try.f70 (some (.ret, ⟨prune (mask 70) (aset (aset (T11 k n s cur c bl L.length i ++ [(33, .bool false), (59, .slice 144 0 L.length 1), (60, .str L)]) 8 (.str L)) 9 (.int .i64 0)), H, fr⟩)) = some (.tup [.str L, .int .i64 0]) := by kernel_rfl
theorem tail11 (φ : Fb) (k n s cur : List UInt8) (c : UInt32) (bl : UInt64) (i F : Nat) (L : List UInt8) : finV Try.prog Try.f70 (evS Try.prog (nb φ) Try.f70.ntmps (mask 70) F Try.prog.globals.size (p11.drop 10) ⟨T11 k n s cur c bl L.length i ++ [(33, .bool false)], [(144, .cells false (L.map .u8))], 208⟩) = some (.tup [.str L, .int .i64 0]) := by
  obtain ⟨o0, o1, o2, o3, h1, h2, h3, h4, h5, h6⟩ := split14
  obtain ⟨e, e1, e2⟩ := u36
  have hc := conv_bytes (P := Try.prog) (cs := nb φ) (nt := Try.f70.ntmps) (base := 216) (ops := ops14) (T := T11 k n s cur c bl L.length i ++ [(33, .bool false), (59, .slice 144 0 L.length 1)]) (T' := T11 k n s cur c bl L.length i ++ [(33, .bool false), (59, .slice 144 0 L.length 1), (60, .str L)]) (H := [(144, .cells false (L.map .u8))]) (n := 144) (m := L.length) (L := L) (ro := false) h2 h3 (by rfl) e1 e2 u9 rfl rfl (by rw [h4, nt11_n]; rfl)
  have hr := runA_cons (h5 φ k n s cur c bl L.length i [(144, .cells false (L.map .u8))]) rfl (runA_cons hc rfl (h6 φ k n s cur c bl i L [(144, .cells false (L.map .u8))]))
  rw [p11d]
  have he : evC Try.prog (nb φ) Try.f70.ntmps (mask 70) F Try.prog.globals.size (.region 14 ops14 false) ⟨T11 k n s cur c bl L.length i ++ [(33, .bool false)], [(144, .cells false (L.map .u8))], 208⟩ = some (.normal, ⟨prune (mask 70) (aset (aset (T11 k n s cur c bl L.length i ++ [(33, .bool false), (59, .slice 144 0 L.length 1), (60, .str L)]) 8 (.str L)) 9 (.int .i64 0)), [(144, .cells false (L.map .u8))], 208 + 8 * ops14.size⟩) := by
    simp only [evC, regA, h1, hr]
  rw [evS, he]
  exact fin11 L k n s cur c bl i _ _
end Go.Proofs.Ytjdhndicgifnbaa.Cha

/- Turn, the program's and the document's, as summaries. -/
namespace Go.Proofs.Ytjdhndicgifnbaa.Cha
set_option linter.unusedVariables false
set_option linter.unusedSimpArgs false
open Go Go.Eng Go.Cha
set_option maxRecDepth 100000
set_option maxHeartbeats 1000000
set_option linter.unusedSimpArgs false
set_option linter.unusedVariables false
def curOf (k n : List UInt8) (c : UInt32) : Nat → List UInt8
  | 0 => []
  | i + 1 => blkL realFb k n (c + UInt32.ofNat (i / 64))
theorem curOf_eq (k n : List UInt8) (c : UInt32) {i : Nat} (h : ¬ i % 64 = 0) : curOf k n c i = blkL realFb k n (c + UInt32.ofNat (i / 64)) := by
  cases i with
  | zero => exact absurd rfl h
  | succ i =>
    have e : (i + 1) / 64 = i / 64 := by omega
    rw [e]
    rfl
theorem blkL_len (φ : Fb) (k n : List UInt8) (c : UInt32) : (blkL φ k n c).length = 64 := by unfold blkL; simp
theorem blkL_get (φ : Fb) (k n : List UInt8) (c : UInt32) {j : Nat} (h : j < 64) : (blkL φ k n c).getD j 0 = φ.bb k n c j := by
  unfold blkL
  rw [List.getD_eq_getElem?_getD, List.getElem?_map, List.getElem?_range h]; rfl
theorem tmodN (i : Nat) : Int.tmod (i : Int) 64 = ((i % 64 : Nat) : Int) := (Int.ofNat_tmod i 64).symm
theorem tdivN (i : Nat) : Int.tdiv (i : Int) 64 = ((i / 64 : Nat) : Int) := (Int.ofNat_tdiv i 64).symm
def I11 (k n s : List UInt8) (c : UInt32) (i : Nat) : SA := S11 k n s (curOf k n c i) (turnTo (tb k n c) s i) c (bl11 s.length) s.length i
theorem ok11 (k n s cur L : List UInt8) (c : UInt32) (bl : UInt64) (m i : Nat) : okS Try.prog (S11 k n s cur L c bl m i) = true := by
  have h : Nat.ble Try.prog.globals.size 176 = true := by kernel_rfl
  have h2 : ltL 176 (L.map AVal.u8) = true := ltL_u8 176 L
  have h3 : ltH 176 [(144, AObj.cells false (L.map AVal.u8))] = true := by
    simp only [ltH, h2]; rfl
  unfold okS S11
  simp only [h, h3]
  rfl
theorem step11 {k n s : List UInt8} {c : UInt32} (hk : may k n = true) (hs : s.length < 1099511627776) (F : Nat) : ∀ i, i < s.length → roundA (evC Try.prog (nb realFb) Try.f70.ntmps (mask 70) F Try.prog.globals.size L11) (headA Try.prog Try.prog.globals.size (I11 k n s c 0)) (I11 k n s c i) = some (I11 k n s c (i + 1)) := fun i hi => by
  have hli : (turnTo (tb k n c) s i).length = s.length := turnTo_len _ _ _
  have hx : (turnTo (tb k n c) s i)[i]? = some (s.getD i 0) := by rw [turnTo_get _ _ _ _ hi, if_neg (by omega)]
  have ei : 0 + ((i : Int).toNat * 1) = i := by simp
  have q1 : ((turnTo (tb k n c) s i).map AVal.u8)[0 + ((i : Int).toNat * 1)]? = some (.u8 (s.getD i 0)) := by rw [ei, List.getElem?_map, hx]; rfl
  have q2 := isAt_of q1 (by simp [eqS])
  have q3 : ∀ x : UInt8, Nat.ble ((0 + ((i : Int).toNat * 1)) + (cellsA (.u8 x)).length) ((turnTo (tb k n c) s i).map AVal.u8).length = true := fun x => by
    rw [ei, List.length_map, hli]
    exact Nat.ble_eq_true_of_le hi
  have q4 : (decide (0 ≤ (i : Int)) && decide ((i : Int) < (s.length : Int))) = true := by simp; omega
  have q5 : eqS (.int .i64 (IntKind.wrap .i64 ((i : Int) + 1))) (.int .i64 ((i + 1 : Nat) : Int)) = true := wrap_add (x := i) (j := 1) (by omega)
  have q6 : decide ((i : Int) < (s.length : Int)) = true := decide_eq_true (by omega)
  have q0 : decide (0 ≤ (i : Int)) = true := decide_eq_true (by omega)
  have tn : Int.toNat (Int.tmod (i : Int) 64) = i % 64 := by rw [tmodN, Int.toNat_natCast]
  have q7 : ∀ cur : List UInt8, cur.length = 64 → (decide (0 ≤ Int.tmod (i : Int) 64) && decide (Int.tmod (i : Int) 64 < (cur.length : Int))) = true := fun cur hc => by
    rw [tmodN, hc]
    simp only [Bool.and_eq_true, decide_eq_true_eq]
    omega
  have fin : ∀ cur : List UInt8, cur = blkL realFb k n (c + UInt32.ofNat (i / 64)) → (⟨T11 k n s cur c (bl11 s.length) s.length (i + 1), [(144, .cells false (putA ((turnTo (tb k n c) s i).map .u8) (0 + ((i : Int).toNat * 1)) (cellsA (.u8 (s.getD i 0 ^^^ cur.getD (Int.toNat (Int.tmod (i : Int) 64)) 0)))))], 176⟩ : SA) = I11 k n s c (i + 1) := fun cur hc => by
    rw [putA_u8 _ (by rw [hli]; exact hi), tn, hc, blkL_get _ _ _ _ (by omega)]
    rfl
  by_cases h64 : i % 64 = 0
  · have h := r11a realFb k n s (curOf k n c i) (turnTo (tb k n c) s i) (curOf k n c 0) (turnTo (tb k n c) s 0) c (c + UInt32.ofNat (i / 64)) (bl11 s.length) s.length i F (i + 1) (s.getD i 0)
    rw [fin _ rfl] at h
    refine roundO2_ok (nb_ps _) h ?_ (ok11 _ _ _ _ _ _ _ _ _)
    have q8 : (Int.tmod (i : Int) 64 == 0) = true := by rw [tmodN, h64]; rfl
    have q9 : eqS (.u32 (c + UInt32.ofInt (IntKind.wrap .i64 (Int.tdiv (i : Int) 64)))) (.u32 (c + UInt32.ofNat (i / 64))) = true := by
      refine eqS_u32 ?_
      rw [tdivN, wrapI _ (by omega) (by omega), ofInt32]
    have q10 : realFb.may k n = true := hk
    simp only [allT, q2, q3, q0, q5, q6, Bool.and_true, q7 _ (blkL_len realFb k n (c + UInt32.ofNat (i / 64))), q8, q9, q10, cond_true]
  · have hcur := curOf_eq k n c h64
    have h := r11b realFb k n s (curOf k n c i) (turnTo (tb k n c) s i) (curOf k n c 0) (turnTo (tb k n c) s 0) c (bl11 s.length) s.length i F (i + 1) (s.getD i 0)
    rw [fin _ hcur] at h
    refine roundO2_ok (nb_ps _) h ?_ (ok11 _ _ _ _ _ _ _ _ _)
    have q8 : (Int.tmod (i : Int) 64 == 0) = false := by
      rw [tmodN]
      simp only [beq_eq_false_iff_ne, ne_eq]
      omega
    have hl : (curOf k n c i).length = 64 := by rw [hcur, blkL_len]
    simp only [allT, q2, q3, q0, q5, q6, Bool.and_true, q7 _ hl, q8, cond_true, Bool.not_false]
theorem run11 {k n s : List UInt8} {c : UInt32} (hk : may k n = true) (ho : over c s.length = false) (hs : s.length < 1099511627776) : (run1 Try.prog (nb realFb) (mask 70) (s.length + 1) 70 [.str k, .str n, .u32 c, .str s] [] Try.prog.globals.size).map (·.1) = some (.tup [.str (turnTo (tb k n c) s s.length), .int .i64 0]) := by
  have hL : (turnTo (tb k n c) s s.length).length = s.length := turnTo_len _ _ _
  have hp := segO_pre (nb_ps _) (w11p realFb k n s c (s.length + 1)) (by show allT [!over c s.length, !!(may k n)] = true; rw [ho, hk]; rfl)
  have hx := (evSO_ok (nb_ps _) _ _ _ _ _ _ (x11 realFb k n s (curOf k n c s.length) (turnTo (tb k n c) s s.length) c (bl11 s.length) s.length s.length (s.length + 1)) (by simp [allT])).1
  rw [evS_one] at hx
  have ht := tail11 realFb k n s (curOf k n c s.length) c (bl11 s.length) s.length (s.length + 1) (turnTo (tb k n c) s s.length)
  rw [hL] at ht
  exact run_loop (fn := Try.f70) (c := bodyOf Try.f70) (by kernel_rfl) (by kernel_rfl) (by kernel_rfl) 9 p11_9 (I11 k n s c) s.length hp (step11 hk hs _) hx (by omega) ht
/-! ### as summaries -/
def tvR (k n : List UInt8) (c : UInt32) (s : List UInt8) : List UInt8 := cond (may k n) (cond (over c s.length) [] (turnTo (tb k n c) s s.length)) []
def trR (k n : List UInt8) (c : UInt32) (s : List UInt8) : Int := cond (may k n) (cond (over c s.length) 4 0) 2
def shortB (s : List UInt8) : Bool := Nat.ble s.length 1099511627775
theorem call10 (k n s : List UInt8) (c : UInt32) (h : shortB s = true) : CallOk Try.prog 60 [.str k, .str n, .u32 c, .str s] (.pure (.tup [.str (tvR k n c s), .int .i64 (trR k n c s)])) := by
  have hs := Nat.le_of_ble_eq_true h
  unfold tvR trR
  cases hk : may k n
  · exact callOk_val nt10_ok hmix (ansO_run (nt10_ps _) (w10e realFb k n s c) (by show allT [!(may k n)] = true; rw [hk]; rfl)) rfl rfl
  cases ho : over c s.length
  · exact turn_callOk k n s c hk ho (by omega)
  · exact callOk_val nt10_ok hmix (ansO_run (nt10_ps _) (w10l realFb k n s c) (by show allT [over c s.length, !!(may k n)] = true; rw [ho, hk]; rfl)) rfl rfl
theorem call11 (k n s : List UInt8) (c : UInt32) (h : shortB s = true) : CallOk Try.prog 70 [.str k, .str n, .u32 c, .str s] (.pure (.tup [.str (tvR k n c s), .int .i64 (trR k n c s)])) := by
  have hs := Nat.le_of_ble_eq_true h
  unfold tvR trR
  cases hk : may k n
  · exact callOk_val nb_ok hmix (ansO_run (nb_ps _) (w11e realFb k n s c) (by show allT [!(may k n)] = true; rw [hk]; rfl)) rfl rfl
  cases ho : over c s.length
  · exact callOk_val nb_ok hmix (run11 hk ho (by omega)) rfl rfl
  · exact callOk_val nb_ok hmix (ansO_run (nb_ps _) (w11l realFb k n s c) (by show allT [over c s.length, !!(may k n)] = true; rw [ho, hk]; rfl)) rfl rfl
structure Ft where
  tv : List UInt8 → List UInt8 → UInt32 → List UInt8 → List UInt8
  tr : List UInt8 → List UInt8 → UInt32 → List UInt8 → Int
  sh : List UInt8 → Bool
def realFt : Ft := ⟨tvR, trR, shortB⟩
def k10 (φ : Ft) : List AVal → Option (EffA × Bool)
  | [.str a, .str b, .u32 c, .str s] => some (.pure (.tup [.str (φ.tv a b c s), .int .i64 (φ.tr a b c s)]), φ.sh s)
  | _ => none
theorem k10_ok : CSOk Try.prog (csP (psOne 60 (k10 realFt))) := csP_one fun args v he => by
  unfold k10 at he
  split at he
  · rename_i a b c s
    simp only [Option.some.injEq, Prod.mk.injEq] at he
    obtain ⟨rfl, h⟩ := he
    exact call10 a b s c h
  · cases he
theorem k11_ok : CSOk Try.prog (csP (psOne 70 (k10 realFt))) := csP_one fun args v he => by
  unfold k10 at he
  split at he
  · rename_i a b c s
    simp only [Option.some.injEq, Prod.mk.injEq] at he
    obtain ⟨rfl, h⟩ := he
    exact call11 a b s c h
  · cases he
end Go.Proofs.Ytjdhndicgifnbaa.Cha

/- Numbers in parts, over Nat: carrying, products, what is modulo 2^130 - 5. -/
namespace Go.Poly
set_option linter.unusedVariables false
set_option linter.unusedSimpArgs false
set_option maxRecDepth 100000
set_option linter.unusedSimpArgs false
set_option linter.unusedVariables false
/-- The value of the first n parts, in base b. -/
def vN (b : Nat) (x : Nat → Nat) : Nat → Nat
  | 0 => 0
  | n + 1 => vN b x n + x n * b ^ n
/-- Sums with what is carried. -/
def chN (b : Nat) (x : Nat → Nat) : Nat → Nat
  | 0 => x 0
  | j + 1 => x (j + 1) + chN b x j / b
theorem vN_congr {b : Nat} {x y : Nat → Nat} : ∀ {n : Nat}, (∀ i, i < n → x i = y i) → vN b x n = vN b y n
  | 0, _ => rfl
  | n + 1, h => by
    show vN b x n + _ = vN b y n + _
    rw [vN_congr (n := n) fun i hi => h i (by omega), h n (by omega)]
theorem carry_val (b : Nat) (x : Nat → Nat) : ∀ n, vN b x (n + 1) = vN b (fun i => chN b x i % b) (n + 1) + chN b x n / b * b ^ (n + 1)
  | 0 => by
    show 0 + x 0 * b ^ 0 = 0 + x 0 % b * b ^ 0 + x 0 / b * b ^ 1
    have := Nat.mod_add_div (x 0) b
    rw [Nat.pow_zero, Nat.pow_one, Nat.mul_comm (x 0 / b) b]
    omega
  | n + 1 => by
    show vN b x (n + 1) + x (n + 1) * b ^ (n + 1) = (vN b (fun i => chN b x i % b) (n + 1) + chN b x (n + 1) % b * b ^ (n + 1)) + chN b x (n + 1) / b * b ^ (n + 2)
    rw [carry_val b x n]
    have e : chN b x (n + 1) = x (n + 1) + chN b x n / b := rfl
    have h := Nat.mod_add_div (chN b x (n + 1)) b
    have e2 : b ^ (n + 2) = b * b ^ (n + 1) := by rw [Nat.pow_succ, Nat.mul_comm]
    have h2 : chN b x (n + 1) * b ^ (n + 1) = chN b x (n + 1) % b * b ^ (n + 1) + chN b x (n + 1) / b * (b * b ^ (n + 1)) := by
      conv => lhs; rw [← h]
      rw [Nat.add_mul, Nat.mul_assoc, Nat.mul_left_comm]
    have h3 : chN b x (n + 1) * b ^ (n + 1) = x (n + 1) * b ^ (n + 1) + chN b x n / b * b ^ (n + 1) := by rw [e, Nat.add_mul]
    rw [e2]
    omega
theorem vN_lt {b : Nat} (hb : 0 < b) {x : Nat → Nat} : ∀ {n : Nat}, (∀ i, i < n → x i < b) → vN b x n < b ^ n
  | 0, _ => by simp [vN]
  | n + 1, h => by
    have h1 := vN_lt hb (n := n) fun i hi => h i (by omega)
    have h2 : x n * b ^ n ≤ (b - 1) * b ^ n := Nat.mul_le_mul_right _ (by have := h n (by omega); omega)
    show vN b x n + x n * b ^ n < b ^ (n + 1)
    have h3 : b ^ (n + 1) = (b - 1) * b ^ n + b ^ n := by
      have : (b - 1) * b ^ n + b ^ n = (b - 1 + 1) * b ^ n := by rw [Nat.add_mul, Nat.one_mul]
      rw [this, Nat.sub_add_cancel hb, Nat.pow_succ, Nat.mul_comm]
    omega
theorem vN_digit {b : Nat} (hb : 0 < b) {x : Nat → Nat} {n : Nat} (h : ∀ i, i < n → x i < b) {i : Nat} (hi : i < n) : vN b x n / b ^ i % b = x i := by
  induction n with
  | zero => omega
  | succ n ih =>
    show (vN b x n + x n * b ^ n) / b ^ i % b = x i
    by_cases e : i = n
    · subst e
      have h1 := vN_lt hb (n := i) (x := x) fun j hj => h j (by omega)
      rw [Nat.add_mul_div_right _ _ (Nat.pow_pos hb), Nat.div_eq_of_lt h1, Nat.zero_add, Nat.mod_eq_of_lt (h i (by omega))]
    · have e2 : x n * b ^ n = (x n * b ^ (n - i - 1) * b) * b ^ i := by
        have : b ^ n = b ^ (n - i - 1) * b * b ^ i := by
          rw [← Nat.pow_succ, ← Nat.pow_add]
          congr 1
          omega
        rw [this]
        simp only [Nat.mul_assoc]
      rw [e2, Nat.add_mul_div_right _ _ (Nat.pow_pos hb), Nat.add_mul_mod_self_right]
      exact ih (fun j hj => h j (by omega)) (by omega)
/-- A part that is 0 where the value is small. -/
theorem vN_high {b : Nat} (hb : 0 < b) {x : Nat → Nat} {n k : Nat} (h : vN b x n < b ^ k) {i : Nat} (hk : k ≤ i) (hi : i < n) : x i = 0 := by
  induction n with
  | zero => omega
  | succ n ih =>
    have e : vN b x (n + 1) = vN b x n + x n * b ^ n := rfl
    by_cases hin : i = n
    · subst hin
      have h1 : b ^ k ≤ b ^ i := Nat.pow_le_pow_right hb hk
      by_cases hz : x i = 0
      · exact hz
      · have : 1 * b ^ i ≤ x i * b ^ i := Nat.mul_le_mul_right _ (by omega)
        omega
    · exact ih (by omega) (by omega)
theorem vN_zero (b : Nat) {x : Nat → Nat} : ∀ {n : Nat}, (∀ i, i < n → x i = 0) → vN b x n = 0
  | 0, _ => rfl
  | n + 1, h => by
    show vN b x n + x n * b ^ n = 0
    rw [vN_zero b (n := n) fun i hi => h i (by omega), h n (by omega), Nat.zero_mul]
theorem vN_add (b : Nat) (x y : Nat → Nat) : ∀ n, vN b (fun i => x i + y i) n = vN b x n + vN b y n
  | 0 => rfl
  | n + 1 => by
    show vN b (fun i => x i + y i) n + (x n + y n) * b ^ n = (vN b x n + x n * b ^ n) + (vN b y n + y n * b ^ n)
    rw [vN_add b x y n, Nat.add_mul]
    omega
theorem vN_mul (b c : Nat) (x : Nat → Nat) : ∀ n, vN b (fun i => c * x i) n = c * vN b x n
  | 0 => rfl
  | n + 1 => by
    show vN b (fun i => c * x i) n + c * x n * b ^ n = c * (vN b x n + x n * b ^ n)
    rw [vN_mul b c x n, Nat.mul_add, Nat.mul_assoc]
/-- One part more. -/
theorem vN_upd (b : Nat) (x : Nat → Nat) (k v : Nat) : ∀ n, k < n → vN b (fun i => if i = k then x k + v else x i) n = vN b x n + v * b ^ k
  | 0, h => by omega
  | n + 1, h => by
    show vN b (fun i => if i = k then x k + v else x i) n + (if n = k then x k + v else x n) * b ^ n = (vN b x n + x n * b ^ n) + v * b ^ k
    by_cases e : n = k
    · subst e
      rw [if_pos rfl, Nat.add_mul, vN_congr (y := x) fun i hi => by rw [if_neg (by omega)]]
      omega
    · rw [if_neg e, vN_upd b x k v n (by omega)]
      omega
theorem ch_bound {b : Nat} (hb : 2 ≤ b) {x : Nat → Nat} {M : Nat} : ∀ {j : Nat}, (∀ i, i ≤ j → x i ≤ M) → chN b x j ≤ 2 * M
  | 0, h => by have := h 0 (by omega); show x 0 ≤ 2 * M; omega
  | j + 1, h => by
    have h1 := ch_bound hb (j := j) fun i hi => h i (by omega)
    have h2 : chN b x j / b ≤ M := by
      rw [Nat.div_le_iff_le_mul_add_pred (by omega)]
      have : 2 * M ≤ b * M := Nat.mul_le_mul_right _ hb
      omega
    have := h (j + 1) (by omega)
    show x (j + 1) + chN b x j / b ≤ 2 * M
    omega
/-! ### products -/
/-- What row k adds. -/
def rowN (y : Nat → Nat) (c k w : Nat) (m : Nat) : Nat := if k ≤ m ∧ m < k + w then c * y (m - k) else 0
theorem row_val (b : Nat) (y : Nat → Nat) (c k w : Nat) : ∀ n, vN b (rowN y c k w) (k + n) = c * b ^ k * vN b y (min n w)
  | 0 => by
    rw [Nat.add_zero, Nat.zero_min]
    show _ = c * b ^ k * 0
    rw [Nat.mul_zero]
    exact vN_zero b fun i hi => by unfold rowN; rw [if_neg (by omega)]
  | n + 1 => by
    show vN b (rowN y c k w) (k + n) + rowN y c k w (k + n) * b ^ (k + n) = _
    rw [row_val b y c k w n]
    unfold rowN
    by_cases h : n < w
    · rw [if_pos (by omega), Nat.add_sub_cancel_left, Nat.min_eq_left (by omega), Nat.min_eq_left (by omega)]
      show _ = c * b ^ k * (vN b y n + y n * b ^ n)
      rw [Nat.mul_add, Nat.pow_add]
      congr 1
      simp only [Nat.mul_assoc, Nat.mul_left_comm, Nat.mul_comm]
    · rw [if_neg (by omega), Nat.min_eq_right (by omega), Nat.min_eq_right (by omega), Nat.zero_mul, Nat.add_zero]
/-- The product's parts, of the first rows. -/
def prN (x y : Nat → Nat) (w : Nat) (m : Nat) : Nat → Nat
  | 0 => 0
  | i + 1 => prN x y w m i + rowN y (x i) i w m
theorem pr_val (b : Nat) (x y : Nat → Nat) (w N : Nat) : ∀ r, r + w ≤ N → vN b (fun m => prN x y w m r) N = vN b x r * vN b y w
  | 0, _ => by
    show vN b (fun m => 0) N = 0 * _
    rw [Nat.zero_mul]
    exact vN_zero b fun _ _ => rfl
  | r + 1, h => by
    show vN b (fun m => prN x y w m r + rowN y (x r) r w m) N = (vN b x r + x r * b ^ r) * vN b y w
    rw [vN_add, pr_val b x y w N r (by omega), Nat.add_mul]
    congr 1
    obtain ⟨n, rfl⟩ : ∃ n, N = r + n := ⟨N - r, by omega⟩
    have := row_val b y (x r) r w n
    rw [Nat.min_eq_right (by omega)] at this
    exact this
/-! ### 2^130 and 5 -/
def Pp : Nat := 2 ^ 130 - 5
theorem Pp_eq : 2 ^ 130 = Pp + 5 := by unfold Pp; omega
theorem Pp_pos : 0 < Pp := by unfold Pp; omega
theorem fold_top (a b : Nat) : (a + b * 2 ^ 130) % Pp = (a + 5 * b) % Pp := by
  rw [Pp_eq, Nat.mul_add, Nat.mul_comm b 5, show a + (b * Pp + 5 * b) = a + 5 * b + b * Pp by omega, Nat.add_mul_mod_self_right]
theorem mod_mul {a a' b b' : Nat} (h : a % Pp = a' % Pp) (h' : b % Pp = b' % Pp) : a * b % Pp = a' * b' % Pp := by rw [Nat.mul_mod, h, h', ← Nat.mul_mod]
theorem mod_add {a a' b b' : Nat} (h : a % Pp = a' % Pp) (h' : b % Pp = b' % Pp) : (a + b) % Pp = (a' + b') % Pp := by rw [Nat.add_mod, h, h', ← Nat.add_mod]
end Go.Poly

/- Numbers in five parts of 26 bits and in 18 parts of 8 bits, over Nat. -/
namespace Go.Poly
set_option linter.unusedVariables false
set_option linter.unusedSimpArgs false
set_option maxRecDepth 100000
set_option linter.unusedSimpArgs false
set_option linter.unusedVariables false
abbrev B26 : Nat := 67108864
/-! ### five parts -/
def pass5 (X : Nat → Nat) (j : Nat) : Nat := if j = 0 then chN B26 X 0 % B26 + 5 * (chN B26 X 4 / B26) else chN B26 X j % B26
theorem pass5_val (X : Nat → Nat) : vN B26 (pass5 X) 5 = vN B26 (fun i => chN B26 X i % B26) 5 + 5 * (chN B26 X 4 / B26) := by
  have h := vN_upd B26 (fun i => chN B26 X i % B26) 0 (5 * (chN B26 X 4 / B26)) 5 (by omega)
  rw [Nat.pow_zero, Nat.mul_one] at h
  rw [← h]
  exact vN_congr fun i hi => by
    show (if i = 0 then _ else _) = if i = 0 then _ else _
    by_cases e : i = 0
    · subst e; rfl
    · rw [if_neg e]
theorem pass5_mod (X : Nat → Nat) : vN B26 (pass5 X) 5 % Pp = vN B26 X 5 % Pp := by
  rw [pass5_val, carry_val B26 X 4, show B26 ^ (4 + 1) = 2 ^ 130 by rfl, fold_top]
def N5 (X : Nat → Nat) : Prop := X 0 < 67108869 ∧ ∀ i, 0 < i → i < 5 → X i < B26
def T5 (X : Nat → Nat) : Prop := ∀ i, i < 5 → X i < B26
theorem ch5 (X : Nat → Nat) : chN B26 X 0 = X 0 ∧ chN B26 X 1 = X 1 + chN B26 X 0 / B26 ∧ chN B26 X 2 = X 2 + chN B26 X 1 / B26 ∧ chN B26 X 3 = X 3 + chN B26 X 2 / B26 ∧ chN B26 X 4 = X 4 + chN B26 X 3 / B26 := ⟨rfl, rfl, rfl, rfl, rfl⟩
theorem i5 {P : Nat → Prop} (h0 : P 0) (h1 : P 1) (h2 : P 2) (h3 : P 3) (h4 : P 4) : ∀ i, i < 5 → P i := fun i hi => by
  match i, hi with
  | 0, _ => exact h0
  | 1, _ => exact h1
  | 2, _ => exact h2
  | 3, _ => exact h3
  | 4, _ => exact h4
theorem p5 (X : Nat → Nat) : pass5 X 0 = chN B26 X 0 % B26 + 5 * (chN B26 X 4 / B26) ∧ pass5 X 1 = chN B26 X 1 % B26 ∧ pass5 X 2 = chN B26 X 2 % B26 ∧ pass5 X 3 = chN B26 X 3 % B26 ∧ pass5 X 4 = chN B26 X 4 % B26 := ⟨rfl, rfl, rfl, rfl, rfl⟩
theorem pass5_1 {X : Nat → Nat} (h : ∀ i, i < 5 → X i < 4611686018427387904) : pass5 X 0 < 1099511627776 ∧ ∀ i, 0 < i → i < 5 → pass5 X i < B26 := by
  obtain ⟨c0, c1, c2, c3, c4⟩ := ch5 X
  obtain ⟨q0, q1, q2, q3, q4⟩ := p5 X
  have h0 := h 0 (by omega)
  have h1 := h 1 (by omega)
  have h2 := h 2 (by omega)
  have h3 := h 3 (by omega)
  have h4 := h 4 (by omega)
  unfold B26 at *
  refine ⟨by omega, fun i hi h5 => ?_⟩
  have : i = 1 ∨ i = 2 ∨ i = 3 ∨ i = 4 := by omega
  rcases this with rfl | rfl | rfl | rfl <;> omega
theorem pass5_2 {X : Nat → Nat} (h0 : X 0 < 1099511627776) (h : ∀ i, 0 < i → i < 5 → X i < B26) : N5 (pass5 X) := by
  obtain ⟨c0, c1, c2, c3, c4⟩ := ch5 X
  obtain ⟨q0, q1, q2, q3, q4⟩ := p5 X
  have h1 := h 1 (by omega) (by omega)
  have h2 := h 2 (by omega) (by omega)
  have h3 := h 3 (by omega) (by omega)
  have h4 := h 4 (by omega) (by omega)
  unfold N5
  unfold B26 at *
  refine ⟨by omega, fun i hi h5 => ?_⟩
  have : i = 1 ∨ i = 2 ∨ i = 3 ∨ i = 4 := by omega
  rcases this with rfl | rfl | rfl | rfl <;> omega
theorem pass5_3 {X : Nat → Nat} (h : N5 X) : T5 (pass5 X) := by
  obtain ⟨h0, h⟩ := h
  obtain ⟨c0, c1, c2, c3, c4⟩ := ch5 X
  obtain ⟨q0, q1, q2, q3, q4⟩ := p5 X
  have h1 := h 1 (by omega) (by omega)
  have h2 := h 2 (by omega) (by omega)
  have h3 := h 3 (by omega) (by omega)
  have h4 := h 4 (by omega) (by omega)
  unfold T5
  unfold B26 at *
  exact i5 (by omega) (by omega) (by omega) (by omega) (by omega)
theorem N5_of {X : Nat → Nat} (h : T5 X) : N5 X := ⟨by have := h 0 (by omega); unfold B26 at this; omega, fun i _ hi => h i hi⟩
theorem N5_lt {X : Nat → Nat} (h : N5 X) : ∀ i, i < 5 → X i < 67108869 := fun i hi => by
  by_cases e : i = 0
  · subst e; exact h.1
  · have := h.2 i (by omega) hi
    unfold B26 at this
    omega
def carN5 (X : Nat → Nat) : Nat → Nat := pass5 (pass5 X)
theorem carN5_ok {X : Nat → Nat} (h : ∀ i, i < 5 → X i < 4611686018427387904) : N5 (carN5 X) := by
  obtain ⟨a, b⟩ := pass5_1 h
  exact pass5_2 a b
theorem carN5_tight {X : Nat → Nat} (h : N5 X) : T5 (carN5 X) := pass5_3 (N5_of (pass5_3 h))
theorem carN5_mod (X : Nat → Nat) : vN B26 (carN5 X) 5 % Pp = vN B26 X 5 % Pp := by
  unfold carN5
  rw [pass5_mod, pass5_mod]
/-! products of five parts -/
def zN (x y : Nat → Nat) (j : Nat) : Nat → Nat
  | 0 => 0
  | i + 1 => zN x y j i + x i * (if i ≤ j then y (j - i) else y (j + 5 - i) * 5)
theorem zN_poly (b p x0 x1 x2 x3 x4 y0 y1 y2 y3 y4 : Int) (hb : b ^ 5 = p + 5) :
    (x0 * y0 + x1 * (y4 * 5) + x2 * (y3 * 5) + x3 * (y2 * 5) + x4 * (y1 * 5)) + (x0 * y1 + x1 * y0 + x2 * (y4 * 5) + x3 * (y3 * 5) + x4 * (y2 * 5)) * b + (x0 * y2 + x1 * y1 + x2 * y0 + x3 * (y4 * 5) + x4 * (y3 * 5)) * b ^ 2 + (x0 * y3 + x1 * y2 + x2 * y1 + x3 * y0 + x4 * (y4 * 5)) * b ^ 3 + (x0 * y4 + x1 * y3 + x2 * y2 + x3 * y1 + x4 * y0) * b ^ 4
      + p * ((x1 * y4 + x2 * y3 + x3 * y2 + x4 * y1) + (x2 * y4 + x3 * y3 + x4 * y2) * b + (x3 * y4 + x4 * y3) * b ^ 2 + x4 * y4 * b ^ 3)
    = (x0 + x1 * b + x2 * b ^ 2 + x3 * b ^ 3 + x4 * b ^ 4) * (y0 + y1 * b + y2 * b ^ 2 + y3 * b ^ 3 + y4 * b ^ 4) := by
  have hp : p = b ^ 5 - 5 := by omega
  subst hp
  grind -lia -linarith
/-- The product of five parts. -/
theorem zN_mod (x y : Nat → Nat) : vN B26 (fun j => zN x y j 5) 5 % Pp = vN B26 x 5 * vN B26 y 5 % Pp := by
  have h := zN_poly 67108864 (Pp : Int) (x 0) (x 1) (x 2) (x 3) (x 4) (y 0) (y 1) (y 2) (y 3) (y 4) (by unfold Pp; decide)
  have e1 : vN B26 (fun j => zN x y j 5) 5 = 0 + (x 0 * y 0 + x 1 * (y 4 * 5) + x 2 * (y 3 * 5) + x 3 * (y 2 * 5) + x 4 * (y 1 * 5)) * 67108864 ^ 0 + (x 0 * y 1 + x 1 * y 0 + x 2 * (y 4 * 5) + x 3 * (y 3 * 5) + x 4 * (y 2 * 5)) * 67108864 ^ 1 + (x 0 * y 2 + x 1 * y 1 + x 2 * y 0 + x 3 * (y 4 * 5) + x 4 * (y 3 * 5)) * 67108864 ^ 2 + (x 0 * y 3 + x 1 * y 2 + x 2 * y 1 + x 3 * y 0 + x 4 * (y 4 * 5)) * 67108864 ^ 3 + (x 0 * y 4 + x 1 * y 3 + x 2 * y 2 + x 3 * y 1 + x 4 * y 0) * 67108864 ^ 4 := by
    simp [vN, zN, B26]
  have e2 : ∀ z : Nat → Nat, vN B26 z 5 = 0 + z 0 * 67108864 ^ 0 + z 1 * 67108864 ^ 1 + z 2 * 67108864 ^ 2 + z 3 * 67108864 ^ 3 + z 4 * 67108864 ^ 4 := fun z => rfl
  obtain ⟨q, hq⟩ : ∃ q, q = (x 1 * y 4 + x 2 * y 3 + x 3 * y 2 + x 4 * y 1) + (x 2 * y 4 + x 3 * y 3 + x 4 * y 2) * 67108864 + (x 3 * y 4 + x 4 * y 3) * 67108864 ^ 2 + x 4 * y 4 * 67108864 ^ 3 := ⟨_, rfl⟩
  have h3 : vN B26 (fun j => zN x y j 5) 5 + Pp * q = vN B26 x 5 * vN B26 y 5 := by
    rw [e1, e2 x, e2 y, hq]
    apply Int.ofNat_inj.1
    simp only [Int.natCast_add, Int.natCast_mul, Int.natCast_pow, Nat.pow_zero, Nat.pow_one, Nat.mul_one, Nat.zero_add, Int.pow_zero, Int.pow_one, Int.mul_one, Int.zero_add] at h ⊢
    exact h
  rw [← h3, Nat.add_mul_mod_self_left]
/-! ### 18 parts -/
def topN (X : Nat → Nat) : Nat := chN 256 X 16 % 256 / 4 + 64 * (chN 256 X 17 % 256) + 16384 * (chN 256 X 17 / 256)
def lowN (X : Nat → Nat) (j : Nat) : Nat := if j = 16 then chN 256 X 16 % 256 % 4 else if j = 17 then 0 else chN 256 X j % 256
def rpassN (X : Nat → Nat) (j : Nat) : Nat := if j = 0 then lowN X 0 + 5 * topN X else lowN X j
theorem low_top (X : Nat → Nat) : vN 256 X 18 = vN 256 (lowN X) 18 + topN X * 2 ^ 130 := by
  have h := carry_val 256 X 17
  have e1 : vN 256 (fun i => chN 256 X i % 256) (17 + 1) = vN 256 (fun i => chN 256 X i % 256) 16 + chN 256 X 16 % 256 * 256 ^ 16 + chN 256 X 17 % 256 * 256 ^ 17 := rfl
  have e2 : vN 256 (lowN X) 18 = vN 256 (lowN X) 16 + chN 256 X 16 % 256 % 4 * 256 ^ 16 + 0 * 256 ^ 17 := rfl
  have e3 : vN 256 (lowN X) 16 = vN 256 (fun i => chN 256 X i % 256) 16 := vN_congr fun i hi => by unfold lowN; rw [if_neg (by omega), if_neg (by omega)]
  rw [h, e1, e2, e3]
  unfold topN
  generalize vN 256 (fun i => chN 256 X i % 256) 16 = v
  generalize chN 256 X 16 % 256 = u
  generalize chN 256 X 17 = w
  omega
theorem low_lt (X : Nat → Nat) : vN 256 (lowN X) 18 < 2 ^ 130 := by
  have e2 : vN 256 (lowN X) 18 = vN 256 (lowN X) 16 + chN 256 X 16 % 256 % 4 * 256 ^ 16 + 0 * 256 ^ 17 := rfl
  have h := vN_lt (b := 256) (by omega) (x := lowN X) (n := 16) fun i hi => by unfold lowN; rw [if_neg (by omega), if_neg (by omega)]; omega
  rw [e2]
  generalize chN 256 X 16 % 256 = u
  omega
theorem rpass_val (X : Nat → Nat) : vN 256 (rpassN X) 18 = vN 256 X 18 % 2 ^ 130 + 5 * (vN 256 X 18 / 2 ^ 130) := by
  have h := vN_upd 256 (lowN X) 0 (5 * topN X) 18 (by omega)
  rw [Nat.pow_zero, Nat.mul_one] at h
  have h1 := low_top X
  have h2 := low_lt X
  have h3 : vN 256 X 18 % 2 ^ 130 = vN 256 (lowN X) 18 := by rw [h1, Nat.add_mul_mod_self_right, Nat.mod_eq_of_lt h2]
  have h4 : vN 256 X 18 / 2 ^ 130 = topN X := by rw [h1, Nat.add_mul_div_right _ _ (by decide), Nat.div_eq_of_lt h2, Nat.zero_add]
  rw [h3, h4, ← h]
  rfl
theorem mod_top (v : Nat) : (v % 2 ^ 130 + 5 * (v / 2 ^ 130)) % Pp = v % Pp := by
  rw [← fold_top]
  have := Nat.mod_add_div v (2 ^ 130)
  rw [Nat.mul_comm (v / 2 ^ 130), this]
theorem vN_le {b c : Nat} (hb : 0 < b) {x : Nat → Nat} : ∀ {n : Nat}, (∀ i, i < n → x i ≤ c * (b - 1)) → vN b x n + c ≤ c * b ^ n
  | 0, _ => by simp [vN]
  | n + 1, h => by
    have h1 := vN_le hb (n := n) fun i hi => h i (by omega)
    have h2 : x n * b ^ n ≤ c * (b - 1) * b ^ n := Nat.mul_le_mul_right _ (h n (by omega))
    show vN b x n + x n * b ^ n + c ≤ c * b ^ (n + 1)
    have h3 : c * b ^ (n + 1) = c * (b - 1) * b ^ n + c * b ^ n := by
      rw [← Nat.add_mul, ← Nat.mul_succ, Nat.succ_eq_add_one, Nat.sub_add_cancel hb, Nat.pow_succ, Nat.mul_comm (b ^ n) b, Nat.mul_assoc]
    omega
def C18 (X : Nat → Nat) : Prop := (∀ i, i < 18 → X i < 256) ∧ vN 256 X 18 < 2 ^ 130
def carN18 (X : Nat → Nat) (j : Nat) : Nat := chN 256 (rpassN (rpassN (rpassN X))) j % 256
theorem top_le (X : Nat → Nat) : topN X = vN 256 X 18 / 2 ^ 130 := by
  have h1 := low_top X
  have h2 := low_lt X
  rw [h1, Nat.add_mul_div_right _ _ (by decide), Nat.div_eq_of_lt h2, Nat.zero_add]
theorem rpass_le {X : Nat → Nat} {c : Nat} (h : vN 256 X 18 / 2 ^ 130 ≤ c) : ∀ i, i < 18 → rpassN X i ≤ 255 + 5 * c := fun i hi => by
  have ht := top_le X
  unfold rpassN lowN
  by_cases h0 : i = 0
  · rw [if_pos h0, if_neg (by omega), if_neg (by omega)]
    omega
  · rw [if_neg h0]
    by_cases h1 : i = 16
    · rw [if_pos h1]; omega
    · rw [if_neg h1]
      by_cases h2 : i = 17
      · rw [if_pos h2]; omega
      · rw [if_neg h2]; omega
theorem val_4096 {X : Nat → Nat} (h : ∀ i, i < 18 → X i ≤ 4096) : vN 256 X 18 / 2 ^ 130 ≤ 524288 := by
  have h1 := vN_le (b := 256) (c := 17) (by omega) (x := X) (n := 18) fun i hi => by have := h i hi; omega
  omega
theorem car18_vals {X : Nat → Nat} (h : vN 256 X 18 / 2 ^ 130 ≤ 524288) : vN 256 (rpassN X) 18 / 2 ^ 130 ≤ 1 ∧ vN 256 (rpassN (rpassN X)) 18 < 2 ^ 130 ∧ vN 256 (rpassN (rpassN (rpassN X))) 18 = vN 256 (rpassN (rpassN X)) 18 := by
  have h1 := rpass_val X
  have h2 := rpass_val (rpassN X)
  have h3 := rpass_val (rpassN (rpassN X))
  generalize vN 256 X 18 = a at *
  generalize vN 256 (rpassN X) 18 = b at *
  generalize vN 256 (rpassN (rpassN X)) 18 = c at *
  generalize vN 256 (rpassN (rpassN (rpassN X))) 18 = d at *
  omega
theorem car18_ok {X : Nat → Nat} (h : ∀ i, i < 18 → X i ≤ 4096) : C18 (carN18 X) ∧ vN 256 (carN18 X) 18 % Pp = vN 256 X 18 % Pp := by
  obtain ⟨h1, h2, h3⟩ := car18_vals (val_4096 h)
  have e := carry_val 256 (rpassN (rpassN (rpassN X))) 17
  have e2 : vN 256 (carN18 X) 18 = vN 256 (rpassN (rpassN X)) 18 := by
    show vN 256 (fun i => chN 256 (rpassN (rpassN (rpassN X))) i % 256) (17 + 1) = _
    rw [h3] at e
    have hz : chN 256 (rpassN (rpassN (rpassN X))) 17 / 256 = 0 := by
      generalize chN 256 (rpassN (rpassN (rpassN X))) 17 / 256 = k at *
      generalize vN 256 (fun i => chN 256 (rpassN (rpassN (rpassN X))) i % 256) (17 + 1) = m at *
      have e' : vN 256 (rpassN (rpassN X)) 18 = m + k * 256 ^ 18 := e
      omega
    rw [hz, Nat.zero_mul, Nat.add_zero] at e
    exact e.symm
  refine ⟨⟨fun i _ => Nat.mod_lt _ (by omega), by rw [e2]; exact h2⟩, ?_⟩
  rw [e2, rpass_val (rpassN X), mod_top, rpass_val X, mod_top]
/-! products of 18 parts -/
def tN18 (a b : Nat → Nat) (m : Nat) : Nat := prN a b 18 m 18
def tcN (a b : Nat → Nat) (j : Nat) : Nat := chN 256 (tN18 a b) j % 256
def loN (a b : Nat → Nat) (j : Nat) : Nat := if 17 ≤ j then 0 else if j = 16 then tcN a b 16 % 4 else tcN a b j
def hiN (a b : Nat → Nat) (j : Nat) : Nat := if 17 ≤ j then 0 else tcN a b (16 + j) / 4 + tcN a b (17 + j) % 4 * 64
def prR18 (a b : Nat → Nat) (j : Nat) : Nat := loN a b j + 5 * hiN a b j
theorem split_hi0 (p1 p2 q1 u w : Nat) : (p1 + 4 * p2) * (u * w) + q1 * (256 * u * w) = p1 * (u * w) + 4 * u * ((p2 + q1 * 64) * w) := by grind -lia -linarith
theorem split_hi1 (p q u w : Nat) : p * (u * w) + q % 4 * (256 * u * w) = p % 4 * (u * w) + 4 * u * ((p / 4 + q % 4 * 64) * w) := by
  have h := split_hi0 (p % 4) (p / 4) (q % 4) u w
  rw [Nat.mod_add_div] at h
  exact h
theorem split_hi (t : Nat → Nat) (u v : Nat) (hu : u = 256 ^ 16) (hv : v = 4 * u) (n : Nat) : vN 256 t (16 + n) + t (16 + n) % 4 * (u * 256 ^ n) = vN 256 t 16 + t 16 % 4 * u + v * vN 256 (fun j => t (16 + j) / 4 + t (17 + j) % 4 * 64) n := by
  induction n with
  | zero =>
    show vN 256 t 16 + t 16 % 4 * (u * 1) = vN 256 t 16 + t 16 % 4 * u + v * 0
    rw [Nat.mul_one, Nat.mul_zero, Nat.add_zero]
  | succ n h =>
    have e : vN 256 t (16 + (n + 1)) = vN 256 t (16 + n) + t (16 + n) * (u * 256 ^ n) := by
      show vN 256 t (16 + n) + t (16 + n) * 256 ^ (16 + n) = _
      rw [hu, Nat.pow_add]
    have e2 : vN 256 (fun j => t (16 + j) / 4 + t (17 + j) % 4 * 64) (n + 1) = vN 256 (fun j => t (16 + j) / 4 + t (17 + j) % 4 * 64) n + (t (16 + n) / 4 + t (17 + n) % 4 * 64) * 256 ^ n := rfl
    have e5 : 16 + (n + 1) = 17 + n := by omega
    have e6 : u * 256 ^ (n + 1) = 256 * u * 256 ^ n := by rw [Nat.pow_succ, Nat.mul_comm (256 ^ n) 256, ← Nat.mul_assoc, Nat.mul_comm u 256]
    rw [e, e2, e6, show t (16 + (n + 1)) = t (17 + n) by rw [e5], Nat.mul_add, ← Nat.add_assoc, ← h, Nat.add_assoc, Nat.add_assoc, hv]
    rw [split_hi1]
theorem vN_36 (t : Nat → Nat) : vN 256 t 36 = vN 256 t 33 + t 33 * 256 ^ 33 + t 34 * 256 ^ 34 + t 35 * 256 ^ 35 := rfl
theorem vN_18 (t : Nat → Nat) : vN 256 t 18 = vN 256 t 16 + t 16 * 256 ^ 16 + t 17 * 256 ^ 17 := rfl
theorem vN_18b (t : Nat → Nat) : vN 256 t 18 = vN 256 t 17 + t 17 * 256 ^ 17 := rfl
theorem carry_36 (x y : Nat → Nat) (h : ∀ i, y i = chN 256 x i % 256) : vN 256 x 36 = vN 256 y 36 + chN 256 x 35 / 256 * 256 ^ 36 := by
  have e : (fun i => chN 256 x i % 256) = y := funext fun i => (h i).symm
  have := carry_val 256 x 35
  rw [e] at this
  exact this
theorem t36 {t : Nat → Nat} {v w k : Nat} (hl : v < 2 ^ 130 * 2 ^ 130) (hc : v = w + k * 256 ^ 36) : w = v := by omega
theorem t33 {t : Nat → Nat} {v : Nat} (hl : v < 2 ^ 130 * 2 ^ 130) (hv : vN 256 t 36 = v) : vN 256 t 33 = v ∧ t 33 = 0 := by
  have hb : v < 256 ^ 33 := by omega
  have hh := fun i => vN_high (b := 256) (by omega) (x := t) (n := 36) (k := 33) (by rw [hv]; exact hb) (i := i)
  have h33 : t 33 = 0 := hh 33 (by omega) (by omega)
  have h34 : t 34 = 0 := hh 34 (by omega) (by omega)
  have h35 : t 35 = 0 := hh 35 (by omega) (by omega)
  rw [vN_36, h33, h34, h35] at hv
  refine ⟨?_, h33⟩
  rw [← hv]
  generalize vN 256 t 33 = x
  generalize 256 ^ 33 = p
  generalize 256 ^ 34 = q
  generalize 256 ^ 35 = r
  omega
theorem times18h {t lo hi pr : Nat → Nat} {v : Nat} (h33 : vN 256 t 33 = v) (hz : t 33 = 0) (hlo0 : ∀ i, i < 16 → lo i = t i) (hlo1 : lo 16 = t 16 % 4) (hlo2 : lo 17 = 0)
    (hhi0 : ∀ i, i < 17 → hi i = t (16 + i) / 4 + t (17 + i) % 4 * 64) (hhi1 : hi 17 = 0) (hpr : ∀ i, pr i = lo i + 5 * hi i) : vN 256 pr 18 % Pp = v % Pp := by
  have hlo : vN 256 lo 18 = vN 256 t 16 + t 16 % 4 * 256 ^ 16 := by
    rw [vN_18, hlo1, hlo2, Nat.zero_mul, Nat.add_zero, vN_congr (x := lo) (y := t) hlo0]
  have hhi : vN 256 hi 18 = vN 256 (fun j => t (16 + j) / 4 + t (17 + j) % 4 * 64) 17 := by
    rw [vN_18b, hhi1, Nat.zero_mul, Nat.add_zero]
    exact vN_congr hhi0
  have e : vN 256 pr 18 = vN 256 lo 18 + 5 * vN 256 hi 18 := by
    rw [← vN_mul, ← vN_add]
    exact vN_congr fun i _ => hpr i
  have hs : v = vN 256 t 16 + t 16 % 4 * 256 ^ 16 + 2 ^ 130 * vN 256 (fun j => t (16 + j) / 4 + t (17 + j) % 4 * 64) 17 := by
    obtain ⟨n, hn⟩ : ∃ n, n = 17 := ⟨_, rfl⟩
    have hs := split_hi t (256 ^ 16) (2 ^ 130) rfl (by decide) n
    have hn33 : 16 + n = 33 := by omega
    rw [hn33, hz, h33, Nat.zero_mod, Nat.zero_mul, Nat.add_zero] at hs
    subst hn
    exact hs
  rw [e, ← fold_top, hs, hlo, hhi, Nat.mul_comm (2 ^ 130)]
theorem times18g {x t lo hi pr : Nat → Nat} {v : Nat} (hl : v < 2 ^ 130 * 2 ^ 130) (hx : vN 256 x 36 = v) (ht : ∀ i, t i = chN 256 x i % 256) (hlo0 : ∀ i, i < 16 → lo i = t i) (hlo1 : lo 16 = t 16 % 4) (hlo2 : lo 17 = 0)
    (hhi0 : ∀ i, i < 17 → hi i = t (16 + i) / 4 + t (17 + i) % 4 * 64) (hhi1 : hi 17 = 0) (hpr : ∀ i, pr i = lo i + 5 * hi i) : vN 256 pr 18 % Pp = v % Pp := by
  have hc := carry_36 x t ht
  rw [hx] at hc
  obtain ⟨h1, h2⟩ := t33 hl (t36 (t := t) hl hc)
  exact times18h h1 h2 hlo0 hlo1 hlo2 hhi0 hhi1 hpr
theorem tN18_val (a b : Nat → Nat) : vN 256 (tN18 a b) 36 = vN 256 a 18 * vN 256 b 18 := pr_val 256 a b 18 36 18 (by omega)
theorem times18 {a b : Nat → Nat} (ha : vN 256 a 18 < 2 ^ 130) (hb : vN 256 b 18 < 2 ^ 130) : vN 256 (prR18 a b) 18 % Pp = vN 256 a 18 * vN 256 b 18 % Pp :=
  times18g (t := tcN a b) (lo := loN a b) (hi := hiN a b) (Nat.mul_lt_mul'' ha hb) (tN18_val a b) (fun i => rfl) (fun i hi => by unfold loN; rw [if_neg (by omega), if_neg (by omega)]) (by unfold loN; rw [if_neg (by omega), if_pos rfl]) (by unfold loN; rw [if_pos (by omega)])
    (fun i hi => by unfold hiN; rw [if_neg (by omega)]) (by unfold hiN; rw [if_pos (by omega)]) (fun i => rfl)
theorem prR18_le {a b : Nat → Nat} : ∀ i, i < 18 → prR18 a b i ≤ 4096 := fun i hi => by
  have ht : ∀ j, tcN a b j < 256 := fun j => Nat.mod_lt _ (by omega)
  have h1 := ht i
  have h2 := ht 16
  have h3 := ht (16 + i)
  unfold prR18 loN hiN
  by_cases h : 17 ≤ i
  · rw [if_pos h, if_pos h]; omega
  · rw [if_neg h, if_neg h]
    by_cases h' : i = 16
    · rw [if_pos h']; omega
    · rw [if_neg h']; omega
end Go.Poly

/- Numbers in parts: what the program's and the document's functions make of them. -/
namespace Go.Proofs.Ytjdhndicgifnbaa.Pol
set_option linter.unusedVariables false
set_option linter.unusedSimpArgs false
open Go Go.Eng
set_option maxRecDepth 1000000
set_option linter.unusedSimpArgs false
set_option linter.unusedVariables false
/-- Sums with what is carried. -/
def chS (s : Nat) (x : Nat → UInt64) : Nat → UInt64
  | 0 => x 0 + 0
  | j + 1 => x (j + 1) + shr_u64 (chS s x j) s
def cpass (x : Nat → UInt64) (j : Nat) : UInt64 := cond (Nat.beq j 0) ((chS 26 x 0 &&& 67108863) + 5 * shr_u64 (chS 26 x 4) 26) (chS 26 x j &&& 67108863)
def carF (x : Nat → UInt64) : Nat → UInt64 := cpass (cpass x)
theorem run12 (x : Nat → UInt64) : (run1 Try.prog noCS (mask 86) 100 86 [.agg (cellsU 5 x)] [] Try.prog.globals.size).map (·.1) = some (.agg (cellsU 5 (carF x))) := by kernel_rfl
def rpass (a : Nat → UInt64) (j : Nat) : UInt64 := match j with
  | 0 => (chS 8 a 0 &&& 255) + 5 * ((shr_u64 (chS 8 a 16 &&& 255) 2 ||| shl_u64 (chS 8 a 17 &&& 255) 6) ||| shl_u64 (shr_u64 (chS 8 a 17) 8) 14)
  | 16 => (chS 8 a 16 &&& 255) &&& 3
  | 17 => 0
  | j => chS 8 a j &&& 255
def carR (a : Nat → UInt64) (j : Nat) : UInt64 := chS 8 (rpass (rpass (rpass a))) j &&& 255
theorem run16 (x : Nat → UInt64) : (run1 Try.prog noCS (mask 95) 100 95 [.agg (cellsU 18 x)] [] Try.prog.globals.size).map (·.1) = some (.agg (cellsU 18 (carR x))) := by kernel_rfl
structure Fp where
  car : (Nat → UInt64) → Nat → UInt64
  carR : (Nat → UInt64) → Nat → UInt64
def l12 (τ : Fp) : List AVal → Option EffA
  | [u] => match aggU 5 u with
    | some a => some (.pure (.agg (cellsU 5 (τ.car a))))
    | _ => none
  | _ => none
def l16 (τ : Fp) : List AVal → Option EffA
  | [u] => match aggU 18 u with
    | some a => some (.pure (.agg (cellsU 18 (τ.carR a))))
    | _ => none
  | _ => none
def nc (τ : Fp) : CS := csAlt (csOne 86 (l12 τ)) (csOne 95 (l16 τ))
def zS (x y : Nat → UInt64) (j : Nat) : Nat → UInt64
  | 0 => 0
  | i + 1 => zS x y j i + x i * cond (Nat.ble i j) (y (j - i)) (y (j + 5 - i) * 5)
theorem run13 (τ : Fp) (x y : Nat → UInt64) : (run1 Try.prog (nc τ) (mask 87) 100 87 [.agg (cellsU 5 x), .agg (cellsU 5 y)] [] Try.prog.globals.size).map (·.1) = some (.agg (cellsU 5 (τ.car (gU (cellsU 5 fun j => zS x y j 5))))) := by kernel_rfl
end Go.Proofs.Ytjdhndicgifnbaa.Pol

/- Numbers in parts: what is below the prime; the document's products. -/
namespace Go.Proofs.Ytjdhndicgifnbaa.Pol
set_option linter.unusedVariables false
set_option linter.unusedSimpArgs false
open Go Go.Eng
set_option maxRecDepth 1000000
set_option linter.unusedSimpArgs false
set_option linter.unusedVariables false
def plus5 (x : Nat → UInt64) (j : Nat) : UInt64 := cond (Nat.beq j 0) (x 0 + 5) (x j)
def red5 (x : Nat → UInt64) (j : Nat) : UInt64 := chS 26 (plus5 x) j &&& 67108863
def redC (x : Nat → UInt64) : UInt64 := shr_u64 (chS 26 (plus5 x) 4) 26
def car2 (τ : Fp) (x : Nat → UInt64) : Nat → UInt64 := gU (cellsU 5 (τ.car (gU (cellsU 5 (τ.car (gU (cellsU 5 x)))))))
theorem run14t (τ : Fp) (x : Nat → UInt64) : ansO (run1O Try.prog noPS (nc τ) [35] [true] [] (mask 88) 100 88 [.agg (cellsU 5 x)] [] Try.prog.globals.size) = some (.agg (cellsU 5 (red5 (car2 τ x))), [decide (0 < redC (car2 τ x))]) := by kernel_rfl
theorem run14f (τ : Fp) (x : Nat → UInt64) : ansO (run1O Try.prog noPS (nc τ) [35] [false] [] (mask 88) 100 88 [.agg (cellsU 5 x)] [] Try.prog.globals.size) = some (.agg (cellsU 5 (car2 τ x)), [!(decide (0 < redC (car2 τ x)))]) := by kernel_rfl
def whG (τ : Fp) (x : Nat → UInt64) : Nat → UInt64 := gU (cellsU 18 (τ.carR (gU (cellsU 18 x))))
def wh5 (x : Nat → UInt64) (j : Nat) : UInt64 := chS 8 (plus5 x) j &&& 255
def wh3 (x : Nat → UInt64) (j : Nat) : UInt64 := cond (Nat.beq j 16) (wh5 x 16 &&& 3) (wh5 x j)
theorem run17t (τ : Fp) (x : Nat → UInt64) : ansO (run1O Try.prog noPS (nc τ) [31] [true] [] (mask 96) 100 96 [.agg (cellsU 18 x)] [] Try.prog.globals.size) = some (.agg (cellsU 18 (wh3 (whG τ x))), [decide (4 ≤ wh5 (whG τ x) 16)]) := by kernel_rfl
theorem run17f (τ : Fp) (x : Nat → UInt64) : ansO (run1O Try.prog noPS (nc τ) [31] [false] [] (mask 96) 100 96 [.agg (cellsU 18 x)] [] Try.prog.globals.size) = some (.agg (cellsU 18 (whG τ x)), [!(decide (4 ≤ wh5 (whG τ x) 16))]) := by kernel_rfl
end Go.Proofs.Ytjdhndicgifnbaa.Pol

/- The document's product. -/
namespace Go.Proofs.Ytjdhndicgifnbaa.Pol
set_option linter.unusedVariables false
set_option linter.unusedSimpArgs false
open Go Go.Eng
set_option maxRecDepth 1000000
def tR (a b : Nat → UInt64) (m : Nat) : Nat → UInt64
  | 0 => 0
  | i + 1 => cond (Nat.ble i m && Nat.ble m (i + 17)) (tR a b m i + a i * b (m - i)) (tR a b m i)
def tC (a b : Nat → UInt64) (j : Nat) : UInt64 := chS 8 (fun m => tR a b m 18) j &&& 255
def loR (a b : Nat → UInt64) (j : Nat) : UInt64 := cond (Nat.ble 17 j) 0 (cond (Nat.beq j 16) (tC a b 16 &&& 3) (tC a b j))
def hiR (a b : Nat → UInt64) (j : Nat) : UInt64 := cond (Nat.ble 17 j) 0 (shr_u64 (tC a b (16 + j)) 2 ||| (shl_u64 (tC a b (17 + j)) 6 &&& 255))
def prR (a b : Nat → UInt64) (j : Nat) : UInt64 := loR a b j + 5 * hiR a b j
theorem run15 (τ : Fp) (a b : Nat → UInt64) : (run1 Try.prog (nc τ) (mask 94) 100 94 [.agg (cellsU 18 a), .agg (cellsU 18 b)] [] Try.prog.globals.size).map (·.1) = some (.agg (cellsU 18 (τ.carR (gU (cellsU 18 (prR a b)))))) := by kernel_rfl
end Go.Proofs.Ytjdhndicgifnbaa.Pol

/- Engine, part 46: calls that look at a window of a block alone. -/
namespace Go.Eng
set_option linter.unusedVariables false
set_option linter.unusedSimpArgs false
open Go
/-- What a call makes of the cells that its slice shows. -/
def winE (b o m : Nat) (k : List AVal → Option AVal) : EffA :=
  oneE b fun _ C => cond (Nat.ble (o + m) C.length && ltL 0 ((C.drop o).take m)) (match k ((C.drop o).take m) with
    | some v => some (v, C)
    | none => none) none
theorem ltL_mem46 : ∀ {l : List AVal} {m : Nat}, ltL m l = true → ∀ v, v ∈ l → ltS m v = true
  | [], _, _, v, hv => by cases hv
  | x :: l, m, h, v, hv => by
    simp only [ltL] at h
    cases hx : ltS m x <;> rw [hx] at h <;> simp only [cond_true, cond_false] at h
    · cases h
    · rcases List.mem_cons.1 hv with rfl | e
      · exact hx
      · exact ltL_mem46 h v e
theorem ltV_of_ltS {v : AVal} (h : ltS 0 v = true) : ltV 0 v = true := by
  have h0 : ∀ n : Nat, Nat.ble (n + 1) 0 = false := fun n => rfl
  cases v <;> first | rfl | (simp only [ltS, h0] at h; cases h; done) | skip
  all_goals simp only [ltS] at h
  all_goals first | cases h | (rename_i cs; cases cs <;> first | rfl | cases h)
theorem hrel_ro1 {σ : Sig} {H : Heap} {w : World} (h : ∀ n o, H n = some o → o.ro = true ∧ ∃ p, σ n = some p ∧ ORel σ w p o) : HRel σ H w :=
  ⟨fun n o hn => (h n o hn).2, fun n m o o' p q hn hm _ _ _ => .inr ⟨(h n o hn).1, (h m o' hm).1⟩⟩
theorem callOk_win {P : Program} {cs : CS} (hcs : CSOk P cs) (hm : P.follows .mixedOrders = true) {f : FuncId} {b o m : Nat} {rest : List AVal} (ha : allV rest = true) {k : List AVal → Option AVal}
    (h : ∀ W v, W.length = m → k W = some v → ltL 0 W = true → ltV 0 v = true ∧ ∃ F nn H' fr', run1 P cs nn F f (.slice P.globals.size 0 m 1 :: rest) [(P.globals.size, .cells true W)] (P.globals.size + 1) = some (v, H', fr')) :
    CallOk P f (.slice b o m 1 :: rest) (winE b o m k) := by
  intro σ args' H w base v0 H0 hl hg hH happ hfree
  unfold winE oneE EffA.app at happ
  simp only at happ
  cases hn : aget H b with
  | none => rw [hn] at happ; cases happ
  | some ob =>
    obtain ⟨ro, C⟩ := ob
    rw [hn] at happ
    cases ro with
    | true => cases happ
    | false =>
      simp only at happ
      cases hc : (Nat.ble (o + m) C.length && ltL 0 ((C.drop o).take m)) <;> rw [hc] at happ <;> simp only [cond_true, cond_false] at happ
      · cases happ
      · cases hk : k ((C.drop o).take m) with
        | none => rw [hk] at happ; cases happ
        | some v =>
          rw [hk] at happ
          simp only [Option.some.injEq, Prod.mk.injEq] at happ
          obtain ⟨rfl, rfl⟩ := happ
          rw [Bool.and_eq_true] at hc
          have hlen := Nat.le_of_ble_eq_true hc.1
          obtain ⟨W, hW⟩ : ∃ W, W = (C.drop o).take m := ⟨_, rfl⟩
          rw [← hW] at hk hc
          have hWl : W.length = m := by rw [hW, List.length_take, List.length_drop]; omega
          obtain ⟨hv, F, nn, H', fr', hrun⟩ := h W v hWl hk hc.2
          obtain ⟨fn, c, hf, hb, hr⟩ := run1_some hrun
          -- the block's place, and the window's
          obtain ⟨p, hp, c', t, fz, e1, e2, e3, e4⟩ := hH.obj b _ hn
          obtain ⟨q, hq⟩ : ∃ q : Place, q = ⟨p.blk, p.sh + o, p.sz, none⟩ := ⟨_, rfl⟩
          obtain ⟨σ1, hσ1⟩ : ∃ σ1 : Sig, σ1 = (cut P.globals.size σ).set P.globals.size q := ⟨_, rfl⟩
          have sat : σ1 P.globals.size = some q := by rw [hσ1]; exact Sig.set_same _ _ _
          have hg1 : GRel P σ1 := fun g hgl => by
            obtain ⟨sz, hs⟩ := hg g hgl
            refine ⟨sz, ?_⟩
            rw [hσ1, Sig.set_other _ _ (by omega)]
            exact cut_of hs hgl
          have hfr1 : Fresh σ1 (P.globals.size + 1) := fun n hn => by
            rw [hσ1, Sig.set_other _ _ (by omega)]
            exact cut_fresh _ _ n (by omega)
          have hl1 : LR σ1 (.slice P.globals.size 0 m 1 :: rest) args' := by
            refine ⟨hl.1, fun i u u' h1 h2 => ?_⟩
            cases i with
            | zero =>
              simp only [List.getElem?_cons_zero, Option.some.injEq] at h1
              subst h1
              have := hl.2 0 (.slice b o m 1) u' rfl h2
              cases this with
              | slice hpb ho hcp hs =>
                rw [hp] at hpb
                cases hpb
                have hblk : q.blk = p.blk := by rw [hq]
                rw [← hblk]
                refine .slice sat ?_ hcp (by rw [hq]; exact hs)
                rcases ho with ho | ho
                · exact .inl ho
                · exact .inr (by rw [ho, hq]; rfl)
            | succ i =>
              rw [List.getElem?_cons_succ] at h1
              exact (hl.2 (i + 1) u u' (by rw [List.getElem?_cons_succ]; exact h1) h2).cut0 (allV_mem ha u (List.mem_of_getElem? h1)) σ1
          have hH1 : HRel σ1 (aget [(P.globals.size, .cells true W)]) w := by
            refine hrel_ro1 ?_
            intro n ob' hob
            rcases beq_cases P.globals.size n with ⟨e, hbq⟩ | ⟨e, hbq⟩
            · simp only [aget, hbq, cond_true, Option.some.injEq] at hob
              subst hob
              subst e
              refine ⟨rfl, q, sat, c', t, fz, by rw [hq]; exact e1, by rw [hq]; exact e2, fun i u hi => ?_, (fun h => by cases h), fun T h => by rw [hq] at h; cases h⟩
              have hi2 : C[o + i]? = some u := by
                rw [hW] at hi
                have him : i < m := by
                  have := (List.getElem?_eq_some_iff.1 hi).1
                  rw [List.length_take] at this
                  omega
                rw [List.getElem?_take_of_lt him, List.getElem?_drop] at hi
                exact hi
              obtain ⟨u', g1, g2⟩ := e3 (o + i) u hi2
              refine ⟨u', by rw [hq]; show c'[p.sh + o + i]? = some u'; rw [Nat.add_assoc]; exact g1, ?_⟩
              exact g2.cut0 (ltV_of_ltS (ltL_mem46 hc.2 u (List.mem_of_getElem? hi))) σ1
            · simp only [aget, hbq, cond_false] at hob
              cases hob
          refine (runF_ok hcs hm hf hb hr hl1 hH1 hg1 hfr1).mono fun r w' hrw => ?_
          obtain ⟨σ', v', rfl, g1, g2, g3, g4⟩ := hrw
          have hold : ∀ bb, bb < w.heap.size → w'.heap[bb]? = w.heap[bb]? := fun bb hbb => (g3.old bb hbb fun ⟨n, o1, p1, a1, a2, _⟩ => by
            rcases beq_cases P.globals.size n with ⟨e, hbq⟩ | ⟨e, hbq⟩
            · simp only [aget, hbq, cond_true, Option.some.injEq] at a1
              subst a1
              cases a2
            · simp only [aget, hbq, cond_false] at a1
              cases a1).1
          have same : aget (aset H b (.cells false C)) = aget H := by
            funext n
            rw [aget_aset]
            split
            · rename_i e
              subst e
              rw [hn]
            · rfl
          refine ⟨σ, v', rfl, g1.cut0 hv σ, ?_, ?_, Only.refl σ base⟩
          · show HRel σ (aget (aset H b (.cells false C))) w'
            rw [same]
            refine ⟨fun n ob' hob => ?_, hH.inj⟩
            obtain ⟨p', hp', ho'⟩ := hH.obj n ob' hob
            exact ⟨p', hp', ho'.mono (Sig.le_refl σ) (hold _ ho'.lt)⟩
          · show Frm σ (aget H) w σ (aget (aset H b (.cells false C))) w'
            rw [same]
            exact ⟨Sig.le_refl σ, g3.size, g3.os, g3.output, g3.tape, fun bb hbb hn => ⟨hold bb hbb, hn⟩⟩
end Go.Eng

/- Bytes as a number in five parts. -/
namespace Go.Proofs.Ytjdhndicgifnbaa.Pol
set_option linter.unusedVariables false
set_option linter.unusedSimpArgs false
open Go Go.Eng
set_option maxRecDepth 1000000
set_option linter.unusedSimpArgs false
set_option linter.unusedVariables false
def bt (c : Nat → UInt8) (m n i : Nat) : UInt64 := cond (Nat.blt 0 n && Nat.beq i n) 1 (cond (Nat.blt i m) (c i).toUInt64 0)
def of1 (b : UInt64) (x : Nat → UInt64) (i : Nat) : Nat → UInt64 := updF x (8 * i / 26) (x (8 * i / 26) ||| (shl_u64 b (8 * i % 26) &&& 67108863))
def ofS (b : UInt64) (x : Nat → UInt64) (i : Nat) : Nat → UInt64 := cond (Nat.blt 18 (8 * i % 26) && Nat.blt (8 * i / 26) 4) (updF (of1 b x i) (8 * i / 26 + 1) (of1 b x i (8 * i / 26 + 1) ||| shr_u64 b (26 - 8 * i % 26))) (of1 b x i)
def ofN (c : Nat → UInt8) (m n : Nat) : Nat → Nat → UInt64
  | 0 => fun _ => 0
  | i + 1 => ofS (bt c m n i) (ofN c m n i) i
theorem run10_1_1 (c : Nat → UInt8) : (run1 Try.prog noCS (mask 84) 100 84 [.slice 0 0 1 1, .int .i64 1] [(0, .cells true (cellsB 1 c))] 1).map (·.1) = some (.agg (cellsU 5 (ofN c 1 1 17))) := by kernel_rfl
theorem run10_2_2 (c : Nat → UInt8) : (run1 Try.prog noCS (mask 84) 100 84 [.slice 0 0 2 1, .int .i64 2] [(0, .cells true (cellsB 2 c))] 1).map (·.1) = some (.agg (cellsU 5 (ofN c 2 2 17))) := by kernel_rfl
theorem run10_3_3 (c : Nat → UInt8) : (run1 Try.prog noCS (mask 84) 100 84 [.slice 0 0 3 1, .int .i64 3] [(0, .cells true (cellsB 3 c))] 1).map (·.1) = some (.agg (cellsU 5 (ofN c 3 3 17))) := by kernel_rfl
theorem run10_4_4 (c : Nat → UInt8) : (run1 Try.prog noCS (mask 84) 100 84 [.slice 0 0 4 1, .int .i64 4] [(0, .cells true (cellsB 4 c))] 1).map (·.1) = some (.agg (cellsU 5 (ofN c 4 4 17))) := by kernel_rfl
theorem run10_5_5 (c : Nat → UInt8) : (run1 Try.prog noCS (mask 84) 100 84 [.slice 0 0 5 1, .int .i64 5] [(0, .cells true (cellsB 5 c))] 1).map (·.1) = some (.agg (cellsU 5 (ofN c 5 5 17))) := by kernel_rfl
theorem run10_6_6 (c : Nat → UInt8) : (run1 Try.prog noCS (mask 84) 100 84 [.slice 0 0 6 1, .int .i64 6] [(0, .cells true (cellsB 6 c))] 1).map (·.1) = some (.agg (cellsU 5 (ofN c 6 6 17))) := by kernel_rfl
theorem run10_7_7 (c : Nat → UInt8) : (run1 Try.prog noCS (mask 84) 100 84 [.slice 0 0 7 1, .int .i64 7] [(0, .cells true (cellsB 7 c))] 1).map (·.1) = some (.agg (cellsU 5 (ofN c 7 7 17))) := by kernel_rfl
theorem run10_8_8 (c : Nat → UInt8) : (run1 Try.prog noCS (mask 84) 100 84 [.slice 0 0 8 1, .int .i64 8] [(0, .cells true (cellsB 8 c))] 1).map (·.1) = some (.agg (cellsU 5 (ofN c 8 8 17))) := by kernel_rfl
theorem run10_9_9 (c : Nat → UInt8) : (run1 Try.prog noCS (mask 84) 100 84 [.slice 0 0 9 1, .int .i64 9] [(0, .cells true (cellsB 9 c))] 1).map (·.1) = some (.agg (cellsU 5 (ofN c 9 9 17))) := by kernel_rfl
theorem run10_10_10 (c : Nat → UInt8) : (run1 Try.prog noCS (mask 84) 100 84 [.slice 0 0 10 1, .int .i64 10] [(0, .cells true (cellsB 10 c))] 1).map (·.1) = some (.agg (cellsU 5 (ofN c 10 10 17))) := by kernel_rfl
theorem run10_11_11 (c : Nat → UInt8) : (run1 Try.prog noCS (mask 84) 100 84 [.slice 0 0 11 1, .int .i64 11] [(0, .cells true (cellsB 11 c))] 1).map (·.1) = some (.agg (cellsU 5 (ofN c 11 11 17))) := by kernel_rfl
theorem run10_12_12 (c : Nat → UInt8) : (run1 Try.prog noCS (mask 84) 100 84 [.slice 0 0 12 1, .int .i64 12] [(0, .cells true (cellsB 12 c))] 1).map (·.1) = some (.agg (cellsU 5 (ofN c 12 12 17))) := by kernel_rfl
theorem run10_13_13 (c : Nat → UInt8) : (run1 Try.prog noCS (mask 84) 100 84 [.slice 0 0 13 1, .int .i64 13] [(0, .cells true (cellsB 13 c))] 1).map (·.1) = some (.agg (cellsU 5 (ofN c 13 13 17))) := by kernel_rfl
theorem run10_14_14 (c : Nat → UInt8) : (run1 Try.prog noCS (mask 84) 100 84 [.slice 0 0 14 1, .int .i64 14] [(0, .cells true (cellsB 14 c))] 1).map (·.1) = some (.agg (cellsU 5 (ofN c 14 14 17))) := by kernel_rfl
theorem run10_15_15 (c : Nat → UInt8) : (run1 Try.prog noCS (mask 84) 100 84 [.slice 0 0 15 1, .int .i64 15] [(0, .cells true (cellsB 15 c))] 1).map (·.1) = some (.agg (cellsU 5 (ofN c 15 15 17))) := by kernel_rfl
theorem run10_16_16 (c : Nat → UInt8) : (run1 Try.prog noCS (mask 84) 100 84 [.slice 0 0 16 1, .int .i64 16] [(0, .cells true (cellsB 16 c))] 1).map (·.1) = some (.agg (cellsU 5 (ofN c 16 16 17))) := by kernel_rfl
theorem run10_16_0 (c : Nat → UInt8) : (run1 Try.prog noCS (mask 84) 100 84 [.slice 0 0 16 1, .int .i64 0] [(0, .cells true (cellsB 16 c))] 1).map (·.1) = some (.agg (cellsU 5 (ofN c 16 0 17))) := by kernel_rfl
def ok10 (m : Nat) (n : Int) : Bool := (decide (1 ≤ m) && decide (m ≤ 16) && decide (n = (m : Int))) || (Nat.beq m 16 && decide (n = 0))
def k10 (f : (Nat → UInt8) → Nat → Nat → Nat → UInt64) : List AVal → Option EffA
  | [.slice b o m 1, .int .i64 n] => some (winE b o m fun W => cond (shAllB W && ok10 m n) (some (.agg (cellsU 5 (f (gB W) m n.toNat)))) none)
  | _ => none
theorem callOk10 : CSOk Try.prog (csOne 84 (k10 fun c m n => ofN c m n 17)) := by
  refine csOne_ok fun args e h => ?_
  unfold k10 at h
  split at h
  · rename_i b o m n
    cases h
    refine callOk_win (noCS_ok _) hmix rfl fun W v hWl hk hl => ?_
    cases hc : (shAllB W && ok10 m n) <;> rw [hc] at hk <;> simp only [cond_true, cond_false] at hk
    · cases hk
    · cases hk
      rw [Bool.and_eq_true] at hc
      have ec := shAllB_ok hc.1
      have h3 := hc.2
      unfold ok10 at h3
      simp only [Bool.and_eq_true, Bool.or_eq_true, decide_eq_true_eq] at h3
      obtain ⟨g, hg⟩ : ∃ g, g = gB W := ⟨_, rfl⟩
      rw [hWl, ← hg] at ec
      rw [← hg]
      have hv : ltV 0 (.agg (cellsU 5 (ofN g m n.toNat 17))) = true := ltL_U ..
      refine ⟨hv, 100, mask 84, ?_⟩
      rw [gl, ec]
      rcases h3 with ⟨⟨m1, m2⟩, rfl⟩ | ⟨m1, rfl⟩
      · have : m = 1 ∨ m = 2 ∨ m = 3 ∨ m = 4 ∨ m = 5 ∨ m = 6 ∨ m = 7 ∨ m = 8 ∨ m = 9 ∨ m = 10 ∨ m = 11 ∨ m = 12 ∨ m = 13 ∨ m = 14 ∨ m = 15 ∨ m = 16 := by omega
        rcases this with rfl | rfl | rfl | rfl | rfl | rfl | rfl | rfl | rfl | rfl | rfl | rfl | rfl | rfl | rfl | rfl
        · exact run_of (run10_1_1 g)
        · exact run_of (run10_2_2 g)
        · exact run_of (run10_3_3 g)
        · exact run_of (run10_4_4 g)
        · exact run_of (run10_5_5 g)
        · exact run_of (run10_6_6 g)
        · exact run_of (run10_7_7 g)
        · exact run_of (run10_8_8 g)
        · exact run_of (run10_9_9 g)
        · exact run_of (run10_10_10 g)
        · exact run_of (run10_11_11 g)
        · exact run_of (run10_12_12 g)
        · exact run_of (run10_13_13 g)
        · exact run_of (run10_14_14 g)
        · exact run_of (run10_15_15 g)
        · exact run_of (run10_16_16 g)
      · have := Nat.eq_of_beq_eq_true m1
        subst this
        exact run_of (run10_16_0 g)
  · cases h
end Go.Proofs.Ytjdhndicgifnbaa.Pol

/- Engine, part 47: a call that hands back a function that has captured a slice. -/
namespace Go.Eng
set_option linter.unusedVariables false
set_option linter.unusedSimpArgs false
open Go
/-- A slice of one block, as of another one. -/
def mvS (G b : Nat) : AVal → AVal
  | .slice n o m e => cond (Nat.beq n G) (.slice b o m e) (.slice n o m e)
  | v => v
def okM (G : Nat) : AVal → Bool
  | .slice n _ _ _ => Nat.beq n G
  | v => ltS 0 v
theorem mv_ok {σ σ' : Sig} {G b : Nat} {p : Place} (h1 : σ G = some p) (h2 : σ' b = some p) {u : AVal} {v : Value} (ho : okM G u = true) (hv : VR σ u v) : VR σ' (mvS G b u) v := by
  cases u with
  | slice n o m e =>
    have := Nat.eq_of_beq_eq_true ho
    subst this
    simp only [mvS, Nat.beq_refl, cond_true]
    cases hv with
    | slice hp hh hc hs =>
      rw [h1] at hp
      cases hp
      exact .slice h2 hh hc hs
  | _ =>
    simp only [okM] at ho
    simp only [mvS]
    exact hv.cut0 (ltV_of_ltS ho) σ'
theorem orel_mv {σ σ' : Sig} {G b : Nat} {p : Place} (h1 : σ G = some p) (h2 : σ' b = some p) {w : World} {q : Place} {c : List AVal} {ro : Bool} (ho : c.all (okM G) = true) (h : ORel σ w q (.cells ro c)) : ORel σ' w q (.cells ro (c.map (mvS G b))) := by
  obtain ⟨c', t, fz, e1, e2, e3, e4⟩ := h
  refine ⟨c', t, fz, e1, e2, fun i v hi => ?_, e4⟩
  rw [List.getElem?_map] at hi
  cases hu : c[i]? with
  | none => rw [hu] at hi; cases hi
  | some u =>
    rw [hu] at hi
    simp only [Option.map_some, Option.some.injEq] at hi
    subst hi
    obtain ⟨v', g1, g2⟩ := e3 i u hu
    exact ⟨v', g1, mv_ok h1 h2 (List.all_eq_true.1 ho u (List.mem_of_getElem? hu)) g2⟩
theorem callOk_closS {P : Program} {cs : CS} (hcs : CSOk P cs) (hm : P.follows .mixedOrders = true) {nn F : Nat} {f : FuncId} {nb o m : Nat} {rest : List AVal} {g : FuncId} {ns : List Nat} {cs0 css : List (List AVal)} {H1 : HL} {fr1 : Nat}
    (h : run1 P cs nn F f (.slice P.globals.size o m 1 :: rest) [] (P.globals.size + 1) = some (.fn g (ns.map fun n => .ptr n 0), H1, fr1)) (ha : allV rest = true) (hnd : nodupB ns = true) (hl : css.length = ns.length) (hk : Nat.ble ns.length 8 = true)
    (hc : ∀ j n, ns[j]? = some n → aget H1 n = some (.cells false (cs0.getD j [])) ∧ css.getD j [] = (cs0.getD j []).map (mvS P.globals.size nb) ∧ (cs0.getD j []).all (okM P.globals.size) = true) : CallOk P f (.slice nb o m 1 :: rest) (closE g css) := by
  intro σ args' H w base v0 H0 hla hg hH happ hfree
  have hnd := nodupB_ok hnd
  have hk := Nat.le_of_ble_eq_true hk
  simp only [closE, EffA.app, Option.some.injEq, Prod.mk.injEq] at happ
  obtain ⟨rfl, rfl⟩ := happ
  obtain ⟨v0, hv0, hvr⟩ := hla.get (i := 0) rfl
  obtain ⟨p0, hp0⟩ : ∃ p0, σ nb = some p0 := by
    cases hvr with
    | slice hp _ _ _ => exact ⟨_, hp⟩
  obtain ⟨σ0, hσ0⟩ : ∃ σ0 : Sig, σ0 = (cut P.globals.size σ).set P.globals.size p0 := ⟨_, rfl⟩
  have sat0 : σ0 P.globals.size = some p0 := by rw [hσ0]; exact Sig.set_same _ _ _
  have hg0 : GRel P σ0 := fun g hgl => by
    obtain ⟨sz, hs⟩ := hg g hgl
    refine ⟨sz, ?_⟩
    rw [hσ0, Sig.set_other _ _ (by omega)]
    exact cut_of hs hgl
  have hfr0 : Fresh σ0 (P.globals.size + 1) := fun n hn => by
    rw [hσ0, Sig.set_other _ _ (by omega)]
    exact cut_fresh _ _ n (by omega)
  have hl0 : LR σ0 (.slice P.globals.size o m 1 :: rest) args' := by
    refine ⟨hla.1, fun i u u' h1 h2 => ?_⟩
    cases i with
    | zero =>
      simp only [List.getElem?_cons_zero, Option.some.injEq] at h1
      subst h1
      have := hla.2 0 (.slice nb o m 1) u' rfl h2
      cases this with
      | slice hpb ho hcp hs =>
        rw [hp0] at hpb
        cases hpb
        exact .slice sat0 ho hcp hs
    | succ i =>
      rw [List.getElem?_cons_succ] at h1
      exact (hla.2 (i + 1) u u' (by rw [List.getElem?_cons_succ]; exact h1) h2).cut0 (allV_mem ha u (List.mem_of_getElem? h1)) σ0
  obtain ⟨fn, c, hf, hb, hrun⟩ := run1_some h
  refine (runF_ok hcs hm hf hb hrun hl0 ⟨fun n o hn => by simp [aget] at hn, fun n m o o' p q hn => by simp [aget] at hn⟩ hg0 hfr0).mono fun r w' hrw => ?_
  obtain ⟨σ1, v', rfl, g1, g2, g3, g4⟩ := hrw
  have hold : ∀ b, b < w.heap.size → w'.heap[b]? = w.heap[b]? ∧ ¬ Own σ1 (aget H1) b := fun b hb => g3.old b hb fun ⟨n, o, p, a1, _⟩ => by simp [aget] at a1
  have sat1 : σ1 P.globals.size = some p0 := g3.ext _ _ sat0
  -- the places of the new names
  obtain ⟨σ2, hσ2⟩ : ∃ σ2 : Sig, σ2 = fun n => if base ≤ n ∧ n < base + ns.length then σ1 (ns.getD (n - base) 0) else σ n := ⟨_, rfl⟩
  have at2 : ∀ j n, ns[j]? = some n → σ2 (base + j) = σ1 n := fun j n hj => by
    have hjl : j < ns.length := (List.getElem?_eq_some_iff.1 hj).1
    rw [hσ2]
    simp only
    rw [if_pos ⟨by omega, by omega⟩, Nat.add_sub_cancel_left, List.getD_eq_getElem?_getD, hj]; rfl
  have off2 : ∀ n, ¬ (base ≤ n ∧ n < base + ns.length) → σ2 n = σ n := fun n hn => by
    rw [hσ2]
    exact if_neg hn
  have le2 : Sig.le σ σ2 := fun n p hp => by
    rw [off2 n fun hn => ?_]
    · exact hp
    · have := hfree (n - base) (by omega)
      rw [show base + (n - base) = n by omega, hp] at this
      cases this
  have obj1 : ∀ j n, ns[j]? = some n → ∃ p, σ1 n = some p ∧ ORel σ1 w' p (.cells false (cs0.getD j [])) ∧ w.heap.size ≤ p.blk := fun j n hj => by
    obtain ⟨p, hp, ho⟩ := g2.obj n _ (hc j n hj).1
    exact ⟨p, hp, ho, Nat.le_of_not_lt fun hlt => (hold p.blk hlt).2 ⟨n, _, p, (hc j n hj).1, rfl, hp, rfl⟩⟩
  have us : ∀ m x, (m, x) ∈ ((List.range css.length).map fun j => (base + j, some (AObj.cells false (css.getD j [])))) → ∃ j, j < css.length ∧ m = base + j ∧ x = some (.cells false (css.getD j [])) := fun m x hx => by
    obtain ⟨j, hj, e⟩ := List.mem_map.1 hx
    cases e
    exact ⟨j, List.mem_range.1 hj, rfl, rfl⟩
  have getH : ∀ m o, aget (appU H ((List.range css.length).map fun j => (base + j, some (AObj.cells false (css.getD j []))))) m = some o →
      (∃ j n, ns[j]? = some n ∧ m = base + j ∧ o = .cells false (css.getD j [])) ∨ (¬ (base ≤ m ∧ m < base + ns.length) ∧ aget H m = some o) := fun m o hm => by
    rcases appU_get (us := (List.range css.length).map fun j => (base + j, some (AObj.cells false (css.getD j [])))) (H := H) (fun m x hx => by obtain ⟨j, _, _, rfl⟩ := us m x hx; rfl) m with ⟨o', a1, a2⟩ | ⟨a1, a2⟩
    · rw [a2] at hm
      cases hm
      obtain ⟨j, hj, rfl, e⟩ := us m _ a1
      cases e
      exact .inl ⟨j, ns[j]'(by omega), List.getElem?_eq_getElem (by omega), rfl, rfl⟩
    · rw [a2] at hm
      refine .inr ⟨fun hb => ?_, hm⟩
      exact a1 (some (.cells false (css.getD (m - base) []))) (List.mem_map.2 ⟨m - base, List.mem_range.2 (by omega), by rw [show base + (m - base) = m by omega]⟩)
  refine ⟨σ2, v', rfl, ?_, ⟨fun m o hm => ?_, fun m m' o o' p q hm hm' hp hq hpq => ?_⟩, ⟨le2, g3.size, g3.os, g3.output, g3.tape, fun b hb hn => ⟨(hold b hb).1, ?_⟩⟩, fun n hn => off2 n (by omega)⟩
  · cases g1 with
    | fn hs hcap =>
      refine .fn (by rw [← hs]; simp [hl]) fun i u u' hu hu' => ?_
      have hi : i < css.length := by
        have := (List.getElem?_eq_some_iff.1 hu).1
        simpa using this
      have e1 : u = .ptr (base + i) 0 := by
        rw [List.getElem?_map, List.getElem?_range hi] at hu
        simpa using hu.symm
      subst e1
      have hn : ns[i]? = some (ns[i]'(by omega)) := List.getElem?_eq_getElem (by omega)
      have hv := hcap i (.ptr (ns[i]'(by omega)) 0) u' (by rw [List.getElem?_map, hn]; rfl) hu'
      cases hv with
      | ptr hp => exact .ptr (by rw [at2 i _ hn]; exact hp)
  · rcases getH m o hm with ⟨j, n, hj, rfl, rfl⟩ | ⟨hb, ho⟩
    · obtain ⟨p, hp, ho, _⟩ := obj1 j n hj
      refine ⟨p, by rw [at2 j n hj]; exact hp, ?_⟩
      obtain ⟨q1, q2⟩ := (hc j n hj).2
      rw [q1]
      exact orel_mv sat1 (le2 nb p0 hp0) q2 ho
    · obtain ⟨p, hp, hor⟩ := hH.obj m o ho
      exact ⟨p, le2 m p hp, hor.mono le2 (hold _ hor.lt).1⟩
  · rcases getH m o hm with ⟨j, n, hj, rfl, rfl⟩ | ⟨hb, ho⟩ <;> rcases getH m' o' hm' with ⟨j', n', hj', rfl, rfl⟩ | ⟨hb', ho'⟩
    · rw [at2 j n hj] at hp
      rw [at2 j' n' hj'] at hq
      rcases g2.inj n n' _ _ p q (hc j n hj).1 (hc j' n' hj').1 hp hq hpq with e | ⟨e, _⟩
      · subst e
        have : j = j' := (List.getElem?_inj (List.getElem?_eq_some_iff.1 hj).1 hnd).1 (hj.trans hj'.symm)
        exact .inl (by rw [this])
      · cases e
    · exfalso
      obtain ⟨p1, hp1, _, hge⟩ := obj1 j n hj
      rw [at2 j n hj, hp1] at hp
      cases hp
      obtain ⟨q1, hq1, hor⟩ := hH.obj m' o' ho'
      rw [off2 m' hb', hq1] at hq
      cases hq
      have := hor.lt
      omega
    · exfalso
      obtain ⟨p1, hp1, _, hge⟩ := obj1 j' n' hj'
      rw [at2 j' n' hj', hp1] at hq
      cases hq
      obtain ⟨q1, hq1, hor⟩ := hH.obj m o ho
      rw [off2 m hb, hq1] at hp
      cases hp
      have := hor.lt
      omega
    · rw [off2 m hb] at hp
      rw [off2 m' hb'] at hq
      exact hH.inj m m' o o' p q ho ho' hp hq hpq
  · rintro ⟨m, o, p, h1, h2, h3, h4⟩
    rcases getH m o h1 with ⟨j, n, hj, rfl, rfl⟩ | ⟨hb2, ho⟩
    · obtain ⟨p1, hp1, _, hge⟩ := obj1 j n hj
      rw [at2 j n hj, hp1] at h3
      cases h3
      omega
    · rw [off2 m hb2] at h3
      exact hn ⟨m, o, p, ho, h2, h3, h4⟩
end Go.Eng

/- Pieces of sixteen bytes: the function that is ranged over. -/
namespace Go.Proofs.Ytjdhndicgifnbaa.Pol
set_option linter.unusedVariables false
set_option linter.unusedSimpArgs false
open Go Go.Eng
set_option maxRecDepth 1000000
set_option linter.unusedSimpArgs false
set_option linter.unusedVariables false
/-- The function's value, and two blocks behind it. -/
def ansC (a b : Nat) (x : Option (AVal × HL × Nat)) : Option (AVal × Option AObj × Option AObj) :=
  match x with
  | some (v, H', _) => some (v, aget H' a, aget H' b)
  | none => none
theorem run11 (o m : Nat) : ansC 1 9 (run1 Try.prog noCS (mask 85) 50 85 [.slice 0 o m 1, .int .i64 16] [] 1) = some (.fn 98 [.ptr 1 0, .ptr 9 0], some (.cells false [.slice 0 o m 1]), some (.cells false [.int .i64 16])) := by kernel_rfl
def k11 : List AVal → Option EffA
  | [.slice b o m 1, .int .i64 16] => some (closE 98 [[.slice b o m 1], [.int .i64 16]])
  | _ => none
theorem callOk11 : CSOk Try.prog (csOne 85 k11) := by
  refine csOne_ok fun args e h => ?_
  unfold k11 at h
  split at h
  · rename_i b o m
    cases h
    have r := run11 o m
    unfold ansC at r
    split at r
    · rename_i v H1 fr1 hr
      simp only [Option.some.injEq, Prod.mk.injEq] at r
      obtain ⟨rfl, h1, h2⟩ := r
      refine callOk_closS (ns := [1, 9]) (cs0 := [[.slice 0 o m 1], [.int .i64 16]]) (noCS_ok _) hmix (by rw [gl]; exact hr) rfl rfl rfl rfl fun j n hj => ?_
      rw [gl]
      match j, hj with
      | 0, hj => cases hj; exact ⟨h1, rfl, rfl⟩
      | 1, hj => cases hj; exact ⟨h2, rfl, rfl⟩
    · cases r
  · cases h
end Go.Proofs.Ytjdhndicgifnbaa.Pol
