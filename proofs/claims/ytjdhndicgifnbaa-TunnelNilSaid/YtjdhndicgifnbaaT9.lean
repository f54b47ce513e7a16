/- Texts Eng32, Eng33, Eng34, Eng35, TACi1, Eng36, TACi2a, TACi2b: what they show stands ahead of each. -/
import Derived.Test.YtjdhndicgifnbaaT5
import Derived.OrdersIn
import Derived.LoopNIn
import Derived.ControlIn
import Derived.RangeFuncLeaves
import Derived.RangeFuncSeq
import Derived.Test.YtjdhndicgifnbaaT8
import Derived.Test.YtjdhndicgifnbaaT6
/- Engine, part 32: code inside a round of a range over a function, or with a mark among the deferred calls. -/
namespace Go.Eng
set_option linter.unusedVariables false
set_option linter.unusedSimpArgs false
open Go
/-- The wide fence, in a round or in none. -/
def Fw (ro : Option Nat) : Fence := { Fence.wide with round := ro }
theorem callsIn_Fw {ro : Option Nat} {n : Nat} {P : Program} {f : FuncId} {args : Array Value} {w : World} {R : Ending → World → Prop} (h : Calls P f args w R) : CallsIn (Fw ro) n P f args w R :=
  (callsIn_wide (n := n)).2 h
theorem rowsIn_Fw {ro : Option Nat} {n : Nat} {P : Program} {row : String} {args : Array Value} {w : World} {R : Value → World → Prop} (h : Rows P row args w R) : RowsIn (Fw ro) n P row args w R :=
  fun c cs _ => by
    obtain ⟨v, w', r, s⟩ := h c cs
    exact ⟨v, w', r, stepsIn_wide.2 s⟩
/-- An activation, whatever is deferred. -/
def bare (a : Act) : Act := { a with defers := [] }
def dressed (D : List Deferred) (a : Act) : Act := { a with defers := D }
theorem bare_put (a : Act) (d : Option Tmp) (v : Value) : dressed a.defers ((bare a).put d v) = a.put d v := by cases d <;> rfl
theorem effA_nd {P : Program} {cs : CS} {ρ : Operand → Option AVal} {o : Oper} {e : EffA} (h : effA P cs ρ o = some e) : ∀ c, o.op ≠ .defer c := by
  intro c hc
  unfold effA at h
  rw [hc] at h
  cases h
theorem wpIn_of_wp {P : Program} {o : Oper} {a : Act} {w : World} {ro : Option Nat} {n : Nat} {K : Act → World → Prop} {Q : Exit → Act → World → Prop} (hnd : ∀ c, o.op ≠ .defer c)
    (h : o.wp P (bare a) w (fun a' w' => a'.defers = [] ∧ K (dressed a.defers a') w') (fun _ _ _ => False)) : o.wpIn (Fw ro) n P a w K Q := by
  refine ⟨fun _ _ => trivial, ?_⟩
  unfold Oper.wp at h
  rw [Oper.semAt_eq _ _ _ hnd]
  have he : (bare a).eval = a.eval := rfl
  rw [he] at h
  generalize (execOp a.eval o).run P w = r at h ⊢
  have hd : (Fw ro).depth.isSome = true → 1 ≤ n := fun h => by cases h
  unfold Oper.upon at h
  unfold Oper.uponIn
  split at h
  · have := h.2
    rw [bare_put] at this
    exact this
  · have := h.2
    rw [bare_put] at this
    exact this
  · have := h.1
    cases hdst : o.dst <;> rw [hdst] at this <;> cases this
  · refine ⟨hd, callsIn_Fw (Calls.mono h fun e w'' he => ?_)⟩
    cases e with
    | returned v =>
      have := he.2
      rw [bare_put] at this
      exact this
    | panicked ch => exact he.elim
    | outgrown =>
      obtain ⟨_, _, h⟩ := he
      exact h.elim
  · refine ⟨hd, rowsIn_Fw ?_⟩
    intro c cs
    obtain ⟨v, w2, h1, h2⟩ := h c cs
    have := h1.2
    rw [bare_put] at this
    exact ⟨v, w2, this, h2⟩
  · exact h.elim
  · exact h.elim
/-- An abstract frame and world, whatever is deferred. -/
structure RD (P : Program) (σ : Sig) (nt : Nat) (T : TL) (H : HL) (D : List Deferred) (pin : List (Tmp × Value)) (a : Act) (w : World) : Prop where
  rel : RRel P σ nt T H (bare a) w
  defers : a.defers = D
  pins : ∀ s v, (s, v) ∈ pin → a.tmps[s]? = some v
theorem RD.of {P : Program} {σ : Sig} {nt : Nat} {T : TL} {H : HL} {a : Act} {w : World} (h : RRel P σ nt T H a w) : RD P σ nt T H [] [] a w := ⟨⟨h.tmps, h.size, rfl, h.heap, h.glob⟩, h.defers, fun _ _ h => by cases h⟩
/-- An operation leaves these slots alone. -/
def pinO (ss : List Tmp) (o : Oper) : Bool := match o.dst with
  | none => true
  | some d => !memN d ss
def pinL (ss : List Tmp) : List Oper → Bool
  | [] => true
  | o :: l => pinO ss o && pinL ss l
def pinB (ss : List Tmp) : Code → Bool
  | .region _ ops _ => pinL ss ops.toList
  | .seq a b => pinB ss a && pinB ss b
  | .cond _ a b => pinB ss a && pinB ss b
  | .block _ b => pinB ss b
  | .loop b => pinB ss b
  | _ => true
theorem pinO_nil (o : Oper) : pinO [] o = true := by
  unfold pinO
  split <;> rfl
theorem pinL_nil : ∀ l, pinL [] l = true
  | [] => rfl
  | o :: l => by unfold pinL; rw [pinO_nil, pinL_nil l]; rfl
theorem pinB_nil : ∀ c, pinB [] c = true
  | .region _ ops _ => pinL_nil _
  | .seq a b => by unfold pinB; rw [pinB_nil a, pinB_nil b]; rfl
  | .cond _ a b => by unfold pinB; rw [pinB_nil a, pinB_nil b]; rfl
  | .block _ b => by unfold pinB; exact pinB_nil b
  | .loop b => by unfold pinB; exact pinB_nil b
  | .skip => rfl
  | .label _ => rfl
  | .exit _ => rfl
  | .ret => rfl
  | .goto _ => rfl
  | .rangeFunc _ _ _ _ => rfl
  | .scope _ => rfl
  | .refuse _ => rfl
theorem pinL_mem {ss : List Tmp} : ∀ {l : List Oper}, pinL ss l = true → ∀ o ∈ l, pinO ss o = true
  | [], _, o, h => by cases h
  | x :: l, h, o, ho => by
    simp only [pinL, Bool.and_eq_true] at h
    rcases List.mem_cons.1 ho with rfl | ho
    · exact h.1
    · exact pinL_mem h.2 o ho
theorem memN_iff : ∀ {l : List Nat} {n : Nat}, n ∈ l → memN n l = true
  | x :: l, n, h => by
    simp only [memN]
    rcases List.mem_cons.1 h with rfl | h
    · rw [Nat.beq_refl]; rfl
    · rw [memN_iff h]
      cases Nat.beq n x <;> cases Nat.beq x n <;> rfl
theorem pin_put {pin : List (Tmp × Value)} {o : Oper} (ho : pinO (pin.map (·.1)) o = true) {a : Act} (h : ∀ s v, (s, v) ∈ pin → a.tmps[s]? = some v) (u : Value) : ∀ s v, (s, v) ∈ pin → (a.put o.dst u).tmps[s]? = some v := fun s v hs => by
  cases hd : o.dst with
  | none => exact h s v hs
  | some d =>
    unfold pinO at ho
    rw [hd] at ho
    have hne : d ≠ s := fun e => by
      subst e
      have := memN_iff (List.mem_map.2 ⟨(d, v), hs, rfl⟩ : d ∈ pin.map (·.1))
      simp only [this] at ho
      cases ho
    show (a.tmps.setIfInBounds d u)[s]? = some v
    rw [Array.getElem?_setIfInBounds_ne hne]
    exact h s v hs
theorem dressed_bare (D : List Deferred) (a : Act) (h : a.defers = []) : bare (dressed D a) = a := by
  cases a
  subst h
  rfl
section
variable {P : Program} {cs : CS} {nt : Nat} {ro : Option Nat} {n : Nat} {D : List Deferred} {pin : List (Tmp × Value)}
theorem stepA_okI (hcs : CSOk P cs) {σ : Sig} {T T' : TL} {H H' : HL} {a : Act} {w : World} {ops : Array Oper} {base i : Nat} {o : Oper} (hi : ops[i]? = some o) (h : stepA P cs nt ops base o T H = some (T', H')) (hr : RD P σ nt T H D pin a w) (hpo : pinO (pin.map (·.1)) o = true)
    (hf : Free σ base) {K : Act → World → Prop} {Q : Exit → Act → World → Prop}
    (hK : ∀ σ' a' w', RD P σ' nt T' H' D pin a' w' → Frm σ (aget H) w σ' (aget H') w' → Only σ σ' base → K a' w') : wpOpIn (Fw ro) n P ops Q i K a w := by
  have hput : ∀ u, (a.put o.dst u).defers = a.defers := fun u => by cases o.dst <;> rfl
  have hbp : ∀ u, bare (a.put o.dst u) = (bare a).put o.dst u := fun u => by cases o.dst <;> rfl
  unfold stepA at h
  unfold wpOpIn
  simp only [hi]
  have hy : yielded ops (bare a).tmps = yielded ops a.tmps := rfl
  split at h
  · cases h
  · rename_i hw
    have hwant := wantA_ok hr.rel hw
    rw [hy] at hwant
    rw [hwant]
    simp only [Bool.false_eq_true, if_false]
    refine ⟨fun _ _ => trivial, ?_⟩
    split at h
    · rename_i T1 hp
      cases h
      refine hK σ _ w ⟨?_, (hput _).trans hr.defers, pin_put hpo hr.pins _⟩ (Frm.refl _ _ _) (Only.refl _ _)
      rw [hbp]
      exact hr.rel.put (Sig.le_refl σ) hr.rel.heap (.tup rfl fun i v v' h => by simp at h) hp
    · cases h
  · rename_i hw
    have hwant := wantA_ok hr.rel hw
    rw [hy] at hwant
    rw [hwant]
    simp only [if_true]
    split at h
    · cases h
    · rename_i e he
      split at h
      · cases h
      · rename_i v H1 ha
        split at h
        · rename_i T1 hp
          cases h
          refine wpIn_of_wp (effA_nd he) (effA_ok hcs hr.rel.env hr.rel.glob he H w base v H' hr.rel.heap ha hf _ _ fun σ' v' w' h1 h2 h3 h4 => ?_)
          refine ⟨by cases o.dst <;> rfl, ?_⟩
          rw [bare_put]
          refine hK σ' _ w' ⟨?_, (hput _).trans hr.defers, pin_put hpo hr.pins _⟩ h3 h4
          rw [hbp]
          exact hr.rel.put h3.ext h2 h1 hp
        · cases h
theorem runA_okI (hcs : CSOk P cs) {ops : Array Oper} {Q : Exit → Act → World → Prop} : ∀ (l : List Oper) (k base : Nat) (σ : Sig) (T T' : TL) (H H' : HL) (a : Act) (w : World), (∀ j, l[j]? = ops[k + j]?) → pinL (pin.map (·.1)) l = true →
    runA P cs nt ops l base T H = some (T', H') → RD P σ nt T H D pin a w → Fresh σ base →
    (∀ σ' a' w', RD P σ' nt T' H' D pin a' w' → Frm σ (aget H) w σ' (aget H') w' → Fresh σ' (base + 8 * l.length) → Q .normal a' w') → wpOpsIn (Fw ro) n P ops Q (List.range' k l.length) a w := by
  intro l
  induction l with
  | nil =>
    intro k base σ T T' H H' a w _ _ h hr hf hQ
    simp only [runA, Option.some.injEq, Prod.mk.injEq] at h
    obtain ⟨rfl, rfl⟩ := h
    exact hQ σ a w hr (Frm.refl _ _ _) (by simpa using hf)
  | cons o l ih =>
    intro k base σ T T' H H' a w hl hpl h hr hf hQ
    simp only [pinL, Bool.and_eq_true] at hpl
    simp only [runA] at h
    split at h
    · cases h
    · rename_i T1 H1 h1
      have hi : ops[k]? = some o := by simpa using (hl 0).symm
      simp only [List.length_cons, List.range'_succ, wpOpsIn_cons]
      refine stepA_okI hcs hi h1 hr hpl.1 hf.free fun σ' a' w' g1 g2 g3 => ?_
      refine ih (k + 1) (base + 8) σ' T1 T' H1 H' a' w' (fun j => by have := hl (j + 1); simpa [Nat.add_assoc, Nat.add_comm 1 j] using this) hpl.2 h g1 (hf.only g3) fun σ'' a'' w'' q1 q2 q3 => ?_
      exact hQ σ'' a'' w'' q1 (g2.trans q2) (by simp only [List.length_cons]; rw [show base + 8 * (l.length + 1) = base + 8 + 8 * l.length by omega]; exact q3)
theorem wpAny_ofI {ops : Array Oper} {fr : Nat} {tab cl : List Nat} {Q : Exit → Act → World → Prop} (hpl : pinL (pin.map (·.1)) ops.toList = true) (hcs : CSOk P cs) {G : TL → HL → Prop} : ∀ (fuel : Nat) (listed : Array Bool) (T : TL) (H : HL) (σ : Sig) (a : Act) (w : World), AAny P cs nt ops fr tab cl G fuel listed T H → listed.size = ops.size → RD P σ nt T H D pin a w →
    (∀ i, i < ops.size → ¬ LL listed i → Free σ (fr + 8 * i)) → Fresh σ (fr + 8 * ops.size) →
    (∀ σ' T' H' a' w', G T' H' → RD P σ' nt T' H' D pin a' w' → Frm σ (aget H) w σ' (aget H') w' → Fresh σ' (fr + 8 * ops.size) → Q .normal a' w') → wpAnyIn (Fw ro) n P .any ops Q fuel listed a w
  | 0, listed, T, H, σ, a, w, hA, _, hr, _, hfr, hQ => ⟨hA.1, hQ σ T H a w hA.2 hr (Frm.refl _ _ _) hfr⟩
  | fuel + 1, listed, T, H, σ, a, w, hA, hs, hr, hfree, hfr, hQ => by
    refine ⟨fun h0 => hQ σ T H a w (hA.1 h0) hr (Frm.refl _ _ _) hfr, fun i hi => ?_⟩
    obtain ⟨T1, H1, hst, hA1⟩ := hA.2 i hi
    obtain ⟨o, e, ho, hk, _, _, hse⟩ := stepD_some hst
    obtain ⟨hilt, hin, _⟩ := ready_facts hs hi
    have hstA : stepA P cs nt ops (fr + 8 * i) o T H = some (T1, H1) := by rw [stepA_kind, hk]; exact hse
    refine stepA_okI hcs ho hstA hr (pinL_mem hpl o (by rw [Array.mem_toList_iff]; exact Array.mem_of_getElem? ho)) (hfree i hilt hin) fun σ' a' w' g1 g2 g3 => ?_
    refine wpAny_ofI hpl hcs fuel _ T1 H1 σ' a' w' hA1 (by simpa using hs) g1 (fun m hm hmn => ?_) (fun n hn => by rw [g3 n (.inr (by omega))]; exact hfr n hn) fun σ'' T'' H'' a'' w'' q1 q2 q3 q4 => hQ σ'' T'' H'' a'' w'' q1 q2 (g2.trans q3) q4
    rw [LL_set (by omega)] at hmn
    have hmi : m ≠ i := fun e => hmn (.inl e)
    intro j hj
    rw [g3 _ (by omega)]
    exact hfree m hm (fun h => hmn (.inr h)) j hj
theorem RD.ext {σ : Sig} {T T' : TL} {H H' : HL} {a : Act} {w : World} (h : RD P σ nt T H D pin a w) (hT : aget T = aget T') (hH : aget H = aget H') : RD P σ nt T' H' D pin a w := ⟨h.rel.ext hT hH, h.defers, h.pins⟩
theorem RD.less {σ : Sig} {T T' : TL} {H H' : HL} {a : Act} {w : World} (h : RD P σ nt T H D pin a w) (hT : ∀ s v, aget T' s = some v → aget T s = some v) (hH : ∀ n o, aget H' n = some o → aget H n = some o) : RD P σ nt T' H' D pin a w := ⟨h.rel.less hT hH, h.defers, h.pins⟩
theorem regA_okI (hcs : CSOk P cs) (hm : P.follows .mixedOrders = true) {id : Nat} {ops : Array Oper} (hpl : pinL (pin.map (·.1)) ops.toList = true) {draw : Bool} {fr : Nat} {T T' : TL} {H H' : HL} (h : regA P cs nt ops draw fr T H = some (T', H'))
    {σ : Sig} {a : Act} {w : World} (hr : RD P σ nt T H D pin a w) (hfr : Fresh σ fr) {Q : Exit → Act → World → Prop}
    (hQ : ∀ σ' a' w', RD P σ' nt T' H' D pin a' w' → Frm σ (aget H) w σ' (aget H') w' → Fresh σ' (fr + 8 * ops.size) → Q .normal a' w') : (Code.region id ops draw).wpIn (Fw ro) n P Q a w := by
  unfold regA at h
  cases draw with
  | false =>
    simp only at h
    refine wpIn_region ?_
    have := runA_okI (ro := ro) (n := n) hcs (Q := Q) ops.toList 0 fr σ T T' H H' a w (by simp) hpl h hr hfr (by simpa using hQ)
    rw [List.range_eq_range']
    simpa using this
  | true =>
    simp only at h
    cases hrun : runK P cs nt ops fr (befs ops.toList []) ops.toList 0 T H with
    | none => rw [hrun] at h; cases h
    | some q =>
      obtain ⟨T2, H2, cl⟩ := q
      rw [hrun] at h
      simp only at h
      cases hp : pairsOk ops (befs ops.toList []) cl ops.toList 0 with
      | false => rw [hp] at h; cases h
      | true =>
        rw [hp] at h
        simp only [cond_true, Option.some.injEq, Prod.mk.injEq] at h
        obtain ⟨rfl, rfl⟩ := h
        refine wpIn_region_any hm ?_
        have hall : ∀ i, ¬ LL (Array.replicate ops.size false) i := fun i h => by
          unfold LL at h
          simp only [Array.getD_eq_getD_getElem?, Array.getElem?_replicate] at h
          split at h <;> simp at h
        have hdc : DC ops (Array.replicate ops.size false) := fun i o hi _ _ _ _ => absurd hi (hall i)
        have htab : ∀ listed, DC ops listed → TabOk ops listed (befs ops.toList []) := fun listed hd => befs_ok hd ops.toList [] (by simp) (fun j b hj => by simp at hj)
        have hA := AAny_lex (P := P) (cs := cs) (nt := nt) (fr := fr) (cl := cl) (G := fun X Y => aget X = aget T2 ∧ aget Y = aget H2) (fun T1 T3 H1 H3 a1 a2 a3 => ⟨a1 ▸ a3.1, a2 ▸ a3.2⟩) htab ops.toList 0 (Array.replicate ops.size false) T T2 H H2 cl (by simp) (by simp)
          (fun i => ⟨fun h => absurd h (hall i), fun h => by omega⟩) (by simp) hdc hrun (by simp) hp ⟨rfl, rfl⟩
        refine wpAny_ofI hpl (tab := befs ops.toList []) (cl := cl) hcs ops.size _ T H σ a { w with drawn := w.drawn + 1 } (by simpa using hA) (by simp) ⟨⟨hr.rel.tmps, hr.rel.size, hr.rel.defers, hr.rel.heap.drew rfl, hr.rel.glob⟩, hr.defers, hr.pins⟩ (fun i _ _ j _ => hfr _ (by omega)) (fun n hn => hfr n (by omega)) ?_
        intro σ' T3 H3 a' w' g1 g2 g3 g4
        refine hQ σ' a' w' (g2.ext g1.1 g1.2) ?_ g4
        rw [← g1.2]
        exact ⟨g3.ext, g3.size, g3.os, g3.output, g3.tape, g3.old⟩
end
/-- Code does so, in a round or in none, whatever is deferred. -/
def SimI (P : Program) (bs nt : Nat) (c : Code) (s : SA) (x : XA) (s' : SA) : Prop :=
  ∀ (ro : Option Nat) (n : Nat) (D : List Deferred) (pin : List (Tmp × Value)) (_ : pinB (pin.map (·.1)) c = true) (σ : Sig) (a : Act) (w : World) (Q : Exit → Act → World → Prop), RD P σ nt s.T s.H D pin a w → Fresh σ s.fr →
    (∀ σ' a' w', RD P σ' nt s'.T s'.H D pin a' w' → FrmB bs σ (aget s.H) w σ' (aget s'.H) w' → Fresh σ' s'.fr → Q x.out a' w') → c.wpIn (Fw ro) n P Q a w
theorem iterA_okI {P : Program} {bs nt : Nat} {b : Code} {f : SA → Option (XA × SA)} (hf : ∀ s x s', f s = some (x, s') → SimI P bs nt b s x s') (s0 : SA) : ∀ (m : Nat) (s : SA) (x : XA) (s' : SA), iterA f (headA P bs s0) m s = some (x, s') →
    ∀ (ro : Option Nat) (n : Nat) (D : List Deferred) (pin : List (Tmp × Value)) (_ : pinB (pin.map (·.1)) b = true) (σ0 : Sig) (w0 : World), Fresh σ0 s0.fr → ∀ (σ : Sig) (a : Act) (w : World) (Q : Exit → Act → World → Prop), RD P σ nt s.T s.H D pin a w → Fresh σ s.fr → FrmB bs σ0 (aget s0.H) w0 σ (aget s.H) w →
    (∀ σ' a' w', RD P σ' nt s'.T s'.H D pin a' w' → FrmB bs σ0 (aget s0.H) w0 σ' (aget s'.H) w' → Fresh σ' s'.fr → Q x.out a' w') → Code.roundsIn (Fw ro) n P b Q m a w
  | 0, s, x, s', h, _, _, _, _, _, _, _, _, _, _, _, _, _, _, _, _ => by cases h
  | m + 1, s, x, s', h, ro, n, D, pin, hpb, σ0, w0, hf0, σ, a, w, Q, hr, hfr, hfm, hQ => by
    rw [roundsIn_succ]
    simp only [iterA] at h
    cases hs : f s with
    | none => rw [hs] at h; cases h
    | some p =>
      obtain ⟨y, s1⟩ := p
      rw [hs] at h
      refine hf s y s1 hs ro n D pin hpb σ a w _ hr hfr fun σ1 a1 w1 g1 g2 g3 => ?_
      cases y with
      | normal =>
        simp only at h
        obtain ⟨σ2, q1, q2, q3⟩ := headA_ok (bs := bs) s0 s1 g1.rel g3 hf0 (hfm.trans g2)
        exact iterA_okI hf s0 m _ x s' h ro n D pin hpb σ0 w0 hf0 σ2 a1 w1 Q ⟨q1, g1.defers, g1.pins⟩ q2 q3 hQ
      | exit id =>
        simp only [Option.some.injEq, Prod.mk.injEq] at h
        obtain ⟨rfl, rfl⟩ := h
        exact hQ σ1 a1 w1 g1 (hfm.trans g2) g3
      | ret =>
        simp only [Option.some.injEq, Prod.mk.injEq] at h
        obtain ⟨rfl, rfl⟩ := h
        exact hQ σ1 a1 w1 g1 (hfm.trans g2) g3
theorem evC_okI {P : Program} {cs : CS} (hcs : CSOk P cs) (hm : P.follows .mixedOrders = true) {nt nn F bs : Nat} : ∀ (c : Code) (s : SA) (x : XA) (s' : SA), evC P cs nt nn F bs c s = some (x, s') → SimI P bs nt c s x s'
  | .skip, s, x, s', h => by
    simp only [evC, Option.some.injEq, Prod.mk.injEq] at h
    obtain ⟨rfl, rfl⟩ := h
    exact fun ro n D pin hpb σ a w Q hr hf hQ => wpIn_skip (hQ σ a w hr (FrmB.refl _ _ _ _) hf)
  | .label l, s, x, s', h => by
    simp only [evC, Option.some.injEq, Prod.mk.injEq] at h
    obtain ⟨rfl, rfl⟩ := h
    exact fun ro n D pin hpb σ a w Q hr hf hQ => wpIn_label (hQ σ a w hr (FrmB.refl _ _ _ _) hf)
  | .region id ops d, s, x, s', h => by
    simp only [evC] at h
    split at h
    · rename_i T' H' hreg
      cases h
      exact fun ro n D pin hpb σ a w Q hr hf hQ => regA_okI hcs hm hpb hreg hr hf fun σ' a' w' g1 g2 g3 => hQ σ' a' w' (g1.less (fun _ _ => prune_get) (fun _ _ h => h)) (g2.b bs) g3
    · cases h
  | .seq a b, s, x, s', h => by
    simp only [evC] at h
    cases hs : evC P cs nt nn F bs a s with
    | none => rw [hs] at h; cases h
    | some p =>
      obtain ⟨y, s1⟩ := p
      rw [hs] at h
      have ha := evC_okI hcs hm a s y s1 hs
      intro ro n D pin hpb σ ac w Q hr hf hQ
      simp only [pinB, Bool.and_eq_true] at hpb
      refine wpIn_seq (ha ro n D pin hpb.1 σ ac w _ hr hf fun σ1 a1 w1 g1 g2 g3 => ?_)
      cases y with
      | normal =>
        simp only at h
        exact evC_okI hcs hm b s1 x s' h ro n D pin hpb.2 σ1 a1 w1 Q g1 g3 fun σ2 a2 w2 q1 q2 q3 => hQ σ2 a2 w2 q1 (g2.trans q2) q3
      | exit id => simp only [Option.some.injEq, Prod.mk.injEq] at h; obtain ⟨rfl, rfl⟩ := h; exact hQ σ1 a1 w1 g1 g2 g3
      | ret => simp only [Option.some.injEq, Prod.mk.injEq] at h; obtain ⟨rfl, rfl⟩ := h; exact hQ σ1 a1 w1 g1 g2 g3
  | .cond c a b, s, x, s', h => by
    simp only [evC] at h
    split at h
    · rename_i t ht
      intro ro n D pin hpb σ ac w Q hr hf hQ
      have hv := hr.rel.env c _ ht
      have hb : ac.eval c = .bool t := by
        have he : (bare ac).eval c = ac.eval c := rfl
        rw [he] at hv
        generalize ac.eval c = z at hv; cases hv; rfl
      simp only [pinB, Bool.and_eq_true] at hpb
      refine wpIn_cond hb ?_
      cases t with
      | true => exact evC_okI hcs hm a s x s' h ro n D pin hpb.1 σ ac w Q hr hf hQ
      | false => exact evC_okI hcs hm b s x s' h ro n D pin hpb.2 σ ac w Q hr hf hQ
    · cases h
  | .block id b, s, x, s', h => by
    simp only [evC] at h
    cases hs : evC P cs nt nn F bs b s with
    | none => rw [hs] at h; cases h
    | some p =>
      obtain ⟨y, s1⟩ := p
      rw [hs] at h
      have hb := evC_okI hcs hm b s y s1 hs
      intro ro n D pin hpb σ ac w Q hr hf hQ
      refine wpIn_block (hb ro n D pin hpb σ ac w _ hr hf fun σ1 a1 w1 g1 g2 g3 => ?_)
      cases y with
      | normal => simp only [Option.some.injEq, Prod.mk.injEq] at h; obtain ⟨rfl, rfl⟩ := h; exact hQ σ1 a1 w1 g1 g2 g3
      | ret => simp only [Option.some.injEq, Prod.mk.injEq] at h; obtain ⟨rfl, rfl⟩ := h; exact hQ σ1 a1 w1 g1 g2 g3
      | exit id' =>
        simp only at h
        simp only [XA.out, Exit.inBlock]
        rcases beq_cases id' id with ⟨he, hbe⟩ | ⟨he, hbe⟩ <;> rw [hbe] at h <;> simp only [cond_true, cond_false, Option.some.injEq, Prod.mk.injEq] at h
        · obtain ⟨rfl, rfl⟩ := h
          rw [if_pos he]; exact hQ σ1 a1 w1 g1 g2 g3
        · obtain ⟨rfl, rfl⟩ := h
          rw [if_neg he]; exact hQ σ1 a1 w1 g1 g2 g3
  | .loop b, s, x, s', h => by
    simp only [evC] at h
    intro ro n D pin hpb σ ac w Q hr hf hQ
    exact wpIn_loop_rounds F (iterA_okI (fun s x s' hs => evC_okI hcs hm b s x s' hs) s F s x s' h ro n D pin hpb σ w hf σ ac w Q hr hf (FrmB.refl _ _ _ _) hQ)
  | .exit id, s, x, s', h => by
    simp only [evC, Option.some.injEq, Prod.mk.injEq] at h
    obtain ⟨rfl, rfl⟩ := h
    exact fun ro n D pin hpb σ a w Q hr hf hQ => wpIn_exit (hQ σ a w hr (FrmB.refl _ _ _ _) hf)
  | .ret, s, x, s', h => by
    simp only [evC, Option.some.injEq, Prod.mk.injEq] at h
    obtain ⟨rfl, rfl⟩ := h
    exact fun ro n D pin hpb σ a w Q hr hf hQ => wpIn_ret (hQ σ a w hr (FrmB.refl _ _ _ _) hf)
  | .rangeFunc _ _ _ _, s, x, s', h => by simp [evC] at h
  | .scope _, s, x, s', h => by simp [evC] at h
end Go.Eng

/- Engine, part 33: a range over a function. -/
namespace Go.Eng
set_option linter.unusedVariables false
set_option linter.unusedSimpArgs false
open Go Go.RowKit
/-- New blocks at most. -/
structure Grown (A B : World) : Prop where
  size : A.heap.size ≤ B.heap.size
  old : ∀ b, b < A.heap.size → B.heap[b]? = A.heap[b]?
  os : B.os = A.os
  output : B.output = A.output
  tape : B.tape = A.tape
theorem Grown.refl (A : World) : Grown A A := ⟨Nat.le_refl _, fun _ _ => rfl, rfl, rfl, rfl⟩
theorem Grown.trans {A B C : World} (h : Grown A B) (k : Grown B C) : Grown A C :=
  ⟨Nat.le_trans h.size k.size, fun b hb => (k.old b (Nat.lt_of_lt_of_le hb h.size)).trans (h.old b hb), k.os.trans h.os, k.output.trans h.output, k.tape.trans h.tape⟩
theorem HRel.grown {σ : Sig} {H : Heap} {A B : World} (h : HRel σ H A) (g : Grown A B) : HRel σ H B :=
  ⟨fun n o hn => by
    obtain ⟨p, hp, ho⟩ := h.obj n o hn
    exact ⟨p, hp, ho.mono (Sig.le_refl σ) (g.old _ ho.lt)⟩, h.inj⟩
theorem Frm.grown {σ σ' : Sig} {H H' : Heap} {w A B : World} (h : Frm σ H w σ' H' A) (g : Grown A B) : Frm σ H w σ' H' B :=
  ⟨h.ext, Nat.le_trans h.size g.size, g.os.trans h.os, g.output.trans h.output, g.tape.trans h.tape, fun b hb hn => by
    obtain ⟨h1, h2⟩ := h.old b hb hn
    exact ⟨(g.old b (Nat.lt_of_lt_of_le hb h.size)).trans h1, h2⟩⟩
/-- Some blocks of a memory, to be read alone. -/
def LessRo (Hc H : HL) : Prop := ∀ n o, aget Hc n = some o → ∃ ro c, o = .cells true c ∧ aget H n = some (.cells ro c)
theorem HRel.lessRo {σ : Sig} {Hc H : HL} {w : World} (h : HRel σ (aget H) w) (hl : LessRo Hc H) : HRel σ (aget Hc) w :=
  ⟨fun n o hn => by
    obtain ⟨ro, c, rfl, h2⟩ := hl n o hn
    obtain ⟨p, hp, d, t, fz, e1, e2, e3, e4⟩ := h.obj n _ h2
    exact ⟨p, hp, d, t, fz, e1, e2, e3, (fun e => by cases e), e4.2⟩, fun n m o o' p q h1 h2 _ _ _ => by
    obtain ⟨_, _, rfl, _⟩ := hl n o h1
    obtain ⟨_, _, rfl, _⟩ := hl m o' h2
    exact .inr ⟨rfl, rfl⟩⟩
/-- A block that holds no cells is nobody's. -/
theorem not_own {σ : Sig} {H : Heap} {w : World} (h : HRel σ H w) {b : Nat} {ob : Obj} (hb : w.heap[b]? = some ob) (hc : ∀ c t fz, ob ≠ .cells c t fz) : ¬ Own σ H b := by
  rintro ⟨n, o, p, h1, h2, h3, h4⟩
  obtain ⟨q, hq, ho⟩ := h.obj n o h1
  rw [h3] at hq
  cases hq
  cases o with
  | cells ro c =>
    obtain ⟨c', t, fz, h5, _⟩ := ho
    rw [h4, hb] at h5
    cases h5
    exact hc _ _ _ rfl
theorem HRel.putObj {σ : Sig} {H : Heap} {w : World} (h : HRel σ H w) {l : Nat} {o o' : Obj} (hl : w.heap[l]? = some o) (hc : ∀ c t fz, o ≠ .cells c t fz) : HRel σ H (w.putObj l o') :=
  ⟨fun n ob hn => by
    obtain ⟨p, hp, ho⟩ := h.obj n ob hn
    refine ⟨p, hp, ho.mono (Sig.le_refl σ) (World.putObj_heap_other fun e => ?_)⟩
    cases ob with
    | cells ro c =>
      obtain ⟨c', t, fz, h5, _⟩ := ho
      rw [e, hl] at h5
      cases h5
      exact hc _ _ _ rfl, h.inj⟩
theorem Frm.putObj {σ σ' : Sig} {H H' : Heap} {w w' : World} (h : Frm σ H w σ' H' w') {l : Nat} {o : Obj} (hl : w.heap.size ≤ l) : Frm σ H w σ' H' (w'.putObj l o) :=
  ⟨h.ext, by rw [show (w'.putObj l o).heap.size = w'.heap.size by simp [World.putObj]]; exact h.size, h.os, h.output, h.tape, fun b hb hn => by
    obtain ⟨h1, h2⟩ := h.old b hb hn
    exact ⟨(World.putObj_heap_other (by omega)).trans h1, h2⟩⟩
theorem FrmB.full {bs : Nat} {σ σ' : Sig} {H H' : Heap} {w w' : World} (h : FrmB bs σ H w σ' H' w') (hf : Fresh σ bs) : Frm σ H w σ' H' w' :=
  ⟨fun n p hp => h.ext n p (Nat.lt_of_not_le fun hle => by rw [hf n hle] at hp; cases hp) hp, h.size, h.os, h.output, h.tape, h.old⟩
/-! ### what yield hands over -/
def putPs : TL → List Tmp → List AVal → TL
  | T, p :: ps, v :: vs => putPs (aset T p v) ps vs
  | T, _, _ => T
theorem putPs_ok {σ : Sig} {nt : Nat} : ∀ (ps : List Tmp) (vs : List AVal) (vs' : List Value) (T : TL) (t : Array Value), (∀ p ∈ ps, p < nt) → LR σ vs vs'.toArray → (∀ s v, aget T s = some v → ∃ v', t[s]? = some v' ∧ VR σ v v') → t.size = nt →
    (∀ s v, aget (putPs T ps vs) s = some v → ∃ v', ((ps.zip vs').foldl (fun (t : Array Value) (p : Tmp × Value) => t.setIfInBounds p.1 p.2) t)[s]? = some v' ∧ VR σ v v') ∧ ((ps.zip vs').foldl (fun (t : Array Value) (p : Tmp × Value) => t.setIfInBounds p.1 p.2) t).size = nt
  | [], _, _, T, t, _, _, hT, hs => by simpa [putPs] using ⟨hT, hs⟩
  | p :: ps, [], vs', T, t, _, hl, hT, hs => by
    have : vs' = [] := by
      have := hl.1
      simpa using this.symm
    subst this
    simpa [putPs] using ⟨hT, hs⟩
  | p :: ps, v :: vs, [], T, t, _, hl, hT, hs => by
    have := hl.1
    simp at this
  | p :: ps, v :: vs, v' :: vs', T, t, hp, hl, hT, hs => by
    have hv : VR σ v v' := hl.2 0 v v' rfl rfl
    have hl2 : LR σ vs vs'.toArray := ⟨by have := hl.1; simpa using this, fun i x x' h1 h2 => hl.2 (i + 1) x x' (by simpa using h1) (by simpa using h2)⟩
    have hpn : p < nt := hp p (by simp)
    simp only [putPs, List.zip_cons_cons, List.foldl_cons]
    refine putPs_ok ps vs vs' _ _ (fun q hq => hp q (by simp [hq])) hl2 (fun s u hu => ?_) (by simp [hs])
    rw [aget_aset] at hu
    split at hu
    · rename_i e
      subst e
      cases hu
      exact ⟨v', by rw [Array.getElem?_setIfInBounds_self, if_pos (by rw [hs]; exact hpn)], hv⟩
    · rename_i e
      obtain ⟨u', h1, h2⟩ := hT s u hu
      exact ⟨u', by rw [Array.getElem?_setIfInBounds_ne e]; exact h1, h2⟩
/-! ### the function that is ranged over -/
/-- A function that is handed yield calls it with these, one behind the other, till there are no more or it is told to stop. -/
def ItOk (P : Program) (gf : FuncId) (cap : List AVal) (Hc : HL) (X : Nat → List AVal) (N : Nat) (fin : Bool) : Prop :=
  ∀ (lb : Array Value) (l : Nat) (J : Nat → World → Prop) (Jx : World → Prop) (W : World),
    (∀ k A B, J k A → Grown A B → J k B) → (∀ A B, Jx A → Grown A B → Jx B) →
    (∀ k W1, J k W1 → k ≤ N ∧ ∃ σ1, GRel P σ1 ∧ HRel σ1 (aget Hc) W1 ∧ LR σ1 cap lb ∧ ((k < N ∨ fin = false) → ∀ xs, LR σ1 (X k) xs → ∀ m, YieldAt Fence.wide m P l xs W1 fun e W' => (e = .returned (.bool true) ∧ J (k + 1) W') ∨ (e = .returned (.bool false) ∧ Jx W'))) →
    J 0 W → Calls P gf (#[.func (.yield l) #[] #[]] ++ lb) W fun e W' => (∃ v, e = .returned v) ∧ ((fin = true ∧ J N W') ∨ Jx W')
def outX (fin : Bool) (id : Nat) : Exit := cond fin .normal (.exit id)
theorem rangeFunc_okI {P : Program} {cs : CS} (hcs : CSOk P cs) (hm : P.follows .mixedOrders = true) {nt nn F : Nat} {g : Operand} {ps : Array Tmp} {assign body : Code} {s : SA} {gf : FuncId} {cap : List AVal} {Hc : HL} {X : Nat → List AVal} {N : Nat} {fin : Bool}
    (hg : opd P (aget s.T) g = some (.fn gf cap)) (hent : ∀ args w, (callFunc gf args).run P w = .ok (.enter gf args) w) (hit : ItOk P gf cap Hc X N fin) (hgl : P.globals.size ≤ s.fr)
    (HH : Nat → HL) (h0 : ∀ n o, aget (HH 0) n = some o → aget s.H n = some o) (hlt : ∀ k, k ≤ N → ltH s.fr (HH k) = true) (hHc : ∀ k, k ≤ N → LessRo Hc (HH k))
    (hX : ∀ k, (X k).length = ps.size) (hps : ∀ p ∈ ps.toList, p < nt)
    (hround : ∀ k, k < N → ∃ sa s', evC P cs nt nn F s.fr assign ⟨putPs s.T ps.toList (X k), HH k, s.fr⟩ = some (.normal, sa) ∧ evC P cs nt nn F s.fr body sa = some (.normal, s') ∧ ∀ n o, aget (HH (k + 1)) n = some o → aget s'.H n = some o)
    {id : Nat} {Hf : HL} (hfin : fin = true → Hf = HH N) (hltf : ltH s.fr Hf = true)
    (hlast : fin = false → ∃ sa s', evC P cs nt nn F s.fr assign ⟨putPs s.T ps.toList (X N), HH N, s.fr⟩ = some (.normal, sa) ∧ evC P cs nt nn F s.fr body sa = some (.exit id, s') ∧ ∀ n o, aget Hf n = some o → aget s'.H n = some o)
    {n : Nat} {D : List Deferred} {σ : Sig} {a : Act} {w : World} {Q : Exit → Act → World → Prop} (hr : RD P σ nt s.T s.H D [] a w) (hf : Fresh σ s.fr)
    (hQ : ∀ σ' a' w' B, RD P σ' nt s.T Hf ({ target := .collected B, args := #[] } :: D) [] a' w' → Frm σ (aget s.H) w σ' (aget Hf) w' → Fresh σ' s.fr → w'.heap[B]? = some (.deferred (some [])) → w.heap.size ≤ B → Q (outX fin id) a' w') :
    (Code.rangeFunc g ps assign body).wpIn (Fw none) n P Q a w := by
  refine wpIn_rangeFunc ?_
  intro fnn hfn
  have hgv := hr.rel.env g _ hg
  have hgv2 : VR σ (.fn gf cap) (a.eval g) := hgv
  obtain ⟨cap', hge, hcap⟩ : ∃ cap', a.eval g = .func (.func gf) #[] cap' ∧ LR σ cap cap' := by
    generalize a.eval g = z at hgv2
    cases hgv2 with
    | fn h1 h2 => exact ⟨_, rfl, h1, h2⟩
  obtain ⟨rec, hrec⟩ : ∃ rec : LoopState → Option Code → Loop, rec = fun st pe => { state := st, pending := pe, fn := fnn, tmps := a.tmps, params := ps, assign, body, defers := w.heap.size } := ⟨_, rfl⟩
  obtain ⟨W1, hW1⟩ : ∃ W1, (w.alloc (.deferred (some []))).alloc (.loop (rec .ready none)) = W1 := ⟨_, rfl⟩
  have hL1 : W1.heap[w.heap.size + 1]? = some (.loop (rec .ready none)) := by
    rw [← hW1]; have := World.alloc_heap_new (w.alloc (.deferred (some []))) (.loop (rec .ready none)); rwa [World.size_alloc] at this
  have hK1 : W1.heap[w.heap.size]? = some (.deferred (some [])) := by
    rw [← hW1]; exact (Below.heap_alloc _ _ _ (by simp)).trans (World.alloc_heap_new w _)
  have hGr : Grown w W1 := by
    rw [← hW1]
    exact ⟨by simp; omega, fun b hb => (Below.heap_alloc _ _ _ (by simp; omega)).trans (Below.heap_alloc w _ b hb), rfl, rfl, rfl⟩
  -- what holds between two rounds
  obtain ⟨J, hJ⟩ : ∃ J : Nat → World → Prop, J = fun k W => k ≤ N ∧ (∃ σ', HRel σ' (aget (HH k)) W ∧ Frm σ (aget s.H) w σ' (aget (HH k)) W ∧ Fresh σ' s.fr) ∧ W.heap[w.heap.size + 1]? = some (.loop (rec .ready none)) ∧ W.heap[w.heap.size]? = some (.deferred (some [])) := ⟨_, rfl⟩
  obtain ⟨Jx, hJx⟩ : ∃ Jx : World → Prop, Jx = fun W => fin = false ∧ (∃ σ', HRel σ' (aget Hf) W ∧ Frm σ (aget s.H) w σ' (aget Hf) W ∧ Fresh σ' s.fr) ∧ W.heap[w.heap.size + 1]? = some (.loop (rec .done (some (.exit id)))) ∧ W.heap[w.heap.size]? = some (.deferred (some [])) := ⟨_, rfl⟩
  have hlp : ∀ st pe, ∀ c t fz, Obj.loop (rec st pe) ≠ .cells c t fz := fun _ _ _ _ _ h => by cases h
  have hdf : ∀ c t fz, Obj.deferred (some []) ≠ .cells c t fz := fun _ _ _ h => by cases h
  have keep : ∀ {A B : World} {b : Nat} {o : Obj}, A.heap[b]? = some o → Grown A B → B.heap[b]? = some o := fun h g => (g.old _ (Array.getElem?_eq_some_iff.1 h).1).trans h
  refine ⟨w.heap.size + 1, [{ target := .collected w.heap.size, args := #[] }], W1, { target := .fn (.func gf) cap', args := #[.func (.yield (w.heap.size + 1)) #[] #[]] }, W1, gf,
    #[.func (.yield (w.heap.size + 1)) #[] #[]] ++ cap', W1, ?_, ?_, ?_, ?_, (fun h => by cases h), ?_⟩
  · rw [← hW1, hrec]; exact run_enterLoop_outer _ _ _ _ _
  · simp only [resolve, hge]
    simp [go_sem]
  · intro f' hf'; trivial
  · simp [invoke, go_sem, hent]
  · refine callsIn_Fw ((hit cap' (w.heap.size + 1) J Jx W1 ?_ ?_ ?_ ?_).mono ?_)
    · rw [hJ]
      rintro k A B ⟨hk, ⟨σ', q1, q2, q3⟩, q4, q5⟩ gr
      exact ⟨hk, ⟨σ', q1.grown gr, q2.grown gr, q3⟩, keep q4 gr, keep q5 gr⟩
    · rw [hJx]
      rintro A B ⟨hk, ⟨σ', q1, q2, q3⟩, q4, q5⟩ gr
      exact ⟨hk, ⟨σ', q1.grown gr, q2.grown gr, q3⟩, keep q4 gr, keep q5 gr⟩
    · rw [hJ]
      rintro k W ⟨hk, ⟨σ1, q1, q2, q3⟩, hl, hd⟩
      refine ⟨hk, σ1, hr.rel.glob.mono q2.ext, q1.lessRo (hHc k hk), hcap.mono q2.ext, fun hkN xs hxs m => ?_⟩
      have hlW : w.heap.size + 1 < W.heap.size := (Array.getElem?_eq_some_iff.1 hl).1
      have hsz : xs.size = (rec .ready none).params.size := by rw [← hxs.1, hX k, hrec]
      have hy := run_yield (P := P) hl hsz
      refine ⟨fnn, _, assign, body, by rw [hrec] at hy; exact hy, roundIn_of_wpIn hfn ?_⟩
      -- the round's own activation
      obtain ⟨xl⟩ := xs
      have hput := putPs_ok (σ := σ1) (nt := nt) ps.toList (X k) xl s.T a.tmps hps hxs (fun t v hv => by
        obtain ⟨v', e1, e2⟩ := hr.rel.tmps t v hv
        exact ⟨v', e1, e2.mono q2.ext⟩) hr.rel.size
      have harr : (ps.zip xl.toArray).foldl (fun tmps (p : Tmp × Value) => tmps.setIfInBounds p.1 p.2) a.tmps = (ps.toList.zip xl).foldl (fun (t : Array Value) (p : Tmp × Value) => t.setIfInBounds p.1 p.2) a.tmps := by
        rw [← Array.foldl_toList, Array.toList_zip]
      have hr1 : RD P σ1 nt (putPs s.T ps.toList (X k)) (HH k) [] [] { tmps := (ps.zip xl.toArray).foldl (fun tmps (p : Tmp × Value) => tmps.setIfInBounds p.1 p.2) a.tmps, defers := [] } W := by
        refine ⟨⟨fun t v hv => ?_, ?_, rfl, q1, hr.rel.glob.mono q2.ext⟩, rfl, fun _ _ h => by cases h⟩
        · obtain ⟨v', e1, e2⟩ := hput.1 t v hv
          exact ⟨v', by show ((ps.zip xl.toArray).foldl _ a.tmps)[t]? = some v'; rw [harr]; exact e1, e2⟩
        · show ((ps.zip xl.toArray).foldl _ a.tmps).size = nt
          rw [harr]; exact hput.2
      have go : ∀ (x : XA) (sa s' : SA), evC P cs nt nn F s.fr assign ⟨putPs s.T ps.toList (X k), HH k, s.fr⟩ = some (.normal, sa) → evC P cs nt nn F s.fr body sa = some (x, s') → ∀ R : Ending → World → Prop,
          (∀ σ3 a3 w3, RD P σ3 nt s'.T s'.H [] [] a3 w3 → Frm σ (aget s.H) w σ3 (aget s'.H) w3 → w3.heap[w.heap.size + 1]? = some (.loop (rec .busy none)) → w3.heap[w.heap.size]? = some (.deferred (some [])) → roundPost P (w.heap.size + 1) R x.out a3 w3) →
          assign.wpIn (Fence.wide.inRound (w.heap.size + 1)) m P (Exit.then (fun a₁ w₁ => ∃ w₂, (Instr.beginRound (w.heap.size + 1)).run P w₁ = .ok () w₂ ∧ body.wpIn (Fence.wide.inRound (w.heap.size + 1)) m P (roundPost P (w.heap.size + 1) R) a₁ w₂) (fun _ _ _ => False))
            { tmps := (ps.zip xl.toArray).foldl (fun tmps (p : Tmp × Value) => tmps.setIfInBounds p.1 p.2) a.tmps, defers := [] } W := fun x sa s' ha hb R hR => by
        refine evC_okI hcs hm assign _ _ _ ha (some (w.heap.size + 1)) m [] [] (pinB_nil _) σ1 _ W _ hr1 q3 fun σ2 a1 w1 g1 g2 g3 => ?_
        have G2 := g2.full q3
        have hl1 := (G2.old _ hlW (not_own q1 hl (hlp _ _))).1.trans hl
        have hd1 := (G2.old _ (by omega) (not_own q1 hd hdf)).1.trans hd
        have hb1 := run_beginRound (P := P) hl1 (by rw [hrec])
        have hrb : ({ rec .ready none with state := .busy } : Loop) = rec .busy none := by rw [hrec]
        rw [hrb] at hb1
        refine ⟨_, hb1, ?_⟩
        have hw1 : w.heap.size + 1 < w1.heap.size := (Array.getElem?_eq_some_iff.1 hl1).1
        have A := (q2.trans G2).putObj (l := w.heap.size + 1) (o := .loop (rec .busy none)) (by omega)
        have hh2 := g1.rel.heap.putObj (o' := .loop (rec .busy none)) hl1 (hlp _ _)
        have hl2 : (w1.putObj (w.heap.size + 1) (.loop (rec .busy none))).heap[w.heap.size + 1]? = some (.loop (rec .busy none)) := World.putObj_heap_same hw1
        have hd2 : (w1.putObj (w.heap.size + 1) (.loop (rec .busy none))).heap[w.heap.size]? = some (.deferred (some [])) := (World.putObj_heap_other (by omega)).trans hd1
        refine evC_okI hcs hm body sa x s' hb (some (w.heap.size + 1)) m [] [] (pinB_nil _) σ2 a1 _ _ ⟨⟨g1.rel.tmps, g1.rel.size, g1.rel.defers, hh2, g1.rel.glob⟩, g1.defers, g1.pins⟩ g3 fun σ3 a3 w3 k1 k2 k3 => ?_
        have B := ((A.b s.fr).trans k2).full hf
        exact hR σ3 a3 w3 k1 B ((k2.old _ (Array.getElem?_eq_some_iff.1 hl2).1 (not_own hh2 hl2 (hlp _ _))).1.trans hl2) ((k2.old _ (Array.getElem?_eq_some_iff.1 hd2).1 (not_own hh2 hd2 hdf)).1.trans hd2)
      have next : ∀ {σ3 : Sig} {a3 : Act} {w3 : World} {s' : SA} {H' : HL} {o : Obj}, RD P σ3 nt s'.T s'.H [] [] a3 w3 → Frm σ (aget s.H) w σ3 (aget s'.H) w3 → w3.heap[w.heap.size + 1]? = some (.loop (rec .busy none)) → (∀ n o, aget H' n = some o → aget s'.H n = some o) → ltH s.fr H' = true →
          ∃ σ', HRel σ' (aget H') (w3.putObj (w.heap.size + 1) o) ∧ Frm σ (aget s.H) w σ' (aget H') (w3.putObj (w.heap.size + 1) o) ∧ Fresh σ' s.fr := fun {σ3 a3 w3 s' H' o} k1 B hl3 hs hlt' => by
        have c1 := (k1.rel.less (T' := []) (fun _ _ h => by simp [aget] at h) hs).cut (m := s.fr) rfl hlt' hgl
        have c2 := ((B.less hs).b s.fr).cut hf
        exact ⟨_, c1.heap.putObj hl3 (hlp _ _), (c2.full hf).putObj (by omega), cut_fresh _ _⟩
      by_cases hkn : k < N
      · obtain ⟨sa, s', ha, hb, hs⟩ := hround k hkn
        refine go _ sa s' ha hb _ fun σ3 a3 w3 k1 B hl3 hd3 => ?_
        have he := run_endRound (P := P) none hl3
        have hrb : ({ rec .busy none with state := if (none : Option Code).isNone then .ready else .done, pending := none } : Loop) = rec .ready none := by rw [hrec]; rfl
        rw [hrb] at he
        refine ⟨_, _, he, .inl ⟨rfl, hkn, next k1 B hl3 hs (hlt (k + 1) hkn), World.putObj_heap_same (Array.getElem?_eq_some_iff.1 hl3).1, (World.putObj_heap_other (by omega)).trans hd3⟩⟩
      · have hk2 : k = N := by omega
        subst hk2
        have hff := hkN.resolve_left hkn
        obtain ⟨sa, s', ha, hb, hs⟩ := hlast hff
        refine go _ sa s' ha hb _ fun σ3 a3 w3 k1 B hl3 hd3 => ?_
        have he := run_endRound (P := P) (some (.exit id)) hl3
        have hrb : ({ rec .busy none with state := if (some (Code.exit id)).isNone then .ready else .done, pending := some (.exit id) } : Loop) = rec .done (some (.exit id)) := by rw [hrec]; rfl
        rw [hrb] at he
        refine ⟨_, _, he, .inr ⟨rfl, ?_⟩⟩
        rw [hJx]
        exact ⟨hff, next k1 B hl3 hs hltf, World.putObj_heap_same (Array.getElem?_eq_some_iff.1 hl3).1, (World.putObj_heap_other (by omega)).trans hd3⟩
    · rw [hJ]
      exact ⟨Nat.zero_le _, ⟨σ, (hr.rel.heap.less h0).grown hGr, ((Frm.refl σ (aget s.H) w).less h0).grown hGr, hf⟩, hL1, hK1⟩
    · rintro e W3 ⟨⟨v, rfl⟩, ⟨hfn1, hj⟩ | hj⟩
      · rw [hJ] at hj
        obtain ⟨hk, ⟨σ', q1, q2, q3⟩, hl, hd⟩ := hj
        have hend := run_endLoop (P := P) hl (by rw [hrec]; simp)
        have hp : (rec .ready none).pending = none := by rw [hrec]
        rw [hp] at hend
        refine ⟨none, _, hend, ?_⟩
        subst hfn1
        rw [hfin rfl] at hQ
        refine hQ σ' _ _ w.heap.size ⟨⟨fun t v hv => ?_, hr.rel.size, rfl, q1.putObj hl (hlp _ _), hr.rel.glob.mono q2.ext⟩, ?_, fun _ _ h => by cases h⟩ (q2.putObj (by omega)) q3 ?_ (Nat.le_refl _)
        · obtain ⟨v', e1, e2⟩ := hr.rel.tmps t v hv
          exact ⟨v', e1, e2.mono q2.ext⟩
        · show [_] ++ a.defers = _
          rw [hr.defers]; rfl
        · rw [World.putObj_heap_other (by omega)]; exact hd
      · rw [hJx] at hj
        obtain ⟨hk, ⟨σ', q1, q2, q3⟩, hl, hd⟩ := hj
        have hend := run_endLoop (P := P) hl (by rw [hrec]; simp)
        have hp : (rec .done (some (.exit id))).pending = some (.exit id) := by rw [hrec]
        rw [hp] at hend
        refine ⟨some (.exit id), _, hend, wpIn_exit ?_⟩
        subst hk
        refine hQ σ' _ _ w.heap.size ⟨⟨fun t v hv => ?_, hr.rel.size, rfl, q1.putObj hl (hlp _ _), hr.rel.glob.mono q2.ext⟩, ?_, fun _ _ h => by cases h⟩ (q2.putObj (by omega)) q3 ?_ (Nat.le_refl _)
        · obtain ⟨v', e1, e2⟩ := hr.rel.tmps t v hv
          exact ⟨v', e1, e2.mono q2.ext⟩
        · show [_] ++ a.defers = _
          rw [hr.defers]; rfl
        · rw [World.putObj_heap_other (by omega)]; exact hd
end Go.Eng

/- Engine, part 34: functions in which a range over a function stands. -/
namespace Go.Eng
set_option linter.unusedVariables false
set_option linter.unusedSimpArgs false
open Go Go.RowKit
def wpS (ro : Option Nat) (n : Nat) (P : Program) : List Code → (Exit → Act → World → Prop) → Act → World → Prop
  | [], Q => Q .normal
  | c :: l, Q => c.wpIn (Fw ro) n P (Exit.then (wpS ro n P l Q) Q)
section
variable {P : Program} {ro : Option Nat} {n : Nat}
theorem wpS_mono : ∀ (l : List Code) {Q Q' : Exit → Act → World → Prop} {a : Act} {w : World}, wpS ro n P l Q a w → (∀ e a w, Q e a w → Q' e a w) → wpS ro n P l Q' a w
  | [], _, _, _, _, h, hq => hq _ _ _ h
  | c :: l, Q, Q', a, w, h, hq => wpIn_mono h fun e a w he => by
    cases e with
    | normal => exact wpS_mono l he hq
    | exit id => exact hq _ _ _ he
    | goto t => exact hq _ _ _ he
    | ret => exact hq _ _ _ he
    | panic ch => exact hq _ _ _ he
    | outgrown => exact hq _ _ _ he
theorem wpS_app : ∀ (l m : List Code) {Q : Exit → Act → World → Prop} {a : Act} {w : World}, wpS ro n P (l ++ m) Q a w → wpS ro n P l (Exit.then (wpS ro n P m Q) Q) a w
  | [], m, Q, a, w, h => h
  | c :: l, m, Q, a, w, h => wpIn_mono h fun e a w he => by
    cases e with
    | normal => exact wpS_app l m he
    | exit id => exact he
    | goto t => exact he
    | ret => exact he
    | panic ch => exact he
    | outgrown => exact he
theorem wpS_app' : ∀ (l m : List Code) {Q : Exit → Act → World → Prop} {a : Act} {w : World}, wpS ro n P l (Exit.then (wpS ro n P m Q) Q) a w → wpS ro n P (l ++ m) Q a w
  | [], m, Q, a, w, h => h
  | c :: l, m, Q, a, w, h => wpIn_mono h fun e a w he => by
    cases e with
    | normal => exact wpS_app' l m he
    | exit id => exact he
    | goto t => exact he
    | ret => exact he
    | panic ch => exact he
    | outgrown => exact he
theorem wpS_pieces : ∀ (c : Code) {Q : Exit → Act → World → Prop} {a : Act} {w : World}, wpS ro n P (pieces c) Q a w → c.wpIn (Fw ro) n P Q a w := by
  have one : ∀ (c : Code) {Q : Exit → Act → World → Prop} {a : Act} {w : World}, wpS ro n P [c] Q a w → c.wpIn (Fw ro) n P Q a w := fun c Q a w h => wpIn_mono h fun e a w he => by cases e <;> exact he
  intro c
  induction c with
  | seq a b iha ihb =>
    intro Q ac w h
    refine wpIn_seq (iha (wpS_mono _ (wpS_app _ _ h) fun e a w he => ?_))
    cases e with
    | normal => exact ihb he
    | exit id => exact he
    | goto t => exact he
    | ret => exact he
    | panic ch => exact he
    | outgrown => exact he
  | _ => intro Q ac w h; exact one _ h
end
def pinS (ss : List Tmp) : List Code → Bool
  | [] => true
  | c :: l => pinB ss c && pinS ss l
theorem pinS_nil : ∀ l, pinS [] l = true
  | [] => rfl
  | c :: l => by unfold pinS; rw [pinB_nil, pinS_nil l]; rfl
theorem evS_okI {P : Program} {cs : CS} (hcs : CSOk P cs) (hm : P.follows .mixedOrders = true) {nt nn F bs : Nat} : ∀ (l : List Code) (s : SA) (x : XA) (s' : SA), evS P cs nt nn F bs l s = some (x, s') →
    ∀ (ro : Option Nat) (n : Nat) (D : List Deferred) (pin : List (Tmp × Value)) (_ : pinS (pin.map (·.1)) l = true) (σ : Sig) (a : Act) (w : World) (Q : Exit → Act → World → Prop), RD P σ nt s.T s.H D pin a w → Fresh σ s.fr →
    (∀ σ' a' w', RD P σ' nt s'.T s'.H D pin a' w' → FrmB bs σ (aget s.H) w σ' (aget s'.H) w' → Fresh σ' s'.fr → Q x.out a' w') → wpS ro n P l Q a w
  | [], s, x, s', h, ro, n, D, pin, hpb, σ, a, w, Q, hr, hf, hQ => by
    simp only [evS, Option.some.injEq, Prod.mk.injEq] at h
    obtain ⟨rfl, rfl⟩ := h
    exact hQ σ a w hr (FrmB.refl _ _ _ _) hf
  | c :: l, s, x, s', h, ro, n, D, pin, hpb, σ, a, w, Q, hr, hf, hQ => by
    simp only [pinS, Bool.and_eq_true] at hpb
    simp only [evS] at h
    cases hs : evC P cs nt nn F bs c s with
    | none => rw [hs] at h; cases h
    | some p =>
      obtain ⟨y, s1⟩ := p
      rw [hs] at h
      refine evC_okI hcs hm c s y s1 hs ro n D pin hpb.1 σ a w _ hr hf fun σ1 a1 w1 g1 g2 g3 => ?_
      cases y with
      | normal =>
        simp only at h
        exact evS_okI hcs hm l s1 x s' h ro n D pin hpb.2 σ1 a1 w1 Q g1 g3 fun σ2 a2 w2 q1 q2 q3 => hQ σ2 a2 w2 q1 (g2.trans q2) q3
      | exit id => simp only [Option.some.injEq, Prod.mk.injEq] at h; obtain ⟨rfl, rfl⟩ := h; exact hQ σ1 a1 w1 g1 g2 g3
      | ret => simp only [Option.some.injEq, Prod.mk.injEq] at h; obtain ⟨rfl, rfl⟩ := h; exact hQ σ1 a1 w1 g1 g2 g3
/-- What a function hands back. -/
def finR (P : Program) (fn : Func) (s : SA) : Option (AVal × HL × Nat) := match resA P s.T s.H fn.results.toList with
  | none => none
  | some [v] => some (v, s.H, s.fr)
  | some vs => some (.tup vs, s.H, s.fr)
theorem finR_ok {P : Program} {fn : Func} {s : SA} {v : AVal} {H' : HL} {fr' : Nat} (h : finR P fn s = some (v, H', fr')) {σ : Sig} {nt : Nat} {a : Act} {w : World} (g1 : RRel P σ nt s.T s.H a w) :
    H' = s.H ∧ fr' = s.fr ∧ ∃ u, (results fn a.tmps).run P w = .ok u w ∧ VR σ v u := by
  unfold finR at h
  cases hres : resA P s.T s.H fn.results.toList with
  | none => rw [hres] at h; cases h
  | some vs =>
    rw [hres] at h
    obtain ⟨vs', k1, k2⟩ := resA_ok g1 hres
    have hrun : (fn.results.mapM (m := Sem) fun
        | .tmp t => pure (a.tmps.getD t undef)
        | .cell b t => do loadVar t (← asAddr (a.tmps.getD b undef))).run P w = .ok vs'.toArray w := by
      rw [Array.mapM_eq_mapM_toList]
      simp only [Sem.run_map]
      exact congrArg (fun r => Result.andThen r fun (a : List Value) w' => Result.ok a.toArray w') k1
    have hres2 : (results fn a.tmps).run P w = .ok (if h : vs'.toArray.size = 1 then vs'.toArray[0] else .tuple vs'.toArray) w := by
      unfold results
      simp only [Sem.run_bind]
      exact congrArg (fun r => Result.andThen r fun (vs : Array Value) w'' => (pure (if h : vs.size = 1 then vs[0] else .tuple vs) : Sem Value).run P w'') hrun
    match vs, k2, h with
    | [u], k2, h =>
      simp only [Option.some.injEq, Prod.mk.injEq] at h
      obtain ⟨rfl, rfl, rfl⟩ := h
      obtain ⟨x', e1, e2⟩ := k2.inv1
      have : vs' = [x'] := by simpa using e1
      subst this
      exact ⟨rfl, rfl, x', hres2, e2⟩
    | [], k2, h =>
      simp only [Option.some.injEq, Prod.mk.injEq] at h
      obtain ⟨rfl, rfl, rfl⟩ := h
      have hl : vs'.toArray.size ≠ 1 := by have := k2.1; simp at this ⊢; omega
      rw [dif_neg hl] at hres2
      exact ⟨rfl, rfl, _, hres2, .tup k2.1 k2.2⟩
    | x :: y :: l, k2, h =>
      simp only [Option.some.injEq, Prod.mk.injEq] at h
      obtain ⟨rfl, rfl, rfl⟩ := h
      have hl : vs'.toArray.size ≠ 1 := by have := k2.1; simp at this ⊢; omega
      rw [dif_neg hl] at hres2
      exact ⟨rfl, rfl, _, hres2, .tup k2.1 k2.2⟩
theorem runR_ok {P : Program} {cs : CS} (hcs : CSOk P cs) (hm : P.follows .mixedOrders = true) {nn F : Nat} {f : FuncId} {fn : Func} {c : Code} (hfn : P.funcs[f]? = some fn) (hb : fn.body = some c) {args : List AVal} {H : HL} {fr : Nat} (hn : Nat.ble args.length fn.ntmps = true)
    {l1 l2 : List Code} {rid : Nat} {g : Operand} {ps : Array Tmp} {assign body : Code} (hp : pieces c = l1 ++ .block rid (.rangeFunc g ps assign body) :: l2) {s : SA} (h1 : evS P cs fn.ntmps nn F fr l1 ⟨startT args 0, H, fr⟩ = some (.normal, s))
    {gf : FuncId} {cap : List AVal} {Hc : HL} {X : Nat → List AVal} {N : Nat} {fin : Bool}
    (hg : opd P (aget s.T) g = some (.fn gf cap)) (hent : ∀ args w, (callFunc gf args).run P w = .ok (.enter gf args) w) (hit : ItOk P gf cap Hc X N fin) (hgl : P.globals.size ≤ s.fr)
    (HH : Nat → HL) (h0 : ∀ n o, aget (HH 0) n = some o → aget s.H n = some o) (hlt : ∀ k, k ≤ N → ltH s.fr (HH k) = true) (hHc : ∀ k, k ≤ N → LessRo Hc (HH k))
    (hX : ∀ k, (X k).length = ps.size) (hps : ∀ p ∈ ps.toList, p < fn.ntmps)
    (hround : ∀ k, k < N → ∃ sa s', evC P cs fn.ntmps nn F s.fr assign ⟨putPs s.T ps.toList (X k), HH k, s.fr⟩ = some (.normal, sa) ∧ evC P cs fn.ntmps nn F s.fr body sa = some (.normal, s') ∧ ∀ n o, aget (HH (k + 1)) n = some o → aget s'.H n = some o)
    {Hf : HL} (hfin : fin = true → Hf = HH N) (hltf : ltH s.fr Hf = true)
    (hlast : fin = false → ∃ sa s', evC P cs fn.ntmps nn F s.fr assign ⟨putPs s.T ps.toList (X N), HH N, s.fr⟩ = some (.normal, sa) ∧ evC P cs fn.ntmps nn F s.fr body sa = some (.exit rid, s') ∧ ∀ n o, aget Hf n = some o → aget s'.H n = some o)
    {x : XA} {s2 : SA} (h2 : evS P cs fn.ntmps nn F fr l2 ⟨s.T, Hf, s.fr⟩ = some (x, s2)) (hx : x = .normal ∨ x = .ret) {v : AVal} {H' : HL} {fr' : Nat} (hres : finR P fn s2 = some (v, H', fr'))
    {σ : Sig} {args' : Array Value} {w : World} (ha : LR σ args args') (hH : HRel σ (aget H) w) (hgr : GRel P σ) (hfr : Fresh σ fr) :
    Calls P f args' w fun r w' => ∃ σ' v', r = .returned v' ∧ VR σ' v v' ∧ HRel σ' (aget H') w' ∧ Frm σ (aget H) w σ' (aget H') w' ∧ Fresh σ' fr' := by
  have hn := Nat.le_of_ble_eq_true hn
  have hr0 : RRel P σ fn.ntmps (startT args 0) H { tmps := args' ++ Array.replicate (fn.ntmps - args'.size) undef, defers := [] } w := by
    refine ⟨fun s v hv => ?_, by simp [← ha.1]; omega, rfl, hH, hgr⟩
    obtain ⟨_, h1⟩ := startT_get hv
    obtain ⟨v', g1, g2⟩ := ha.get (by simpa using h1)
    refine ⟨v', ?_, g2⟩
    simp only
    rw [Array.getElem?_append_left (Array.getElem?_eq_some_iff.1 g1).1]
    exact g1
  refine (callsIn_wide (n := 0)).1 (callsIn_of_wp_marks (F := Fence.wide) hfn hb trivial ?_ rfl)
  refine wpS_pieces (ro := none) (n := 0) c ?_
  rw [hp]
  refine wpS_app' _ _ (evS_okI hcs hm l1 _ _ _ h1 none 0 [] [] (pinS_nil _) σ _ w _ (.of hr0) hfr fun σ1 a1 w1 g1 g2 g3 => ?_)
  have G2 := g2.full hfr
  show (Code.block rid (.rangeFunc g ps assign body)).wpIn (Fw none) 0 P _ a1 w1
  refine wpIn_block (rangeFunc_okI hcs hm hg hent hit hgl HH h0 hlt hHc hX hps hround hfin hltf hlast g1 g3 fun σ2 a2 w2 B q1 q2 q3 q4 q5 => ?_)
  have goal : wpS none 0 P l2 (bodyPostM Fence.wide 0 P fn fun r w' => ∃ σ' v', r = .returned v' ∧ VR σ' v v' ∧ HRel σ' (aget H') w' ∧ Frm σ (aget H) w σ' (aget H') w' ∧ Fresh σ' fr') a2 w2 := by
    refine evS_okI hcs hm l2 _ _ _ h2 none 0 _ [] (pinS_nil _) σ2 a2 w2 _ q1 q3 fun σ3 a3 w3 k1 k2 k3 => ?_
    have hB := (k2.old B (Array.getElem?_eq_some_iff.1 q4).1 (not_own q1.rel.heap q4 (fun _ _ _ h => by cases h))).1.trans q4
    have hBw : w.heap.size ≤ B := Nat.le_trans G2.size q5
    have fin : LeavesInM Fence.wide 0 P fn a3.tmps (fun r w' => ∃ σ' v', r = .returned v' ∧ VR σ' v v' ∧ HRel σ' (aget H') w' ∧ Frm σ (aget H) w σ' (aget H') w' ∧ Fresh σ' fr') a3.defers .returning w3 := by
      rw [k1.defers]
      refine ⟨by simp, .inl ⟨B, _, rfl, run_takeDeferred hB, ?_⟩⟩
      have hh := k1.rel.heap.putObj (o' := .deferred none) hB (fun _ _ _ h => by cases h)
      have rr : RRel P σ3 fn.ntmps s2.T s2.H (bare a3) (w3.putObj B (.deferred none)) := ⟨k1.rel.tmps, k1.rel.size, k1.rel.defers, hh, k1.rel.glob⟩
      obtain ⟨rfl, rfl, u, e1, e2⟩ := finR_ok hres rr
      refine ⟨u, e1, σ3, u, rfl, e2, hh, ?_, k3⟩
      exact ((((G2.trans q2).b fr).trans k2).full hfr).putObj hBw
    rcases hx with rfl | rfl
    · exact fin
    · exact fin
  unfold outX
  cases fin with
  | true => exact goal
  | false =>
    simp only [cond_false, Exit.inBlock, if_true]
    exact goal
/-- What is shown of a run in an empty memory, as what is said of the call. -/
theorem callOk_of {P : Program} {f : FuncId} {args : List AVal} {v : AVal} {H' : HL} {fr' : Nat}
    (h : ∀ (σ : Sig) (args' : Array Value) (w : World), LR σ args args' → HRel σ (aget []) w → GRel P σ → Fresh σ P.globals.size → Calls P f args' w fun r w' => ∃ σ' v', r = .returned v' ∧ VR σ' v v' ∧ HRel σ' (aget H') w' ∧ Frm σ (aget []) w σ' (aget H') w' ∧ Fresh σ' fr')
    (ha : allV args = true) (hv : ltV 0 v = true) : CallOk P f args (.pure v) := by
  intro σ args' H w base v0 H0 hl hg hH happ hfree
  simp only [EffA.app, Option.some.injEq, Prod.mk.injEq] at happ
  obtain ⟨rfl, rfl⟩ := happ
  have hl0 : LR (cut P.globals.size σ) args args' := hl.cut0 (allV_mem ha) _
  have hg0 : GRel P (cut P.globals.size σ) := fun g hgl => by
    obtain ⟨sz, hs⟩ := hg g hgl
    exact ⟨sz, cut_of hs hgl⟩
  refine (h _ _ _ hl0 ⟨fun n o hn => by simp [aget] at hn, fun n m o o' p q hn => by simp [aget] at hn⟩ hg0 (cut_fresh _ _)).mono fun r w' hrw => ?_
  obtain ⟨σ', v', rfl, g1, g2, g3, g4⟩ := hrw
  have hold : ∀ b, b < w.heap.size → w'.heap[b]? = w.heap[b]? := fun b hb => (g3.old b hb fun ⟨n, o, p, a1, _⟩ => by simp [aget] at a1).1
  refine ⟨σ, v', rfl, g1.cut0 hv σ, ⟨fun n o hn => ?_, hH.inj⟩, ⟨Sig.le_refl σ, g3.size, g3.os, g3.output, g3.tape, fun b hb hn => ⟨hold b hb, hn⟩⟩, Only.refl σ base⟩
  obtain ⟨p, hp, ho⟩ := hH.obj n o hn
  exact ⟨p, hp, ho.mono (Sig.le_refl σ) (hold _ ho.lt)⟩
end Go.Eng

/- Engine, part 35: a call that hands back a function with what it has captured. -/
namespace Go.Eng
set_option linter.unusedVariables false
set_option linter.unusedSimpArgs false
open Go
def closE (g : FuncId) (css : List (List AVal)) : EffA := .eff fun base _ =>
  some (.fn g ((List.range css.length).map fun j => .ptr (base + j) 0), (List.range css.length).map fun j => (base + j, some (.cells false (css.getD j []))))
theorem callOk_clos {P : Program} {cs : CS} (hcs : CSOk P cs) (hm : P.follows .mixedOrders = true) {nn F : Nat} {f : FuncId} {args : List AVal} {g : FuncId} {ns : List Nat} {css : List (List AVal)} {H1 : HL} {fr1 : Nat}
    (h : run1 P cs nn F f args [] P.globals.size = some (.fn g (ns.map fun n => .ptr n 0), H1, fr1)) (ha : allV args = true) (hnd : nodupB ns = true) (hl : css.length = ns.length) (hk : Nat.ble ns.length 8 = true)
    (hc : ∀ j n, ns[j]? = some n → aget H1 n = some (.cells false (css.getD j [])) ∧ ltL 0 (css.getD j []) = true) : CallOk P f args (closE g css) := by
  intro σ args' H w base v0 H0 hla hg hH happ hfree
  have hnd := nodupB_ok hnd
  have hk := Nat.le_of_ble_eq_true hk
  simp only [closE, EffA.app, Option.some.injEq, Prod.mk.injEq] at happ
  obtain ⟨rfl, rfl⟩ := happ
  have hl0 : LR (cut P.globals.size σ) args args' := hla.cut0 (allV_mem ha) _
  have hg0 : GRel P (cut P.globals.size σ) := fun g hgl => by
    obtain ⟨sz, hs⟩ := hg g hgl
    exact ⟨sz, cut_of hs hgl⟩
  obtain ⟨fn, c, hf, hb, hrun⟩ := run1_some h
  refine (runF_ok hcs hm hf hb hrun hl0 ⟨fun n o hn => by simp [aget] at hn, fun n m o o' p q hn => by simp [aget] at hn⟩ hg0 (cut_fresh _ _)).mono fun r w' hrw => ?_
  obtain ⟨σ1, v', rfl, g1, g2, g3, g4⟩ := hrw
  have hold : ∀ b, b < w.heap.size → w'.heap[b]? = w.heap[b]? ∧ ¬ Own σ1 (aget H1) b := fun b hb => g3.old b hb fun ⟨n, o, p, a1, _⟩ => by simp [aget] at a1
  -- the places of the new names
  obtain ⟨σ2, hσ2⟩ : ∃ σ2 : Sig, σ2 = fun n => if base ≤ n ∧ n < base + ns.length then σ1 (ns.getD (n - base) 0) else σ n := ⟨_, rfl⟩
  have at2 : ∀ j n, ns[j]? = some n → σ2 (base + j) = σ1 n := fun j n hj => by
    have hjl : j < ns.length := (List.getElem?_eq_some_iff.1 hj).1
    rw [hσ2]
    simp only
    rw [if_pos ⟨by omega, by omega⟩, Nat.add_sub_cancel_left, List.getD_eq_getElem?_getD, hj]; rfl
  have off2 : ∀ n, ¬ (base ≤ n ∧ n < base + ns.length) → σ2 n = σ n := fun n hn => by
    rw [hσ2]
    exact if_neg hn
  have le2 : Sig.le σ σ2 := fun n p hp => by
    rw [off2 n fun hn => ?_]
    · exact hp
    · have := hfree (n - base) (by omega)
      rw [show base + (n - base) = n by omega, hp] at this
      cases this
  have obj1 : ∀ j n, ns[j]? = some n → ∃ p, σ1 n = some p ∧ ORel σ1 w' p (.cells false (css.getD j [])) ∧ w.heap.size ≤ p.blk := fun j n hj => by
    obtain ⟨p, hp, ho⟩ := g2.obj n _ (hc j n hj).1
    exact ⟨p, hp, ho, Nat.le_of_not_lt fun hlt => (hold p.blk hlt).2 ⟨n, _, p, (hc j n hj).1, rfl, hp, rfl⟩⟩
  have us : ∀ m x, (m, x) ∈ ((List.range css.length).map fun j => (base + j, some (AObj.cells false (css.getD j [])))) → ∃ j, j < css.length ∧ m = base + j ∧ x = some (.cells false (css.getD j [])) := fun m x hx => by
    obtain ⟨j, hj, e⟩ := List.mem_map.1 hx
    cases e
    exact ⟨j, List.mem_range.1 hj, rfl, rfl⟩
  have getH : ∀ m o, aget (appU H ((List.range css.length).map fun j => (base + j, some (AObj.cells false (css.getD j []))))) m = some o →
      (∃ j n, ns[j]? = some n ∧ m = base + j ∧ o = .cells false (css.getD j [])) ∨ (¬ (base ≤ m ∧ m < base + ns.length) ∧ aget H m = some o) := fun m o hm => by
    rcases appU_get (us := (List.range css.length).map fun j => (base + j, some (AObj.cells false (css.getD j [])))) (H := H) (fun m x hx => by obtain ⟨j, _, _, rfl⟩ := us m x hx; rfl) m with ⟨o', a1, a2⟩ | ⟨a1, a2⟩
    · rw [a2] at hm
      cases hm
      obtain ⟨j, hj, rfl, e⟩ := us m _ a1
      cases e
      exact .inl ⟨j, ns[j]'(by omega), List.getElem?_eq_getElem (by omega), rfl, rfl⟩
    · rw [a2] at hm
      refine .inr ⟨fun hb => ?_, hm⟩
      exact a1 (some (.cells false (css.getD (m - base) []))) (List.mem_map.2 ⟨m - base, List.mem_range.2 (by omega), by rw [show base + (m - base) = m by omega]⟩)
  refine ⟨σ2, v', rfl, ?_, ⟨fun m o hm => ?_, fun m m' o o' p q hm hm' hp hq hpq => ?_⟩, ⟨le2, g3.size, g3.os, g3.output, g3.tape, fun b hb hn => ⟨(hold b hb).1, ?_⟩⟩, fun n hn => off2 n (by omega)⟩
  · cases g1 with
    | fn hs hcap =>
      refine .fn (by rw [← hs]; simp [hl]) fun i u u' hu hu' => ?_
      have hi : i < css.length := by
        have := (List.getElem?_eq_some_iff.1 hu).1
        simpa using this
      have e1 : u = .ptr (base + i) 0 := by
        rw [List.getElem?_map, List.getElem?_range hi] at hu
        simpa using hu.symm
      subst e1
      have hn : ns[i]? = some (ns[i]'(by omega)) := List.getElem?_eq_getElem (by omega)
      have hv := hcap i (.ptr (ns[i]'(by omega)) 0) u' (by rw [List.getElem?_map, hn]; rfl) hu'
      cases hv with
      | ptr hp => exact .ptr (by rw [at2 i _ hn]; exact hp)
  · rcases getH m o hm with ⟨j, n, hj, rfl, rfl⟩ | ⟨hb, ho⟩
    · obtain ⟨p, hp, ho, _⟩ := obj1 j n hj
      exact ⟨p, by rw [at2 j n hj]; exact hp, ho.plain (hc j n hj).2⟩
    · obtain ⟨p, hp, hor⟩ := hH.obj m o ho
      exact ⟨p, le2 m p hp, hor.mono le2 (hold _ hor.lt).1⟩
  · rcases getH m o hm with ⟨j, n, hj, rfl, rfl⟩ | ⟨hb, ho⟩ <;> rcases getH m' o' hm' with ⟨j', n', hj', rfl, rfl⟩ | ⟨hb', ho'⟩
    · rw [at2 j n hj] at hp
      rw [at2 j' n' hj'] at hq
      rcases g2.inj n n' _ _ p q (hc j n hj).1 (hc j' n' hj').1 hp hq hpq with e | ⟨e, _⟩
      · subst e
        have : j = j' := (List.getElem?_inj (List.getElem?_eq_some_iff.1 hj).1 hnd).1 (hj.trans hj'.symm)
        exact .inl (by rw [this])
      · cases e
    · exfalso
      obtain ⟨p1, hp1, _, hge⟩ := obj1 j n hj
      rw [at2 j n hj, hp1] at hp
      cases hp
      obtain ⟨q1, hq1, hor⟩ := hH.obj m' o' ho'
      rw [off2 m' hb', hq1] at hq
      cases hq
      have := hor.lt
      omega
    · exfalso
      obtain ⟨p1, hp1, _, hge⟩ := obj1 j' n' hj'
      rw [at2 j' n' hj', hp1] at hq
      cases hq
      obtain ⟨q1, hq1, hor⟩ := hH.obj m o ho
      rw [off2 m hb, hq1] at hp
      cases hp
      have := hor.lt
      omega
    · rw [off2 m hb] at hp
      rw [off2 m' hb'] at hq
      exact hH.inj m m' o o' p q ho ho' hp hq hpq
  · rintro ⟨m, o, p, h1, h2, h3, h4⟩
    rcases getH m o h1 with ⟨j, n, hj, rfl, rfl⟩ | ⟨hb2, ho⟩
    · obtain ⟨p1, hp1, _, hge⟩ := obj1 j n hj
      rw [at2 j n hj, hp1] at h3
      cases h3
      omega
    · rw [off2 m hb2] at h3
      exact hn ⟨m, o, p, ho, h2, h3, h4⟩
end Go.Eng

/- Keys and blocks: summaries over what they reckon. -/
namespace Go.Proofs.Ytjdhndicgifnbaa.Cha
set_option linter.unusedVariables false
set_option linter.unusedSimpArgs false
open Go Go.Eng Go.Cha
set_option maxRecDepth 100000
set_option maxHeartbeats 1000000
set_option linter.unusedSimpArgs false
set_option linter.unusedVariables false
structure Fb where
  may : List UInt8 → List UInt8 → Bool
  bb : List UInt8 → List UInt8 → UInt32 → Nat → UInt8
def realFb : Fb := ⟨may, byteAt⟩
def blkL (φ : Fb) (k n : List UInt8) (c : UInt32) : List UInt8 := (List.range 64).map (φ.bb k n c)
theorem blkL_real (k n : List UInt8) (c : UInt32) : blkL realFb k n c = block k n c := (block_list k n c).symm
theorem m8a (k n : List UInt8) : ansO (run1O Try.prog noPS noCS [7, 11] [false] [] (mask 69) 100 69 [.str k, .str n] [] Try.prog.globals.size) = some (.bool false, [!((k.length : Int) == 32)]) := by kernel_rfl
theorem m8b (k n : List UInt8) : ansO (run1O Try.prog noPS noCS [7, 11] [true, false] [] (mask 69) 100 69 [.str k, .str n] [] Try.prog.globals.size) = some (.bool false, [!((n.length : Int) == 12), (k.length : Int) == 32]) := by kernel_rfl
theorem m8c (k n : List UInt8) : ansO (run1O Try.prog noPS noCS [7, 11] [true, true] [] (mask 69) 100 69 [.str k, .str n] [] Try.prog.globals.size) = some (.bool true, [(n.length : Int) == 12, (k.length : Int) == 32]) := by kernel_rfl
theorem m12a (k n : List UInt8) : ansO (run1O Try.prog noPS noCS [7, 11] [false] [] (mask 74) 100 74 [.str k, .str n] [] Try.prog.globals.size) = some (.bool false, [!((k.length : Int) == 32)]) := by kernel_rfl
theorem m12b (k n : List UInt8) : ansO (run1O Try.prog noPS noCS [7, 11] [true, false] [] (mask 74) 100 74 [.str k, .str n] [] Try.prog.globals.size) = some (.bool false, [!((n.length : Int) == 12), (k.length : Int) == 32]) := by kernel_rfl
theorem m12c (k n : List UInt8) : ansO (run1O Try.prog noPS noCS [7, 11] [true, true] [] (mask 74) 100 74 [.str k, .str n] [] Try.prog.globals.size) = some (.bool true, [(n.length : Int) == 12, (k.length : Int) == 32]) := by kernel_rfl
theorem intEq (n m : Nat) : ((n : Int) == (m : Int)) = (n == m) := by rw [Bool.eq_iff_iff]; simp only [beq_iff_eq]; omega
theorem may_run {f : FuncId} {nn : Nat} (ha : ∀ k n, ansO (run1O Try.prog noPS noCS [7, 11] [false] [] nn 100 f [.str k, .str n] [] Try.prog.globals.size) = some (.bool false, [!((k.length : Int) == 32)]))
    (hb : ∀ k n, ansO (run1O Try.prog noPS noCS [7, 11] [true, false] [] nn 100 f [.str k, .str n] [] Try.prog.globals.size) = some (.bool false, [!((n.length : Int) == 12), (k.length : Int) == 32]))
    (hc : ∀ k n, ansO (run1O Try.prog noPS noCS [7, 11] [true, true] [] nn 100 f [.str k, .str n] [] Try.prog.globals.size) = some (.bool true, [(n.length : Int) == 12, (k.length : Int) == 32])) (k n : List UInt8) :
    (run1 Try.prog noCS nn 100 f [.str k, .str n] [] Try.prog.globals.size).map (·.1) = some (.bool (may k n)) := by
  unfold may
  have e1 : ((k.length : Int) == 32) = (k.length == 32) := intEq _ 32
  have e2 : ((n.length : Int) == 12) = (n.length == 12) := intEq _ 12
  cases h1 : (k.length == 32)
  · exact ansO_run (noPS_ok _) (ha k n) (by rw [e1, h1]; rfl)
  cases h2 : (n.length == 12)
  · exact ansO_run (noPS_ok _) (hb k n) (by rw [e1, e2, h1, h2]; rfl)
  · exact ansO_run (noPS_ok _) (hc k n) (by rw [e1, e2, h1, h2]; rfl)
def sOf (v : AVal) : Option (List UInt8) := match v with
  | .str s => some s
  | _ => none
def k8 (φ : Fb) : List AVal → Option EffA
  | [.str a, .str b] => some (.pure (.bool (φ.may a b)))
  | _ => none
theorem k8_ok : CSOk Try.prog (csOne 69 (k8 realFb)) := csOne_ok fun args e he => by
  unfold k8 at he
  split at he
  · rename_i a b
    cases he
    exact callOk_val (noCS_ok _) hmix (may_run m8a m8b m8c a b) rfl rfl
  · cases he
theorem k12_ok : CSOk Try.prog (csOne 74 (k8 realFb)) := csOne_ok fun args e he => by
  unfold k8 at he
  split at he
  · rename_i a b
    cases he
    exact callOk_val (noCS_ok _) hmix (may_run m12a m12b m12c a b) rfl rfl
  · cases he
def k9 (φ : Fb) : List AVal → Option (EffA × Bool)
  | [.str a, .str b, .u32 c] => some (.pure (.str (blkL φ a b c)), φ.may a b)
  | _ => none
theorem k9_ok : CSOk Try.prog (csP (psOne 79 (k9 realFb))) := csP_one fun args v he => by
  unfold k9 at he
  split at he
  · rename_i a b c
    simp only [Option.some.injEq, Prod.mk.injEq] at he
    obtain ⟨rfl, h⟩ := he
    obtain ⟨h1, h2⟩ := may_true.1 (show may a b = true from h)
    rw [blkL_real]
    exact callOk_val cs1_ok hmix (blk9 h1 h2 c) rfl rfl
  · cases he
def k13 (φ : Fb) : List AVal → Option (EffA × Bool)
  | [.str a, .str b, .u32 c] => some (.pure (.agg ((List.range 64).map fun i => .u8 (φ.bb a b c i))), φ.may a b)
  | _ => none
theorem bytesV_blk (a b : List UInt8) (c : UInt32) : bytesV (block a b c) = .agg ((List.range 64).map fun i => .u8 (realFb.bb a b c i)) := by
  rw [← blkL_real]
  unfold bytesV blkL
  rw [List.map_map]
  rfl
theorem k13_ok : CSOk Try.prog (csP (psOne 83 (k13 realFb))) := csP_one fun args v he => by
  unfold k13 at he
  split at he
  · rename_i a b c
    simp only [Option.some.injEq, Prod.mk.injEq] at he
    obtain ⟨rfl, h⟩ := he
    obtain ⟨h1, h2⟩ := may_true.1 (show may a b = true from h)
    have := blk13 h1 h2 c
    rw [bytesV_blk] at this
    exact callOk_val cs1_ok hmix this rfl (ltL_u8 0 ((List.range 64).map fun i => realFb.bb a b c i))
  · cases he
def psb (φ : Fb) : PS := psAlt (psOne 79 (k9 φ)) (psOne 83 (k13 φ))
theorem psb_ok : CSOk Try.prog (csP (psb realFb)) := csP_alt k9_ok k13_ok
def chb (φ : Fb) : CS := csAlt (csOne 69 (k8 φ)) (csOne 74 (k8 φ))
theorem chb_ok : CSOk Try.prog (chb realFb) := csAlt_ok k8_ok k12_ok
def nb (φ : Fb) : CS := csAlt (csP (psb φ)) (chb φ)
theorem nb_ok : CSOk Try.prog (nb realFb) := csAlt_ok psb_ok chb_ok
theorem nb_ps (φ : Fb) : PSOk (psb φ) (nb φ) := csP_ok
/-! ### Block -/
theorem w7a (φ : Fb) (k n : List UInt8) (c : UInt32) : ansO (run1O Try.prog (psb φ) (nb φ) [12, 16] [true] [] (mask 76) 100 76 [.str k, .str n, .u32 c] [] Try.prog.globals.size) = some (.tup [.str [], .int .i64 2], [!(φ.may k n)]) := by kernel_rfl
theorem w7b (φ : Fb) (k n : List UInt8) (c : UInt32) : ansO (run1O Try.prog (psb φ) (nb φ) [12, 16] [false] [] (mask 76) 100 76 [.str k, .str n, .u32 c] [] Try.prog.globals.size) = some (.tup [.str (blkL φ k n c), .int .i64 0], [φ.may k n, !(!(φ.may k n))]) := by kernel_rfl
theorem run7 (k n : List UInt8) (c : UInt32) : (run1 Try.prog (nb realFb) (mask 76) 100 76 [.str k, .str n, .u32 c] [] Try.prog.globals.size).map (·.1) = some (cond (may k n) (.tup [.str (blkL realFb k n c), .int .i64 0]) (.tup [.str [], .int .i64 2])) := by
  cases h : may k n
  · exact ansO_run (nb_ps _) (w7a realFb k n c) (by show allT [!(may k n)] = true; rw [h]; rfl)
  · exact ansO_run (nb_ps _) (w7b realFb k n c) (by show allT [may k n, !(!(may k n))] = true; rw [h]; rfl)
def k7 (φ : Fb) : List AVal → Option EffA
  | [.str a, .str b, .u32 c] => some (.pure (.tup [.str (cond (φ.may a b) (blkL φ a b c) []), .int .i64 (cond (φ.may a b) 0 2)]))
  | _ => none
theorem k7_ok : CSOk Try.prog (csOne 76 (k7 realFb)) := csOne_ok fun args e he => by
  unfold k7 at he
  split at he
  · rename_i a b c
    cases he
    have h := run7 a b c
    have e : realFb.may a b = may a b := rfl
    rw [e]
    cases hm : may a b <;> rw [hm] at h
    · exact callOk_val nb_ok hmix h rfl rfl
    · exact callOk_val nb_ok hmix h rfl rfl
  · cases he
/-! ### the stream: a function with what it has captured -/
theorem run16 (k n : List UInt8) (c : UInt32) : run1 Try.prog noCS (mask 75) 100 75 [.str k, .str n, .u32 c] [] Try.prog.globals.size = some (.fn 82 ([0, 8, 16].map fun n => .ptr n 0), [(0, .cells false [.str k]), (8, .cells false [.str n]), (16, .cells false [.u32 c])], 48) := by kernel_rfl
theorem callOk_16 (k n : List UInt8) (c : UInt32) : CallOk Try.prog 75 [.str k, .str n, .u32 c] (closE 82 [[.str k], [.str n], [.u32 c]]) := by
  refine callOk_clos (noCS_ok _) hmix (run16 k n c) rfl rfl rfl rfl fun j m hj => ?_
  match j, hj with
  | 0, hj => cases hj; exact ⟨rfl, rfl⟩
  | 1, hj => cases hj; exact ⟨rfl, rfl⟩
  | 2, hj => cases hj; exact ⟨rfl, rfl⟩
def k16 : List AVal → Option EffA
  | [.str a, .str b, .u32 c] => some (closE 82 [[.str a], [.str b], [.u32 c]])
  | _ => none
theorem k16_ok : CSOk Try.prog (csOne 75 k16) := csOne_ok fun args e he => by
  unfold k16 at he
  split at he
  · rename_i a b c
    cases he
    exact callOk_16 a b c
  · cases he
end Go.Proofs.Ytjdhndicgifnbaa.Cha

/- Engine, part 36: functions that are ranged over: what they do between two calls of yield, and such a call. -/
namespace Go.Eng
set_option linter.unusedVariables false
set_option linter.unusedSimpArgs false
open Go Go.RowKit
def opsThen (ro : Option Nat) (n : Nat) (P : Program) (ops : Array Oper) (Q : Exit → Act → World → Prop) : List Nat → (Act → World → Prop) → Act → World → Prop
  | [], K => K
  | i :: l, K => wpOpIn (Fw ro) n P ops Q i (opsThen ro n P ops Q l K)
section
variable {P : Program} {cs : CS} {nt : Nat} {ro : Option Nat} {n : Nat} {D : List Deferred} {pin : List (Tmp × Value)}
theorem opsThen_app {ops : Array Oper} {Q : Exit → Act → World → Prop} {K : Act → World → Prop} (m : List Nat) : ∀ l, opsThen ro n P ops Q (l ++ m) K = opsThen ro n P ops Q l (opsThen ro n P ops Q m K)
  | [] => rfl
  | i :: l => by
    show wpOpIn (Fw ro) n P ops Q i (opsThen ro n P ops Q (l ++ m) K) = wpOpIn (Fw ro) n P ops Q i (opsThen ro n P ops Q l (opsThen ro n P ops Q m K))
    rw [opsThen_app m l]
theorem opsThen_all {ops : Array Oper} {Q : Exit → Act → World → Prop} : ∀ l, wpOpsIn (Fw ro) n P ops Q l = opsThen ro n P ops Q l (Q .normal)
  | [] => by funext a w; rfl
  | i :: l => by
    funext a w
    rw [wpOpsIn_cons, opsThen_all l]
    rfl
theorem runA_okT (hcs : CSOk P cs) {ops : Array Oper} {Q : Exit → Act → World → Prop} {K : Act → World → Prop} : ∀ (l : List Oper) (k base : Nat) (σ : Sig) (T T' : TL) (H H' : HL) (a : Act) (w : World), (∀ j, j < l.length → l[j]? = ops[k + j]?) → pinL (pin.map (·.1)) l = true →
    runA P cs nt ops l base T H = some (T', H') → RD P σ nt T H D pin a w → Fresh σ base →
    (∀ σ' a' w', RD P σ' nt T' H' D pin a' w' → Frm σ (aget H) w σ' (aget H') w' → Fresh σ' (base + 8 * l.length) → K a' w') → opsThen ro n P ops Q (List.range' k l.length) K a w := by
  intro l
  induction l with
  | nil =>
    intro k base σ T T' H H' a w _ _ h hr hf hQ
    simp only [runA, Option.some.injEq, Prod.mk.injEq] at h
    obtain ⟨rfl, rfl⟩ := h
    exact hQ σ a w hr (Frm.refl _ _ _) (by simpa using hf)
  | cons o l ih =>
    intro k base σ T T' H H' a w hl hpl h hr hf hQ
    simp only [pinL, Bool.and_eq_true] at hpl
    simp only [runA] at h
    split at h
    · cases h
    · rename_i T1 H1 h1
      have hi : ops[k]? = some o := by simpa using (hl 0 (by simp)).symm
      simp only [List.length_cons, List.range'_succ]
      show wpOpIn (Fw ro) n P ops Q k (opsThen ro n P ops Q (List.range' (k + 1) l.length) K) a w
      refine stepA_okI hcs hi h1 hr hpl.1 hf.free fun σ' a' w' g1 g2 g3 => ?_
      refine ih (k + 1) (base + 8) σ' T1 T' H1 H' a' w' (fun j hj => by have := hl (j + 1) (by simp; omega); simpa [Nat.add_assoc, Nat.add_comm 1 j] using this) hpl.2 h g1 (hf.only g3) fun σ'' a'' w'' q1 q2 q3 => ?_
      exact hQ σ'' a'' w'' q1 (g2.trans q2) (by simp only [List.length_cons]; rw [show base + 8 * (l.length + 1) = base + 8 + 8 * l.length by omega]; exact q3)
theorem stepMoveI {ops : Array Oper} {Q : Exit → Act → World → Prop} {i : Nat} {K : Act → World → Prop} {a : Act} {w : World} {o : Oper} {s d : Tmp} {v : Value} (hi : ops[i]? = some o) (ho : o.op = .move (.tmp s)) (hgd : o.guard = none) (hd : o.dst = some d) (hv : a.tmps[s]? = some v) (hK : K (a.put (some d) v) w) :
    wpOpIn (Fw ro) n P ops Q i K a w := by
  unfold wpOpIn
  simp only [hi]
  rw [if_pos (by unfold Region.wanted; rw [hgd])]
  refine ⟨fun _ _ => trivial, ?_⟩
  rw [Oper.semAt_eq _ _ _ (fun c h => by rw [ho] at h; cases h)]
  have he : a.eval (.tmp s) = v := by
    show a.tmps.getD s undef = v
    rw [Array.getD_eq_getD_getElem?, hv]; rfl
  simp only [execOp, ho, he, Sem.run_pure]
  unfold Oper.uponIn
  rw [hd]
  exact hK
theorem stepYieldI {ops : Array Oper} {Q : Exit → Act → World → Prop} {i : Nat} {K : Act → World → Prop} {a : Act} {w : World} {o : Oper} {c : Call} {s d : Tmp} {l : Nat} {xs : Array Value} {R : Ending → World → Prop} (hi : ops[i]? = some o) (ho : o.op = .call c) (hgd : o.guard = none) (hd : o.dst = some d)
    (hc : c.callee = .value (.tmp s)) (hs : a.tmps[s]? = some (.func (.yield l) #[] #[])) (hx : c.args.map a.eval = xs) (hy : ∀ m, YieldAt Fence.wide m P l xs w R) (hR : ∀ e w', R e w' → ∃ v, e = .returned v ∧ K (a.put (some d) v) w') :
    wpOpIn (Fw none) n P ops Q i K a w := by
  unfold wpOpIn
  simp only [hi]
  rw [if_pos (by unfold Region.wanted; rw [hgd])]
  refine ⟨fun _ _ => trivial, ?_⟩
  rw [Oper.semAt_eq _ _ _ (fun c h => by rw [ho] at h; cases h)]
  have he : a.eval (.tmp s) = .func (.yield l) #[] #[] := by
    show a.tmps.getD s undef = _
    rw [Array.getD_eq_getD_getElem?, hs]; rfl
  obtain ⟨fn, tmps, assign, body, h1, h2⟩ := hy (n - 1)
  have hrun : (execOp a.eval o).run P w = .ok (.round l fn tmps assign body) w := by
    simp only [execOp, ho, resolve, hc, he, Deferred.ofValue, pure_bind, invoke, hx]
    simpa using h1
  rw [hrun]
  unfold Oper.uponIn
  refine ⟨(fun h => by cases h), ?_⟩
  refine RoundIn.mono (F := Fw none) h2 fun e w' hr => ?_
  obtain ⟨v, rfl, hk⟩ := hR e w' hr
  rw [hd]
  exact hk
end
/-! ### between two calls -/
/-- The state of such a function: what it has captured lies as it lay. -/
def IT (P : Program) (nt fr : Nat) (Hc : HL) (cap : List AVal) (lb : Array Value) (pin : List (Tmp × Value)) (T : TL) (a : Act) (w : World) : Prop := ∃ σ, RD P σ nt T Hc [] pin a w ∧ Fresh σ fr ∧ LR σ cap lb
theorem grown_of {σ σ' : Sig} {Hc : HL} {H' : Heap} {A B : World} (hro : ∀ n o, aget Hc n = some o → o.ro = true) (h : Frm σ (aget Hc) A σ' H' B) : Grown A B :=
  ⟨h.size, fun b hb => (h.old b hb fun ⟨n, o, p, h1, h2, _⟩ => by rw [hro n o h1] at h2; cases h2).1, h.os, h.output, h.tape⟩
theorem itSeg {P : Program} {cs : CS} (hcs : CSOk P cs) (hm : P.follows .mixedOrders = true) {nt nn F fr : Nat} {Hc : HL} {cap : List AVal} {lb : Array Value} {pin : List (Tmp × Value)} {J : World → Prop} (hJ : ∀ A B, J A → Grown A B → J B) (hro : ∀ n o, aget Hc n = some o → o.ro = true)
    (hHl : ltH fr Hc = true) (hcl : ltM fr cap = true) (hgl : P.globals.size ≤ fr) {l : List Code} {T : TL} {x : XA} {s' : SA} (he : evS P cs nt nn F fr l ⟨T, Hc, fr⟩ = some (x, s')) (Tq : TL) (hT : ∀ s v, aget Tq s = some v → aget s'.T s = some v) (hTl : ltT fr Tq = true) (hH : ∀ n o, aget Hc n = some o → aget s'.H n = some o)
    (hpin : pinS (pin.map (·.1)) l = true) {n : Nat} {a : Act} {w : World} {Q : Exit → Act → World → Prop} (h : IT P nt fr Hc cap lb pin T a w) (hj : J w) (hQ : ∀ a' w', IT P nt fr Hc cap lb pin Tq a' w' → J w' → Q x.out a' w') : wpS none n P l Q a w := by
  obtain ⟨σ, hr, hf, hl⟩ := h
  refine evS_okI hcs hm l _ _ _ he none n [] pin hpin σ a w Q hr hf fun σ' a' w' g1 g2 g3 => ?_
  have G := g2.full hf
  refine hQ a' w' ⟨Go.Eng.cut fr σ', ⟨?_, g1.defers, g1.pins⟩, cut_fresh _ _, ltM_ok hcl (hl.mono G.ext)⟩ (hJ _ _ hj (grown_of hro G))
  exact (g1.rel.less hT hH).cut hTl hHl hgl
/-- What is kept of a segment's end. -/
def endS (Ts : TL) (x : Option (XA × SA × OS)) : Option (XA × TL × HL × List Bool) := match x with
  | some (x, s, q) => some (x, reshape Ts s.T, s.H, q.ob)
  | none => none
theorem itSegO {P : Program} {ps : PS} {cs : CS} (hps : PSOk ps cs) (hcs : CSOk P cs) (hm : P.follows .mixedOrders = true) {nt nn F fr : Nat} {Hc : HL} {cap : List AVal} {lb : Array Value} {pin : List (Tmp × Value)} {J : World → Prop} (hJ : ∀ A B, J A → Grown A B → J B) (hro : ∀ n o, aget Hc n = some o → o.ro = true)
    (hHl : ltH fr Hc = true) (hcl : ltM fr cap = true) (hgl : P.globals.size ≤ fr) {sy : List Nat} {os : List Bool} {vs : List AVal} {l : List Code} {T Ts Tq : TL} {x : XA} {ob : List Bool} (he : endS Ts (evSO P ps cs sy nt nn F fr l ⟨T, Hc, fr⟩ ⟨os, vs, []⟩) = some (x, Tq, Hc, ob)) (ha : allT ob = true) (hTl : ltT fr Tq = true)
    (hpin : pinS (pin.map (·.1)) l = true) {n : Nat} {a : Act} {w : World} {Q : Exit → Act → World → Prop} (h : IT P nt fr Hc cap lb pin T a w) (hj : J w) (hQ : ∀ a' w', IT P nt fr Hc cap lb pin Tq a' w' → J w' → Q x.out a' w') : wpS none n P l Q a w := by
  unfold endS at he
  split at he
  · rename_i y s q hs
    simp only [Option.some.injEq, Prod.mk.injEq] at he
    obtain ⟨rfl, rfl, h3, rfl⟩ := he
    obtain ⟨h1, _⟩ := evSO_ok hps l _ _ _ _ _ hs ha
    refine itSeg hcs hm hJ hro hHl hcl hgl h1 (reshape Ts s.T) (fun _ _ => reshape_get) hTl (fun n o hn => by rw [h3]; exact hn) hpin h hj hQ
  · cases he
/-! ### a call of yield -/
theorem itYield {P : Program} {cs : CS} (hcs : CSOk P cs) {nt fr : Nat} {Hc : HL} {cap : List AVal} {lb : Array Value} {pin : List (Tmp × Value)} {J J' Jx : World → Prop} (hJ : ∀ A B, J A → Grown A B → J B) (hJ' : ∀ A B, J' A → Grown A B → J' B) (hJx : ∀ A B, Jx A → Grown A B → Jx B) (hro : ∀ n o, aget Hc n = some o → o.ro = true)
    (hHl : ltH fr Hc = true) (hcl : ltM fr cap = true) (hgl : P.globals.size ≤ fr) {l : Nat} (hp0 : (0, Value.func (.yield l) #[] #[]) ∈ pin)
    {ops : Array Oper} {o0 oc : Oper} {mid post : List Oper} (hops : ops.toList = o0 :: (mid ++ oc :: post)) {m d : Tmp} (ho0 : o0.op = .move (.tmp 0)) (hg0 : o0.guard = none) (hd0 : o0.dst = some m) {c : Call} (hoc : oc.op = .call c) (hgc : oc.guard = none) (hdc : oc.dst = some d) (hcc : c.callee = .value (.tmp m))
    (hpo0 : pinO (pin.map (·.1)) o0 = true) (hpoc : pinO (pin.map (·.1)) oc = true) (hpm : pinL (m :: pin.map (·.1)) mid = true) (hpp : pinL (pin.map (·.1)) post = true) (hmn : m < nt) (hdn : d < nt)
    {T T1 : TL} (hTm : aget T m = none) {H1 : HL} (hmid : runA P cs nt ops mid (fr + 8) T Hc = some (T1, H1)) {vs : List AVal} (hargs : evL (opd P (aget T1)) c.args.toList = some vs)
    (Tc : TL) (hTcl : ltT fr Tc = true) (hcarry : ∀ σ1, LR σ1 cap lb → ∀ s v, aget Tc s = some v → s ≠ m ∧ s ≠ d ∧ ((aget T1 s = some v ∧ ltV 0 v = true) ∨ ∃ u, (s, u) ∈ pin ∧ VR σ1 v u))
    (T2 : Bool → TL) (hpost : ∀ b Hx, runA P cs nt ops post fr ((d, .bool b) :: Tc) Hx = some (T2 b, Hx)) (hT2 : ∀ b, ltT fr (T2 b) = true)
    {n : Nat} {a : Act} {w : World} {Q : Exit → Act → World → Prop} {id : Nat} (h : IT P nt fr Hc cap lb pin T a w) (hj : J w)
    (hY : ∀ W, J W → ∃ σ1, GRel P σ1 ∧ HRel σ1 (aget Hc) W ∧ LR σ1 cap lb ∧ ∀ xs, LR σ1 vs xs → ∀ q, YieldAt Fence.wide q P l xs W fun e W' => (e = .returned (.bool true) ∧ J' W') ∨ (e = .returned (.bool false) ∧ Jx W'))
    (hvs : allV vs = true ∨ ∀ σ σ1 w xs, HRel σ (aget H1) w → HRel σ1 (aget Hc) w → LR σ cap lb → LR σ1 cap lb → LR σ vs xs → LR σ1 vs xs)
    (hNext : ∀ W, J' W → ∃ σ1, GRel P σ1 ∧ HRel σ1 (aget Hc) W ∧ LR σ1 cap lb)
    (hQt : ∀ a' w', IT P nt fr Hc cap lb pin (T2 true) a' w' → J' w' → Q .normal a' w')
    (hQf : ∀ a' w', IT P nt fr [] [] #[] pin (T2 false) a' w' → Jx w' → Q .normal a' w') : (Code.region id ops false).wpIn (Fw none) n P Q a w := by
  obtain ⟨σ, hr, hf, hl⟩ := h
  refine wpIn_region ?_
  have hsz : ops.size = 1 + (mid.length + (1 + post.length)) := by
    rw [← Array.length_toList, hops]; simp; omega
  have hlist : List.range ops.size = 0 :: (List.range' 1 mid.length ++ ((1 + mid.length) :: List.range' (1 + mid.length + 1) post.length)) := by
    rw [List.range_eq_range', hsz, show 1 + (mid.length + (1 + post.length)) = (mid.length + (post.length + 1)) + 1 by omega, List.range'_succ, ← List.range'_append_1, List.range'_succ]
  have at0 : ops[0]? = some o0 := by rw [← Array.getElem?_toList, hops]; rfl
  have atm : ∀ j, j < mid.length → mid[j]? = ops[1 + j]? := fun j hj => by
    rw [← Array.getElem?_toList, hops, show 1 + j = j + 1 by omega, List.getElem?_cons_succ, List.getElem?_append_left hj]
  have atc : ops[1 + mid.length]? = some oc := by
    rw [← Array.getElem?_toList, hops, show 1 + mid.length = mid.length + 1 by omega, List.getElem?_cons_succ, List.getElem?_append_right (Nat.le_refl _), Nat.sub_self]; rfl
  have atp : ∀ j, j < post.length → post[j]? = ops[1 + mid.length + 1 + j]? := fun j hj => by
    rw [← Array.getElem?_toList, hops, show 1 + mid.length + 1 + j = (mid.length + (j + 1)) + 1 by omega, List.getElem?_cons_succ, List.getElem?_append_right (by omega), show mid.length + (j + 1) - mid.length = j + 1 by omega]; rfl
  rw [opsThen_all, hlist]
  show wpOpIn (Fw none) n P ops Q 0 (opsThen none n P ops Q (List.range' 1 mid.length ++ ((1 + mid.length) :: List.range' (1 + mid.length + 1) post.length)) (Q .normal)) a w
  refine stepMoveI at0 ho0 hg0 hd0 (hr.pins 0 _ hp0) ?_
  rw [opsThen_app]
  -- the yield in its slot is pinned, too
  have hnm : ∀ v, (m, v) ∉ pin := fun v hv => by
    unfold pinO at hpo0
    rw [hd0] at hpo0
    simp only [memN_iff (List.mem_map.2 ⟨(m, v), hv, rfl⟩ : m ∈ pin.map (·.1))] at hpo0
    cases hpo0
  have hr1 : RD P σ nt T Hc [] ((m, Value.func (.yield l) #[] #[]) :: pin) (a.put (some m) (.func (.yield l) #[] #[])) w := by
    refine ⟨⟨fun s v hs => ?_, by show (a.tmps.setIfInBounds m _).size = nt; rw [Array.size_setIfInBounds]; exact hr.rel.size, rfl, hr.rel.heap, hr.rel.glob⟩, hr.defers, fun s v hs => ?_⟩
    · obtain ⟨v', e1, e2⟩ := hr.rel.tmps s v hs
      have hne : m ≠ s := fun e => by subst e; rw [hTm] at hs; cases hs
      exact ⟨v', by show (a.tmps.setIfInBounds m _)[s]? = _; rw [Array.getElem?_setIfInBounds_ne hne]; exact e1, e2⟩
    · show (a.tmps.setIfInBounds m _)[s]? = _
      rcases List.mem_cons.1 hs with e | e
      · cases e
        have := hr.rel.size
        rw [Array.getElem?_setIfInBounds_self, if_pos (by show m < (bare a).tmps.size; rw [this]; exact hmn)]
      · have hne : m ≠ s := fun e2 => by subst e2; exact hnm v e
        rw [Array.getElem?_setIfInBounds_ne hne]
        exact hr.pins s v e
  refine runA_okT (pin := (m, Value.func (.yield l) #[] #[]) :: pin) hcs mid 1 (fr + 8) σ T T1 Hc H1 _ w atm hpm hmid hr1 (fun k hk => hf k (by omega)) fun σ2 a2 w2 g1 g2 g3 => ?_
  have hj2 := hJ _ _ hj (grown_of hro g2)
  show wpOpIn (Fw none) n P ops Q (1 + mid.length) (opsThen none n P ops Q (List.range' (1 + mid.length + 1) post.length) (Q .normal)) a2 w2
  have hl2 : LR σ2 cap lb := hl.mono g2.ext
  obtain ⟨σ1, y1, y2, y3, y4⟩ := hY w2 hj2
  -- the arguments
  have hxs := evL_ok g1.rel.env hargs
  have hxs1 : LR σ1 vs (c.args.map a2.eval) := by
    have hxs2 : LR σ2 vs (c.args.map a2.eval) := by
      have e : c.args.map a2.eval = (List.map (bare a2).eval c.args.toList).toArray := by
        rw [← Array.toList_map]
        rfl
      rw [e]
      exact hxs
    rcases hvs with hv | hv
    · exact hxs2.cut0 (allV_mem hv) σ1
    · exact hv σ2 σ1 w2 _ g1.rel.heap y2 hl2 y3 hxs2
  refine stepYieldI atc hoc hgc hdc hcc (g1.pins m _ (List.mem_cons_self ..)) rfl (y4 _ hxs1) ?_
  -- behind it
  have pinsP : ∀ (b : Bool) s v, (s, v) ∈ pin → (a2.put (some d) (.bool b)).tmps[s]? = some v := fun b => by
    have := pin_put (a := a2) hpoc (fun s v hs => g1.pins s v (List.mem_cons_of_mem _ hs)) (.bool b)
    rw [hdc] at this
    exact this
  have tmpsP : ∀ (b : Bool) (σ' : Sig), LR σ' cap lb → TRel σ' (aget ((d, .bool b) :: Tc)) (bare (a2.put (some d) (.bool b))) := fun b σ' hl' s v hs => by
    simp only [aget] at hs
    rcases beq_cases d s with ⟨e, hb⟩ | ⟨e, hb⟩ <;> rw [hb] at hs <;> simp only [cond_true, cond_false] at hs
    · subst e
      cases hs
      refine ⟨.bool b, ?_, .bool b⟩
      show (a2.tmps.setIfInBounds d _)[d]? = _
      have := g1.rel.size
      rw [Array.getElem?_setIfInBounds_self, if_pos (by show d < (bare a2).tmps.size; rw [this]; exact hdn)]
    · obtain ⟨_, _, h⟩ := hcarry σ' hl' s v hs
      rcases h with ⟨h1, h2⟩ | ⟨u, h1, h2⟩
      · obtain ⟨v', e1, e2⟩ := g1.rel.tmps s v h1
        refine ⟨v', ?_, e2.cut0 h2 σ'⟩
        show (a2.tmps.setIfInBounds d _)[s]? = _
        rw [Array.getElem?_setIfInBounds_ne e]
        exact e1
      · exact ⟨u, pinsP b s u h1, h2⟩
  have sizeP : ∀ b : Bool, (a2.put (some d) (.bool b)).tmps.size = nt := fun b => by
    show (a2.tmps.setIfInBounds d _).size = nt
    rw [Array.size_setIfInBounds]; exact g1.rel.size
  rintro e w3 (⟨rfl, hj3⟩ | ⟨rfl, hj3⟩)
  · refine ⟨_, rfl, ?_⟩
    obtain ⟨σ3, z1, z2, z3⟩ := hNext w3 hj3
    have c1 : RRel P σ3 nt ((d, .bool true) :: Tc) Hc (bare (a2.put (some d) (.bool true))) w3 := ⟨tmpsP true σ3 z3, sizeP true, rfl, z2, z1⟩
    have c2 := c1.cut (m := fr) (by show (ltV fr (.bool true) && ltT fr Tc) = true; rw [hTcl]; rfl) hHl hgl
    have zc : LR (Go.Eng.cut fr σ3) cap lb := ltM_ok hcl z3
    refine runA_okT hcs post (1 + mid.length + 1) fr _ _ _ Hc Hc _ w3 atp hpp (hpost true Hc) (D := []) (pin := pin) ⟨c2, g1.defers, pinsP true⟩ (cut_fresh _ _) fun σ5 a5 w5 k1 k2 k3 => ?_
    have zc5 := zc.mono k2.ext
    exact hQt a5 w5 ⟨Go.Eng.cut fr σ5, ⟨k1.rel.cut (hT2 true) hHl hgl, k1.defers, k1.pins⟩, cut_fresh _ _, ltM_ok hcl zc5⟩ (hJ' _ _ hj3 (grown_of hro k2))
  · refine ⟨_, rfl, ?_⟩
    have c1 : RRel P σ2 nt ((d, .bool false) :: Tc) [] (bare (a2.put (some d) (.bool false))) w3 := ⟨tmpsP false σ2 hl2, sizeP false, rfl, ⟨fun n o hn => by simp [aget] at hn, fun n m o o' p q hn => by simp [aget] at hn⟩, g1.rel.glob⟩
    have c2 := c1.cut (m := fr) (by show (ltV fr (.bool false) && ltT fr Tc) = true; rw [hTcl]; rfl) rfl hgl
    refine runA_okT hcs post (1 + mid.length + 1) fr _ _ _ [] [] _ w3 atp hpp (hpost false []) (D := []) (pin := pin) ⟨c2, g1.defers, pinsP false⟩ (cut_fresh _ _) fun σ5 a5 w5 k1 k2 k3 => ?_
    exact hQf a5 w5 ⟨Go.Eng.cut fr σ5, ⟨k1.rel.cut (hT2 false) rfl hgl, k1.defers, k1.pins⟩, cut_fresh _ _, LR.nil _⟩ (hJx _ _ hj3 (grown_of (Hc := []) (fun n o h => by simp [aget] at h) k2))
end Go.Eng

/- The stream's pieces. -/
namespace Go.Proofs.Ytjdhndicgifnbaa.Cha
set_option linter.unusedVariables false
set_option linter.unusedSimpArgs false
open Go Go.Eng Go.Cha
set_option maxRecDepth 100000
set_option maxHeartbeats 1000000
set_option linter.unusedSimpArgs false
set_option linter.unusedVariables false
def blkOf : Code → Code
  | .block _ b => b
  | c => c
def opsOf : Code → Array Oper
  | .region _ ops _ => ops
  | _ => #[]
noncomputable def p18 : List Code := pieces (bodyOf Try.f82)
noncomputable def LB : Code := loopOf (p18.getD 1 .skip)
noncomputable def pL : List Code := pieces LB
noncomputable def B1 : Code := blkOf (pL.getD 0 .skip)
noncomputable def pB : List Code := pieces B1
noncomputable def IB : Code := loopOf (pB.getD 1 .skip)
noncomputable def pI : List Code := pieces IB
noncomputable def B3 : Code := blkOf (pI.getD 2 .skip)
noncomputable def p3 : List Code := pieces B3
noncomputable def ops5 : Array Oper := opsOf (p3.getD 1 .skip)
theorem p18_eq : p18 = [p18.getD 0 .skip, .block 0 (.loop LB)] := by kernel_rfl
theorem pL_eq : pL = [.block 1 B1, pL.getD 1 .skip] := by kernel_rfl
theorem pB_eq : pB = [pB.getD 0 .skip, .block 2 (.loop IB)] := by kernel_rfl
theorem pI_eq : pI = [pI.getD 0 .skip, .cond (.tmp 19) .skip (.exit 2), .block 3 B3, pI.getD 3 .skip] := by kernel_rfl
theorem p3_eq : p3 = [p3.getD 0 .skip, .region 5 ops5 false, .cond (.tmp 28) .ret .skip] := by kernel_rfl
def Hc (k n : List UInt8) (c : UInt32) : HL := [(192, .cells true [.str k]), (193, .cells true [.str n]), (194, .cells true [.u32 c])]
def Tc : TL := [(1, .ptr 192 0), (2, .ptr 193 0), (3, .ptr 194 0)]
def T0 (x : Int) : TL := [(1, .ptr 192 0), (2, .ptr 193 0), (3, .ptr 194 0), (5, .int .i64 x)]
def Tj (φ : Fb) (k n : List UInt8) (cq : UInt32) (x j : Int) : TL := [(1, .ptr 192 0), (2, .ptr 193 0), (3, .ptr 194 0), (5, .int .i64 x), (17, .agg ((List.range 64).map fun i => .u8 (φ.bb k n cq i))), (18, .int .i64 j)]
end Go.Proofs.Ytjdhndicgifnbaa.Cha

/- The stream is an iterator: its bytes, one behind the other. -/
namespace Go.Proofs.Ytjdhndicgifnbaa.Cha
set_option linter.unusedVariables false
set_option linter.unusedSimpArgs false
open Go Go.Eng Go.Cha
set_option maxRecDepth 100000
set_option maxHeartbeats 1000000
set_option linter.unusedSimpArgs false
set_option linter.unusedVariables false
def Ty (φ : Fb) (k n : List UInt8) (cq : UInt32) (x : Int) (j : Nat) : TL := [(6, .int .i64 j), (7, .u8 (φ.bb k n cq j)), (1, .ptr 192 0), (2, .ptr 193 0), (3, .ptr 194 0), (5, .int .i64 x), (17, .agg ((List.range 64).map fun i => .u8 (φ.bb k n cq i))), (18, .int .i64 j)]
def T2 (φ : Fb) (k n : List UInt8) (cq : UInt32) (x : Int) (j : Nat) (b : Bool) : TL := [(27, .bool b), (1, .ptr 192 0), (2, .ptr 193 0), (3, .ptr 194 0), (5, .int .i64 x), (17, .agg ((List.range 64).map fun i => .u8 (φ.bb k n cq i))), (18, .int .i64 j), (28, .bool (!b))]
noncomputable def sg (φ : Fb) (sy : List Nat) (vs : List AVal) (Ts T : TL) (H : HL) (l : List Code) : Option (XA × TL × HL × List Bool) := endS Ts (evSO Try.prog (psb φ) (nb φ) sy Try.f82.ntmps (mask 82) 100 200 l ⟨T, H, 200⟩ ⟨[], vs, []⟩)
noncomputable def rC : Code := .cond (.tmp 28) .ret .skip
theorem s0 (φ : Fb) (k n : List UInt8) (c : UInt32) : sg φ [] [] (T0 0) Tc (Hc k n c) [p18.getD 0 .skip] = some (.normal, T0 0, Hc k n c, []) := by kernel_rfl
theorem s2 (φ : Fb) (k n : List UInt8) (c cq : UInt32) (x : Int) : sg φ [17, 200016] [.u32 cq] (Tj φ k n cq x 0) (T0 x) (Hc k n c) [pB.getD 0 .skip] = some (.normal, Tj φ k n cq x 0, Hc k n c, [φ.may k n, eqS (.u32 (c + UInt32.ofInt (IntKind.wrap .i64 (Int.tdiv x 64)))) (.u32 cq)]) := by kernel_rfl
theorem s1 (φ : Fb) (k n : List UInt8) (c cq : UInt32) (x y : Int) : sg φ [200009] [.int .i64 y] (T0 y) (Tj φ k n cq x 64) (Hc k n c) [pL.getD 1 .skip] = some (.normal, T0 y, Hc k n c, [eqS (.int .i64 (IntKind.wrap .i64 (x + 64))) (.int .i64 y)]) := by kernel_rfl
theorem s64 (φ : Fb) (k n : List UInt8) (c cq : UInt32) (x : Int) : sg φ [] [] (Tj φ k n cq x 64) (Tj φ k n cq x 64) (Hc k n c) [pI.getD 0 .skip, .cond (.tmp 19) .skip (.exit 2)] = some (.exit 2, Tj φ k n cq x 64, Hc k n c, []) := by kernel_rfl
def Pj (φ : Fb) (k n : List UInt8) (c cq : UInt32) (x : Int) (j : Nat) : Prop :=
  sg φ [] [] (Tj φ k n cq x j) (Tj φ k n cq x j) (Hc k n c) [pI.getD 0 .skip, .cond (.tmp 19) .skip (.exit 2)] = some (.normal, Tj φ k n cq x j, Hc k n c, []) ∧
  sg φ [] [] (Ty φ k n cq x j) (Tj φ k n cq x j) (Hc k n c) [p3.getD 0 .skip] = some (.normal, Ty φ k n cq x j, Hc k n c, []) ∧
  sg φ [] [] (Tj φ k n cq x (j + 1 : Nat)) (T2 φ k n cq x j true) (Hc k n c) [pI.getD 3 .skip] = some (.normal, Tj φ k n cq x (j + 1 : Nat), Hc k n c, [])
theorem t0 (φ : Fb) (k n : List UInt8) (c cq : UInt32) (x : Int) : Pj φ k n c cq x 0 := ⟨by kernel_rfl, by kernel_rfl, by kernel_rfl⟩
theorem t1 (φ : Fb) (k n : List UInt8) (c cq : UInt32) (x : Int) : Pj φ k n c cq x 1 := ⟨by kernel_rfl, by kernel_rfl, by kernel_rfl⟩
theorem t2 (φ : Fb) (k n : List UInt8) (c cq : UInt32) (x : Int) : Pj φ k n c cq x 2 := ⟨by kernel_rfl, by kernel_rfl, by kernel_rfl⟩
theorem t3 (φ : Fb) (k n : List UInt8) (c cq : UInt32) (x : Int) : Pj φ k n c cq x 3 := ⟨by kernel_rfl, by kernel_rfl, by kernel_rfl⟩
theorem t4 (φ : Fb) (k n : List UInt8) (c cq : UInt32) (x : Int) : Pj φ k n c cq x 4 := ⟨by kernel_rfl, by kernel_rfl, by kernel_rfl⟩
theorem t5 (φ : Fb) (k n : List UInt8) (c cq : UInt32) (x : Int) : Pj φ k n c cq x 5 := ⟨by kernel_rfl, by kernel_rfl, by kernel_rfl⟩
theorem t6 (φ : Fb) (k n : List UInt8) (c cq : UInt32) (x : Int) : Pj φ k n c cq x 6 := ⟨by kernel_rfl, by kernel_rfl, by kernel_rfl⟩
theorem t7 (φ : Fb) (k n : List UInt8) (c cq : UInt32) (x : Int) : Pj φ k n c cq x 7 := ⟨by kernel_rfl, by kernel_rfl, by kernel_rfl⟩
theorem t8 (φ : Fb) (k n : List UInt8) (c cq : UInt32) (x : Int) : Pj φ k n c cq x 8 := ⟨by kernel_rfl, by kernel_rfl, by kernel_rfl⟩
theorem t9 (φ : Fb) (k n : List UInt8) (c cq : UInt32) (x : Int) : Pj φ k n c cq x 9 := ⟨by kernel_rfl, by kernel_rfl, by kernel_rfl⟩
theorem t10 (φ : Fb) (k n : List UInt8) (c cq : UInt32) (x : Int) : Pj φ k n c cq x 10 := ⟨by kernel_rfl, by kernel_rfl, by kernel_rfl⟩
theorem t11 (φ : Fb) (k n : List UInt8) (c cq : UInt32) (x : Int) : Pj φ k n c cq x 11 := ⟨by kernel_rfl, by kernel_rfl, by kernel_rfl⟩
theorem t12 (φ : Fb) (k n : List UInt8) (c cq : UInt32) (x : Int) : Pj φ k n c cq x 12 := ⟨by kernel_rfl, by kernel_rfl, by kernel_rfl⟩
theorem t13 (φ : Fb) (k n : List UInt8) (c cq : UInt32) (x : Int) : Pj φ k n c cq x 13 := ⟨by kernel_rfl, by kernel_rfl, by kernel_rfl⟩
theorem t14 (φ : Fb) (k n : List UInt8) (c cq : UInt32) (x : Int) : Pj φ k n c cq x 14 := ⟨by kernel_rfl, by kernel_rfl, by kernel_rfl⟩
theorem t15 (φ : Fb) (k n : List UInt8) (c cq : UInt32) (x : Int) : Pj φ k n c cq x 15 := ⟨by kernel_rfl, by kernel_rfl, by kernel_rfl⟩
theorem t16 (φ : Fb) (k n : List UInt8) (c cq : UInt32) (x : Int) : Pj φ k n c cq x 16 := ⟨by kernel_rfl, by kernel_rfl, by kernel_rfl⟩
theorem t17 (φ : Fb) (k n : List UInt8) (c cq : UInt32) (x : Int) : Pj φ k n c cq x 17 := ⟨by kernel_rfl, by kernel_rfl, by kernel_rfl⟩
theorem t18 (φ : Fb) (k n : List UInt8) (c cq : UInt32) (x : Int) : Pj φ k n c cq x 18 := ⟨by kernel_rfl, by kernel_rfl, by kernel_rfl⟩
theorem t19 (φ : Fb) (k n : List UInt8) (c cq : UInt32) (x : Int) : Pj φ k n c cq x 19 := ⟨by kernel_rfl, by kernel_rfl, by kernel_rfl⟩
theorem t20 (φ : Fb) (k n : List UInt8) (c cq : UInt32) (x : Int) : Pj φ k n c cq x 20 := ⟨by kernel_rfl, by kernel_rfl, by kernel_rfl⟩
theorem t21 (φ : Fb) (k n : List UInt8) (c cq : UInt32) (x : Int) : Pj φ k n c cq x 21 := ⟨by kernel_rfl, by kernel_rfl, by kernel_rfl⟩
theorem t22 (φ : Fb) (k n : List UInt8) (c cq : UInt32) (x : Int) : Pj φ k n c cq x 22 := ⟨by kernel_rfl, by kernel_rfl, by kernel_rfl⟩
theorem t23 (φ : Fb) (k n : List UInt8) (c cq : UInt32) (x : Int) : Pj φ k n c cq x 23 := ⟨by kernel_rfl, by kernel_rfl, by kernel_rfl⟩
theorem t24 (φ : Fb) (k n : List UInt8) (c cq : UInt32) (x : Int) : Pj φ k n c cq x 24 := ⟨by kernel_rfl, by kernel_rfl, by kernel_rfl⟩
theorem t25 (φ : Fb) (k n : List UInt8) (c cq : UInt32) (x : Int) : Pj φ k n c cq x 25 := ⟨by kernel_rfl, by kernel_rfl, by kernel_rfl⟩
theorem t26 (φ : Fb) (k n : List UInt8) (c cq : UInt32) (x : Int) : Pj φ k n c cq x 26 := ⟨by kernel_rfl, by kernel_rfl, by kernel_rfl⟩
theorem t27 (φ : Fb) (k n : List UInt8) (c cq : UInt32) (x : Int) : Pj φ k n c cq x 27 := ⟨by kernel_rfl, by kernel_rfl, by kernel_rfl⟩
theorem t28 (φ : Fb) (k n : List UInt8) (c cq : UInt32) (x : Int) : Pj φ k n c cq x 28 := ⟨by kernel_rfl, by kernel_rfl, by kernel_rfl⟩
theorem t29 (φ : Fb) (k n : List UInt8) (c cq : UInt32) (x : Int) : Pj φ k n c cq x 29 := ⟨by kernel_rfl, by kernel_rfl, by kernel_rfl⟩
theorem t30 (φ : Fb) (k n : List UInt8) (c cq : UInt32) (x : Int) : Pj φ k n c cq x 30 := ⟨by kernel_rfl, by kernel_rfl, by kernel_rfl⟩
theorem t31 (φ : Fb) (k n : List UInt8) (c cq : UInt32) (x : Int) : Pj φ k n c cq x 31 := ⟨by kernel_rfl, by kernel_rfl, by kernel_rfl⟩
theorem t32 (φ : Fb) (k n : List UInt8) (c cq : UInt32) (x : Int) : Pj φ k n c cq x 32 := ⟨by kernel_rfl, by kernel_rfl, by kernel_rfl⟩
theorem t33 (φ : Fb) (k n : List UInt8) (c cq : UInt32) (x : Int) : Pj φ k n c cq x 33 := ⟨by kernel_rfl, by kernel_rfl, by kernel_rfl⟩
theorem t34 (φ : Fb) (k n : List UInt8) (c cq : UInt32) (x : Int) : Pj φ k n c cq x 34 := ⟨by kernel_rfl, by kernel_rfl, by kernel_rfl⟩
theorem t35 (φ : Fb) (k n : List UInt8) (c cq : UInt32) (x : Int) : Pj φ k n c cq x 35 := ⟨by kernel_rfl, by kernel_rfl, by kernel_rfl⟩
theorem t36 (φ : Fb) (k n : List UInt8) (c cq : UInt32) (x : Int) : Pj φ k n c cq x 36 := ⟨by kernel_rfl, by kernel_rfl, by kernel_rfl⟩
theorem t37 (φ : Fb) (k n : List UInt8) (c cq : UInt32) (x : Int) : Pj φ k n c cq x 37 := ⟨by kernel_rfl, by kernel_rfl, by kernel_rfl⟩
theorem t38 (φ : Fb) (k n : List UInt8) (c cq : UInt32) (x : Int) : Pj φ k n c cq x 38 := ⟨by kernel_rfl, by kernel_rfl, by kernel_rfl⟩
theorem t39 (φ : Fb) (k n : List UInt8) (c cq : UInt32) (x : Int) : Pj φ k n c cq x 39 := ⟨by kernel_rfl, by kernel_rfl, by kernel_rfl⟩
theorem t40 (φ : Fb) (k n : List UInt8) (c cq : UInt32) (x : Int) : Pj φ k n c cq x 40 := ⟨by kernel_rfl, by kernel_rfl, by kernel_rfl⟩
theorem t41 (φ : Fb) (k n : List UInt8) (c cq : UInt32) (x : Int) : Pj φ k n c cq x 41 := ⟨by kernel_rfl, by kernel_rfl, by kernel_rfl⟩
theorem t42 (φ : Fb) (k n : List UInt8) (c cq : UInt32) (x : Int) : Pj φ k n c cq x 42 := ⟨by kernel_rfl, by kernel_rfl, by kernel_rfl⟩
theorem t43 (φ : Fb) (k n : List UInt8) (c cq : UInt32) (x : Int) : Pj φ k n c cq x 43 := ⟨by kernel_rfl, by kernel_rfl, by kernel_rfl⟩
theorem t44 (φ : Fb) (k n : List UInt8) (c cq : UInt32) (x : Int) : Pj φ k n c cq x 44 := ⟨by kernel_rfl, by kernel_rfl, by kernel_rfl⟩
theorem t45 (φ : Fb) (k n : List UInt8) (c cq : UInt32) (x : Int) : Pj φ k n c cq x 45 := ⟨by kernel_rfl, by kernel_rfl, by kernel_rfl⟩
theorem t46 (φ : Fb) (k n : List UInt8) (c cq : UInt32) (x : Int) : Pj φ k n c cq x 46 := ⟨by kernel_rfl, by kernel_rfl, by kernel_rfl⟩
theorem t47 (φ : Fb) (k n : List UInt8) (c cq : UInt32) (x : Int) : Pj φ k n c cq x 47 := ⟨by kernel_rfl, by kernel_rfl, by kernel_rfl⟩
theorem t48 (φ : Fb) (k n : List UInt8) (c cq : UInt32) (x : Int) : Pj φ k n c cq x 48 := ⟨by kernel_rfl, by kernel_rfl, by kernel_rfl⟩
theorem t49 (φ : Fb) (k n : List UInt8) (c cq : UInt32) (x : Int) : Pj φ k n c cq x 49 := ⟨by kernel_rfl, by kernel_rfl, by kernel_rfl⟩
theorem t50 (φ : Fb) (k n : List UInt8) (c cq : UInt32) (x : Int) : Pj φ k n c cq x 50 := ⟨by kernel_rfl, by kernel_rfl, by kernel_rfl⟩
theorem t51 (φ : Fb) (k n : List UInt8) (c cq : UInt32) (x : Int) : Pj φ k n c cq x 51 := ⟨by kernel_rfl, by kernel_rfl, by kernel_rfl⟩
theorem t52 (φ : Fb) (k n : List UInt8) (c cq : UInt32) (x : Int) : Pj φ k n c cq x 52 := ⟨by kernel_rfl, by kernel_rfl, by kernel_rfl⟩
theorem t53 (φ : Fb) (k n : List UInt8) (c cq : UInt32) (x : Int) : Pj φ k n c cq x 53 := ⟨by kernel_rfl, by kernel_rfl, by kernel_rfl⟩
theorem t54 (φ : Fb) (k n : List UInt8) (c cq : UInt32) (x : Int) : Pj φ k n c cq x 54 := ⟨by kernel_rfl, by kernel_rfl, by kernel_rfl⟩
theorem t55 (φ : Fb) (k n : List UInt8) (c cq : UInt32) (x : Int) : Pj φ k n c cq x 55 := ⟨by kernel_rfl, by kernel_rfl, by kernel_rfl⟩
theorem t56 (φ : Fb) (k n : List UInt8) (c cq : UInt32) (x : Int) : Pj φ k n c cq x 56 := ⟨by kernel_rfl, by kernel_rfl, by kernel_rfl⟩
theorem t57 (φ : Fb) (k n : List UInt8) (c cq : UInt32) (x : Int) : Pj φ k n c cq x 57 := ⟨by kernel_rfl, by kernel_rfl, by kernel_rfl⟩
theorem t58 (φ : Fb) (k n : List UInt8) (c cq : UInt32) (x : Int) : Pj φ k n c cq x 58 := ⟨by kernel_rfl, by kernel_rfl, by kernel_rfl⟩
theorem t59 (φ : Fb) (k n : List UInt8) (c cq : UInt32) (x : Int) : Pj φ k n c cq x 59 := ⟨by kernel_rfl, by kernel_rfl, by kernel_rfl⟩
theorem t60 (φ : Fb) (k n : List UInt8) (c cq : UInt32) (x : Int) : Pj φ k n c cq x 60 := ⟨by kernel_rfl, by kernel_rfl, by kernel_rfl⟩
theorem t61 (φ : Fb) (k n : List UInt8) (c cq : UInt32) (x : Int) : Pj φ k n c cq x 61 := ⟨by kernel_rfl, by kernel_rfl, by kernel_rfl⟩
theorem t62 (φ : Fb) (k n : List UInt8) (c cq : UInt32) (x : Int) : Pj φ k n c cq x 62 := ⟨by kernel_rfl, by kernel_rfl, by kernel_rfl⟩
theorem t63 (φ : Fb) (k n : List UInt8) (c cq : UInt32) (x : Int) : Pj φ k n c cq x 63 := ⟨by kernel_rfl, by kernel_rfl, by kernel_rfl⟩
theorem tall (φ : Fb) (k n : List UInt8) (c cq : UInt32) (x : Int) : ∀ j, j < 64 → Pj φ k n c cq x j
  | 0, _ => t0 φ k n c cq x
  | 1, _ => t1 φ k n c cq x
  | 2, _ => t2 φ k n c cq x
  | 3, _ => t3 φ k n c cq x
  | 4, _ => t4 φ k n c cq x
  | 5, _ => t5 φ k n c cq x
  | 6, _ => t6 φ k n c cq x
  | 7, _ => t7 φ k n c cq x
  | 8, _ => t8 φ k n c cq x
  | 9, _ => t9 φ k n c cq x
  | 10, _ => t10 φ k n c cq x
  | 11, _ => t11 φ k n c cq x
  | 12, _ => t12 φ k n c cq x
  | 13, _ => t13 φ k n c cq x
  | 14, _ => t14 φ k n c cq x
  | 15, _ => t15 φ k n c cq x
  | 16, _ => t16 φ k n c cq x
  | 17, _ => t17 φ k n c cq x
  | 18, _ => t18 φ k n c cq x
  | 19, _ => t19 φ k n c cq x
  | 20, _ => t20 φ k n c cq x
  | 21, _ => t21 φ k n c cq x
  | 22, _ => t22 φ k n c cq x
  | 23, _ => t23 φ k n c cq x
  | 24, _ => t24 φ k n c cq x
  | 25, _ => t25 φ k n c cq x
  | 26, _ => t26 φ k n c cq x
  | 27, _ => t27 φ k n c cq x
  | 28, _ => t28 φ k n c cq x
  | 29, _ => t29 φ k n c cq x
  | 30, _ => t30 φ k n c cq x
  | 31, _ => t31 φ k n c cq x
  | 32, _ => t32 φ k n c cq x
  | 33, _ => t33 φ k n c cq x
  | 34, _ => t34 φ k n c cq x
  | 35, _ => t35 φ k n c cq x
  | 36, _ => t36 φ k n c cq x
  | 37, _ => t37 φ k n c cq x
  | 38, _ => t38 φ k n c cq x
  | 39, _ => t39 φ k n c cq x
  | 40, _ => t40 φ k n c cq x
  | 41, _ => t41 φ k n c cq x
  | 42, _ => t42 φ k n c cq x
  | 43, _ => t43 φ k n c cq x
  | 44, _ => t44 φ k n c cq x
  | 45, _ => t45 φ k n c cq x
  | 46, _ => t46 φ k n c cq x
  | 47, _ => t47 φ k n c cq x
  | 48, _ => t48 φ k n c cq x
  | 49, _ => t49 φ k n c cq x
  | 50, _ => t50 φ k n c cq x
  | 51, _ => t51 φ k n c cq x
  | 52, _ => t52 φ k n c cq x
  | 53, _ => t53 φ k n c cq x
  | 54, _ => t54 φ k n c cq x
  | 55, _ => t55 φ k n c cq x
  | 56, _ => t56 φ k n c cq x
  | 57, _ => t57 φ k n c cq x
  | 58, _ => t58 φ k n c cq x
  | 59, _ => t59 φ k n c cq x
  | 60, _ => t60 φ k n c cq x
  | 61, _ => t61 φ k n c cq x
  | 62, _ => t62 φ k n c cq x
  | 63, _ => t63 φ k n c cq x
  | i + 64, h => by omega
noncomputable def midL : List Oper := (ops5.toList.drop 1).take 4
theorem mid5 (φ : Fb) (k n : List UInt8) (c cq : UInt32) (x y : Int) (j : Nat) : (runS Try.prog (psb φ) (nb φ) [200025] Try.f82.ntmps ops5 midL 208 (Ty φ k n cq x j) (Hc k n c) ⟨[], [.int .i64 y], []⟩).map (fun p => (p.1, p.2.1, p.2.2.ob)) = some (Ty φ k n cq x j ++ [(23, .int .i64 x), (24, .int .i64 j), (25, .int .i64 y), (26, .u8 (φ.bb k n cq j))], Hc k n c, [eqS (.int .i64 (IntKind.wrap .i64 (x + (j : Int)))) (.int .i64 y)]) := by kernel_rfl
theorem post5 (φ : Fb) (k n : List UInt8) (cq : UInt32) (x : Int) (j : Nat) (b : Bool) (Hx : HL) : runA Try.prog (nb φ) Try.f82.ntmps ops5 (ops5.toList.drop 6) 200 ((27, .bool b) :: Tj φ k n cq x j) Hx = some (T2 φ k n cq x j b, Hx) := by kernel_rfl
theorem cT (φ : Fb) (k n : List UInt8) (c cq : UInt32) (x : Int) (j : Nat) : sg φ [] [] (T2 φ k n cq x j true) (T2 φ k n cq x j true) (Hc k n c) [rC] = some (.normal, T2 φ k n cq x j true, Hc k n c, []) := by kernel_rfl
theorem cF (φ : Fb) (k n : List UInt8) (cq : UInt32) (x : Int) (j : Nat) : sg φ [] [] (T2 φ k n cq x j false) (T2 φ k n cq x j false) [] [rC] = some (.ret, T2 φ k n cq x j false, [], []) := by kernel_rfl
end Go.Proofs.Ytjdhndicgifnbaa.Cha
