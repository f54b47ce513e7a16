/- Engine, part 15: code, functions, calls. -/
import Derived.Test.YthnejkbldfcpiaaZz14
import Derived.LoopN
namespace Go.Eng
open Go

/-! ### names below a bound -/
def ltS (m : Nat) : AVal → Bool
  | .ptr n _ => Nat.ble (n + 1) m
  | .slice n _ _ _ => Nat.ble (n + 1) m
  | .map n => Nat.ble (n + 1) m
  | .agg cs => match cs with
    | [] => true
    | _ => false
  | .tup cs => match cs with
    | [] => true
    | _ => false
  | .fn _ cap => match cap with
    | [] => true
    | _ => false
  | .iface _ _ => false
  | _ => true
def ltL (m : Nat) : List AVal → Bool
  | [] => true
  | v :: l => cond (ltS m v) (ltL m l) false
def ltV (m : Nat) (v : AVal) : Bool :=
  match v with
  | .agg cs => ltL m cs
  | .tup cs => ltL m cs
  | .fn _ cap => ltL m cap
  | .iface _ v => ltS m v
  | v => ltS m v
def cut (m : Nat) (σ : Sig) : Sig := fun n => if n < m then σ n else none
theorem cut_of {m : Nat} {σ : Sig} {n : Nat} {p : Place} (h : σ n = some p) (hn : n < m) : cut m σ n = some p := by simp [cut, hn, h]
theorem cut_le (m : Nat) (σ : Sig) : Sig.le (cut m σ) σ := fun n p h => by
  unfold cut at h
  split at h
  · exact h
  · cases h
theorem ltS_ok {m : Nat} {v : AVal} (h : ltS m v = true) {σ : Sig} {v' : Value} (hv : VR σ v v') : VR (cut m σ) v v' := by
  cases hv with
  | bool b => exact .bool b
  | u8 x => exact .u8 x
  | u32 x => exact .u32 x
  | u64 x => exact .u64 x
  | int k n => exact .int k n
  | str l => exact .str l
  | nilPtr => exact .nilPtr
  | ptr hp => exact .ptr (cut_of hp (Nat.le_of_ble_eq_true h))
  | nilSlice => exact .nilSlice
  | slice hp ho hc hs => exact .slice (cut_of hp (Nat.le_of_ble_eq_true h)) ho hc hs
  | nilMap => exact .nilMap
  | map hp => exact .map (cut_of hp (Nat.le_of_ble_eq_true h))
  | nilFunc => exact .nilFunc
  | @fn f cap cap' hs hc =>
    cases cap with
    | nil => exact .fn hs fun i v v' h => by simp at h
    | cons x l => cases h
  | nilIface => exact .nilIface
  | iface h' => cases h
  | @agg cs cs' hs hc =>
    cases cs with
    | nil => exact .agg hs fun i v v' h => by simp at h
    | cons x l => cases h
  | @tup cs cs' hs hc =>
    cases cs with
    | nil => exact .tup hs fun i v v' h => by simp at h
    | cons x l => cases h
theorem ltL_mem {m : Nat} : ∀ {l : List AVal}, ltL m l = true → ∀ v ∈ l, ltS m v = true
  | [], _, v, hv => by cases hv
  | x :: l, h, v, hv => by
    simp only [ltL] at h
    cases hx : ltS m x <;> rw [hx] at h <;> simp only [cond_true, cond_false] at h
    · cases h
    · rcases List.mem_cons.1 hv with rfl | hv
      · exact hx
      · exact ltL_mem h v hv
theorem ltL_ok {m : Nat} {l : List AVal} (h : ltL m l = true) {σ : Sig} {l' : Array Value} (hl : LR σ l l') : LR (cut m σ) l l' :=
  ⟨hl.1, fun i v v' h1 h2 => ltS_ok (ltL_mem h v (List.mem_of_getElem? h1)) (hl.2 i v v' h1 h2)⟩
theorem ltV_ok {m : Nat} {v : AVal} (h : ltV m v = true) {σ : Sig} {v' : Value} (hv : VR σ v v') : VR (cut m σ) v v' := by
  unfold ltV at h
  split at h
  · cases hv with
    | agg hs hc => have := ltL_ok h ⟨hs, hc⟩; exact .agg this.1 this.2
  · cases hv with
    | tup hs hc => have := ltL_ok h ⟨hs, hc⟩; exact .tup this.1 this.2
  · cases hv with
    | fn hs hc => have := ltL_ok h ⟨hs, hc⟩; exact .fn this.1 this.2
  · cases hv with
    | iface hv => exact .iface (ltS_ok h hv)
  · exact ltS_ok h hv
def ltT (m : Nat) : TL → Bool
  | [] => true
  | (_, v) :: l => cond (ltV m v) (ltT m l) false
def ltH (m : Nat) : HL → Bool
  | [] => true
  | (n, .cells _ c) :: l => cond (Nat.ble (n + 1) m && ltL m c) (ltH m l) false
theorem ltT_get {m : Nat} : ∀ {T : TL}, ltT m T = true → ∀ s v, aget T s = some v → ltV m v = true
  | [], _, s, v, hv => by simp [aget] at hv
  | (k, u) :: l, h, s, v, hv => by
    simp only [ltT] at h
    cases hx : ltV m u <;> rw [hx] at h <;> simp only [cond_true, cond_false] at h
    · cases h
    · simp only [aget] at hv
      cases hb : Nat.beq k s <;> rw [hb] at hv <;> simp only [cond_true, cond_false] at hv
      · exact ltT_get h s v hv
      · cases hv; exact hx
theorem ltH_get {m : Nat} : ∀ {H : HL}, ltH m H = true → ∀ n ro c, aget H n = some (.cells ro c) → n < m ∧ ltL m c = true
  | [], _, s, ro, c, hv => by simp [aget] at hv
  | (k, .cells ro' c') :: l, h, s, ro, c, hv => by
    simp only [ltH] at h
    cases hx : (Nat.ble (k + 1) m && ltL m c') <;> rw [hx] at h <;> simp only [cond_true, cond_false] at h
    · cases h
    · simp only [aget] at hv
      rcases beq_cases k s with ⟨he, hb⟩ | ⟨he, hb⟩ <;> rw [hb] at hv <;> simp only [cond_true, cond_false] at hv
      · cases hv
        simp only [Bool.and_eq_true] at hx
        have := Nat.le_of_ble_eq_true hx.1
        exact ⟨by omega, hx.2⟩
      · exact ltH_get h s ro c hv

/-! ### states -/
structure SA where
  T : TL
  H : HL
  fr : Nat
inductive XA where
  | normal
  | exit (id : Nat)
  | ret
def XA.out : XA → Exit
  | .normal => .normal
  | .exit id => .exit id
  | .ret => .ret

/-- The slots that outlive a region: the bits of a number. -/
def prune (mask : Nat) : TL → TL
  | [] => []
  | (k, v) :: l => cond (mask.testBit k) ((k, v) :: prune mask l) (prune mask l)
theorem prune_get {mask : Nat} : ∀ {T : TL} {s : Nat} {v : AVal}, aget (prune mask T) s = some v → aget T s = some v := by
  have key : ∀ (T : TL) (s : Nat), aget (prune mask T) s = if mask.testBit s = true then aget T s else none := by
    intro T
    induction T with
    | nil => intro s; simp [prune, aget]
    | cons p l ih =>
      intro s
      obtain ⟨k, u⟩ := p
      simp only [prune]
      cases hb : mask.testBit k with
      | true =>
        simp only [cond_true, aget]
        rcases beq_cases k s with ⟨he, hb2⟩ | ⟨he, hb2⟩
        · subst he; rw [hb2]; simp [hb]
        · rw [hb2]; simp only [cond_false]; exact ih s
      | false =>
        simp only [cond_false, aget]
        rw [ih s]
        rcases beq_cases k s with ⟨he, hb2⟩ | ⟨he, hb2⟩
        · subst he; simp [hb]
        · rw [hb2]; simp only [cond_false]
  intro T s v h
  rw [key] at h
  split at h
  · exact h
  · cases h

/-- What a frame holds in some slots, in their order. -/
def reshape : TL → TL → TL
  | [], _ => []
  | (k, _) :: l, T => match aget T k with
    | some v => (k, v) :: reshape l T
    | none => reshape l T
theorem reshape_get : ∀ {l : TL} {T : TL} {s : Nat} {v : AVal}, aget (reshape l T) s = some v → aget T s = some v
  | [], T, s, v, h => by simp [reshape, aget] at h
  | (k, u) :: l, T, s, v, h => by
    simp only [reshape] at h
    split at h
    · rename_i x hx
      simp only [aget] at h
      rcases beq_cases k s with ⟨he, hb⟩ | ⟨he, hb⟩ <;> rw [hb] at h <;> simp only [cond_true, cond_false] at h
      · subst he; rw [hx]; exact h
      · exact reshape_get h
    · exact reshape_get h
def reshapeH : HL → HL → HL
  | [], _ => []
  | (k, _) :: l, T => match aget T k with
    | some v => (k, v) :: reshapeH l T
    | none => reshapeH l T
theorem reshapeH_get : ∀ {l : HL} {T : HL} {s : Nat} {v : AObj}, aget (reshapeH l T) s = some v → aget T s = some v
  | [], T, s, v, h => by simp [reshapeH, aget] at h
  | (k, u) :: l, T, s, v, h => by
    simp only [reshapeH] at h
    split at h
    · rename_i x hx
      simp only [aget] at h
      rcases beq_cases k s with ⟨he, hb⟩ | ⟨he, hb⟩ <;> rw [hb] at h <;> simp only [cond_true, cond_false] at h
      · subst he; rw [hx]; exact h
      · exact reshapeH_get h
    · exact reshapeH_get h

/-- Knowing less. -/
theorem HRel.less {σ : Sig} {H H' : Heap} {w : World} (h : HRel σ H w) (hs : ∀ n o, H' n = some o → H n = some o) : HRel σ H' w :=
  ⟨fun n o hn => h.obj n o (hs n o hn), fun n m o o' p q h1 h2 => h.inj n m o o' p q (hs n o h1) (hs m o' h2)⟩
theorem RRel.less {P : Program} {σ : Sig} {nt : Nat} {T T' : TL} {H H' : HL} {a : Act} {w : World} (h : RRel P σ nt T H a w) (hT : ∀ s v, aget T' s = some v → aget T s = some v) (hH : ∀ n o, aget H' n = some o → aget H n = some o) : RRel P σ nt T' H' a w :=
  ⟨fun s v hv => h.tmps s v (hT s v hv), h.size, h.defers, h.heap.less hH, h.glob⟩
theorem Frm.less {σ σ' : Sig} {H H' H'' : Heap} {w w' : World} (h : Frm σ H w σ' H' w') (hs : ∀ n o, H'' n = some o → H' n = some o) : Frm σ H w σ' H'' w' :=
  ⟨h.ext, h.size, h.os, h.output, h.tape, fun b hb hn => by
    obtain ⟨h1, h2⟩ := h.old b hb hn
    exact ⟨h1, fun ⟨n, o, p, a1, a2, a3, a4⟩ => h2 ⟨n, o, p, hs n o a1, a2, a3, a4⟩⟩⟩
theorem RRel.cut {P : Program} {σ : Sig} {nt : Nat} {T : TL} {H : HL} {a : Act} {w : World} {m : Nat} (h : RRel P σ nt T H a w) (hT : ltT m T = true) (hH : ltH m H = true) (hg : P.globals.size ≤ m) : RRel P (cut m σ) nt T H a w := by
  refine ⟨fun s v hv => ?_, h.size, h.defers, ⟨fun n o hn => ?_, fun n n' o o' p q h1 h2 h3 h4 => h.heap.inj n n' o o' p q h1 h2 (cut_le m σ n p h3) (cut_le m σ n' q h4)⟩, fun g hgl => ?_⟩
  · obtain ⟨v', h1, h2⟩ := h.tmps s v hv
    exact ⟨v', h1, ltV_ok (ltT_get hT s v hv) h2⟩
  · obtain ⟨p, hp, ho⟩ := h.heap.obj n o hn
    cases o with
    | cells ro c =>
      obtain ⟨hn1, hc⟩ := ltH_get hH n ro c hn
      obtain ⟨c', t, fz, e1, e2, e3, e4⟩ := ho
      refine ⟨p, cut_of hp hn1, c', t, fz, e1, e2, fun i v hi => ?_, e4⟩
      obtain ⟨v', g1, g2⟩ := e3 i v hi
      exact ⟨v', g1, ltS_ok (ltL_mem hc v (List.mem_of_getElem? hi)) g2⟩
  · obtain ⟨sz, hs⟩ := h.glob g hgl
    exact ⟨sz, cut_of hs (by omega)⟩
theorem Frm.cut {σ σ' : Sig} {H H' : Heap} {w w' : World} {m : Nat} (h : Frm σ H w σ' H' w') (hf : Fresh σ m) : Frm σ H w (cut m σ') H' w' := by
  refine ⟨fun n p hp => ?_, h.size, h.os, h.output, h.tape, fun b hb hn => ?_⟩
  · have hn : n < m := by
      rcases Nat.lt_or_ge n m with h1 | h1
      · exact h1
      · rw [hf n h1] at hp; cases hp
    exact cut_of (h.ext n p hp) hn
  · obtain ⟨h1, h2⟩ := h.old b hb hn
    exact ⟨h1, fun ⟨n, o, p, a1, a2, a3, a4⟩ => h2 ⟨n, o, p, a1, a2, cut_le m σ' n p a3, a4⟩⟩
theorem cut_fresh (m : Nat) (σ : Sig) : Fresh (cut m σ) m := fun n hn => by simp [cut]; omega

/-- The head of a loop: the frame as it was laid out when the loop began; where no name of a round's own is left, the names are free again. -/
def headA (P : Program) (s0 s : SA) : SA :=
  cond (ltT s0.fr (reshape s0.T s.T) && ltH s0.fr (reshapeH s0.H s.H) && Nat.ble P.globals.size s0.fr) ⟨reshape s0.T s.T, reshapeH s0.H s.H, s0.fr⟩ ⟨reshape s0.T s.T, s.H, s.fr⟩
def iterA (f : SA → Option (XA × SA)) (hd : SA → SA) : Nat → SA → Option (XA × SA)
  | 0, _ => none
  | n + 1, s => match f s with
    | some (.normal, s') => iterA f hd n (hd s')
    | r => r

def evC (P : Program) (cs : CS) (nt nn F : Nat) : Code → SA → Option (XA × SA)
  | .skip, s => some (.normal, s)
  | .label _, s => some (.normal, s)
  | .region _ ops d, s => match regA P cs nt ops d s.fr s.T s.H with
    | some (T', H') => some (.normal, ⟨prune nn T', H', s.fr + 8 * ops.size⟩)
    | none => none
  | .seq a b, s => match evC P cs nt nn F a s with
    | some (.normal, s') => evC P cs nt nn F b s'
    | r => r
  | .cond c a b, s => match opd P (aget s.T) c with
    | some (.bool t) => cond t (evC P cs nt nn F a s) (evC P cs nt nn F b s)
    | _ => none
  | .block id b, s => match evC P cs nt nn F b s with
    | some (.exit id', s') => cond (Nat.beq id' id) (some (.normal, s')) (some (.exit id', s'))
    | r => r
  | .loop b, s => iterA (evC P cs nt nn F b) (headA P s) F s
  | .exit id, s => some (.exit id, s)
  | .ret, s => some (.ret, s)
  | _, _ => none

def Sim (P : Program) (nt : Nat) (c : Code) (s : SA) (x : XA) (s' : SA) : Prop :=
  ∀ (σ : Sig) (a : Act) (w : World) (Q : Exit → Act → World → Prop), RRel P σ nt s.T s.H a w → Fresh σ s.fr →
    (∀ σ' a' w', RRel P σ' nt s'.T s'.H a' w' → Frm σ (aget s.H) w σ' (aget s'.H) w' → Fresh σ' s'.fr → Q x.out a' w') → c.wp P Q a w

theorem iterA_ok {P : Program} {nt : Nat} {b : Code} {f : SA → Option (XA × SA)} (hf : ∀ s x s', f s = some (x, s') → Sim P nt b s x s') (s0 : SA) : ∀ (n : Nat) (s : SA) (x : XA) (s' : SA), iterA f (headA P s0) n s = some (x, s') →
    ∀ (σ0 : Sig) (w0 : World), Fresh σ0 s0.fr → ∀ (σ : Sig) (a : Act) (w : World) (Q : Exit → Act → World → Prop), RRel P σ nt s.T s.H a w → Fresh σ s.fr → Frm σ0 (aget s0.H) w0 σ (aget s.H) w →
    (∀ σ' a' w', RRel P σ' nt s'.T s'.H a' w' → Frm σ0 (aget s0.H) w0 σ' (aget s'.H) w' → Fresh σ' s'.fr → Q x.out a' w') → Code.rounds P b Q n a w
  | 0, s, x, s', h, _, _, _, _, _, _, _, _, _, _, _ => by cases h
  | n + 1, s, x, s', h, σ0, w0, hf0, σ, a, w, Q, hr, hfr, hfm, hQ => by
    rw [rounds_succ]
    simp only [iterA] at h
    cases hs : f s with
    | none => rw [hs] at h; cases h
    | some p =>
      obtain ⟨y, s1⟩ := p
      rw [hs] at h
      refine hf s y s1 hs σ a w _ hr hfr fun σ1 a1 w1 g1 g2 g3 => ?_
      cases y with
      | normal =>
        simp only at h
        refine iterA_ok hf s0 n _ x s' h σ0 w0 hf0 (if (ltT s0.fr (reshape s0.T s1.T) && ltH s0.fr (reshapeH s0.H s1.H) && Nat.ble P.globals.size s0.fr) = true then cut s0.fr σ1 else σ1) a1 w1 Q ?_ ?_ ?_ hQ
        · unfold headA
          cases hc : (ltT s0.fr (reshape s0.T s1.T) && ltH s0.fr (reshapeH s0.H s1.H) && Nat.ble P.globals.size s0.fr) with
          | false => simp only [cond_false, Bool.false_eq_true, if_false]; exact g1.less (fun _ _ => reshape_get) (fun _ _ h => h)
          | true =>
            simp only [cond_true, if_true]
            simp only [Bool.and_eq_true] at hc
            exact (g1.less (fun _ _ => reshape_get) (fun _ _ => reshapeH_get)).cut hc.1.1 hc.1.2 (Nat.le_of_ble_eq_true hc.2)
        · unfold headA
          cases hc : (ltT s0.fr (reshape s0.T s1.T) && ltH s0.fr (reshapeH s0.H s1.H) && Nat.ble P.globals.size s0.fr) with
          | false => simp only [cond_false, Bool.false_eq_true, if_false]; exact g3
          | true => simp only [cond_true, if_true]; exact cut_fresh _ _
        · unfold headA
          cases hc : (ltT s0.fr (reshape s0.T s1.T) && ltH s0.fr (reshapeH s0.H s1.H) && Nat.ble P.globals.size s0.fr) with
          | false => simp only [cond_false, Bool.false_eq_true, if_false]; exact hfm.trans g2
          | true => simp only [cond_true, if_true]; exact ((hfm.trans g2).less (fun _ _ => reshapeH_get)).cut hf0
      | exit id =>
        simp only [Option.some.injEq, Prod.mk.injEq] at h
        obtain ⟨rfl, rfl⟩ := h
        exact hQ σ1 a1 w1 g1 (hfm.trans g2) g3
      | ret =>
        simp only [Option.some.injEq, Prod.mk.injEq] at h
        obtain ⟨rfl, rfl⟩ := h
        exact hQ σ1 a1 w1 g1 (hfm.trans g2) g3

theorem evC_ok {P : Program} {cs : CS} (hcs : CSOk P cs) (hm : P.follows .mixedOrders = true) {nt nn F : Nat} : ∀ (c : Code) (s : SA) (x : XA) (s' : SA), evC P cs nt nn F c s = some (x, s') → Sim P nt c s x s'
  | .skip, s, x, s', h => by
    simp only [evC, Option.some.injEq, Prod.mk.injEq] at h
    obtain ⟨rfl, rfl⟩ := h
    exact fun σ a w Q hr hf hQ => wp_skip (hQ σ a w hr (Frm.refl _ _ _) hf)
  | .label l, s, x, s', h => by
    simp only [evC, Option.some.injEq, Prod.mk.injEq] at h
    obtain ⟨rfl, rfl⟩ := h
    exact fun σ a w Q hr hf hQ => wp_label (hQ σ a w hr (Frm.refl _ _ _) hf)
  | .region id ops d, s, x, s', h => by
    simp only [evC] at h
    split at h
    · rename_i T' H' hreg
      cases h
      exact fun σ a w Q hr hf hQ => regA_ok hcs hm hreg hr hf fun σ' a' w' g1 g2 g3 => hQ σ' a' w' (g1.less (fun _ _ => prune_get) (fun _ _ h => h)) g2 g3
    · cases h
  | .seq a b, s, x, s', h => by
    simp only [evC] at h
    cases hs : evC P cs nt nn F a s with
    | none => rw [hs] at h; cases h
    | some p =>
      obtain ⟨y, s1⟩ := p
      rw [hs] at h
      have ha := evC_ok hcs hm a s y s1 hs
      intro σ ac w Q hr hf hQ
      refine wp_seq (ha σ ac w _ hr hf fun σ1 a1 w1 g1 g2 g3 => ?_)
      cases y with
      | normal =>
        simp only at h
        exact evC_ok hcs hm b s1 x s' h σ1 a1 w1 Q g1 g3 fun σ2 a2 w2 q1 q2 q3 => hQ σ2 a2 w2 q1 (g2.trans q2) q3
      | exit id => simp only [Option.some.injEq, Prod.mk.injEq] at h; obtain ⟨rfl, rfl⟩ := h; exact hQ σ1 a1 w1 g1 g2 g3
      | ret => simp only [Option.some.injEq, Prod.mk.injEq] at h; obtain ⟨rfl, rfl⟩ := h; exact hQ σ1 a1 w1 g1 g2 g3
  | .cond c a b, s, x, s', h => by
    simp only [evC] at h
    split at h
    · rename_i t ht
      intro σ ac w Q hr hf hQ
      have hv := hr.env c _ ht
      have hb : ac.eval c = .bool t := by generalize ac.eval c = z at hv; cases hv; rfl
      refine wp_cond hb ?_
      cases t with
      | true => exact evC_ok hcs hm a s x s' h σ ac w Q hr hf hQ
      | false => exact evC_ok hcs hm b s x s' h σ ac w Q hr hf hQ
    · cases h
  | .block id b, s, x, s', h => by
    simp only [evC] at h
    cases hs : evC P cs nt nn F b s with
    | none => rw [hs] at h; cases h
    | some p =>
      obtain ⟨y, s1⟩ := p
      rw [hs] at h
      have hb := evC_ok hcs hm b s y s1 hs
      intro σ ac w Q hr hf hQ
      refine wp_block (hb σ ac w _ hr hf fun σ1 a1 w1 g1 g2 g3 => ?_)
      cases y with
      | normal => simp only [Option.some.injEq, Prod.mk.injEq] at h; obtain ⟨rfl, rfl⟩ := h; exact hQ σ1 a1 w1 g1 g2 g3
      | ret => simp only [Option.some.injEq, Prod.mk.injEq] at h; obtain ⟨rfl, rfl⟩ := h; exact hQ σ1 a1 w1 g1 g2 g3
      | exit id' =>
        simp only at h
        simp only [XA.out, Exit.inBlock]
        rcases beq_cases id' id with ⟨he, hbe⟩ | ⟨he, hbe⟩ <;> rw [hbe] at h <;> simp only [cond_true, cond_false, Option.some.injEq, Prod.mk.injEq] at h
        · obtain ⟨rfl, rfl⟩ := h
          rw [if_pos he]; exact hQ σ1 a1 w1 g1 g2 g3
        · obtain ⟨rfl, rfl⟩ := h
          rw [if_neg he]; exact hQ σ1 a1 w1 g1 g2 g3
  | .loop b, s, x, s', h => by
    simp only [evC] at h
    intro σ ac w Q hr hf hQ
    exact wp_loop_rounds F (iterA_ok (fun s x s' hs => evC_ok hcs hm b s x s' hs) s F s x s' h σ w hf σ ac w Q hr hf (Frm.refl _ _ _) hQ)
  | .exit id, s, x, s', h => by
    simp only [evC, Option.some.injEq, Prod.mk.injEq] at h
    obtain ⟨rfl, rfl⟩ := h
    exact fun σ a w Q hr hf hQ => wp_exit (hQ σ a w hr (Frm.refl _ _ _) hf)
  | .ret, s, x, s', h => by
    simp only [evC, Option.some.injEq, Prod.mk.injEq] at h
    obtain ⟨rfl, rfl⟩ := h
    exact fun σ a w Q hr hf hQ => wp_ret (hQ σ a w hr (Frm.refl _ _ _) hf)
  | .rangeFunc _ _ _ _, s, x, s', h => by simp [evC] at h
  | .scope _, s, x, s', h => by simp [evC] at h
  | .goto _, s, x, s', h => by simp [evC] at h
  | .refuse _, s, x, s', h => by simp [evC] at h
end Go.Eng
