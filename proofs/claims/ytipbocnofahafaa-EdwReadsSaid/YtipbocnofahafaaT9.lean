/- Texts Fp, Mo9, Num6, Ed1, Eng30, EdA, EdB: what they show stands ahead of each. -/
import Derived.Test.YtipbocnofahafaaT8
import Derived.Test.YtipbocnofahafaaT6
import Derived.Test.YtipbocnofahafaaT5
import Derived.Test.YtipbocnofahafaaT7
/- The twisted curve over the numbers modulo 2^255 - 19: its points are a group. -/
namespace Go.Num
set_option linter.unusedVariables false
set_option linter.unusedSimpArgs false
set_option maxRecDepth 100000
instance pqNe : NeZero Pq := ⟨by decide⟩
abbrev Fp := Fin Pq
def toF (n : Nat) : Fp := Fin.ofNat Pq n
theorem toF_val (n : Nat) : (toF n).val = n % Pq := rfl
theorem toF_eq {a b : Nat} : toF a = toF b ↔ a % Pq = b % Pq := ⟨fun h => congrArg Fin.val h, fun h => Fin.ext h⟩
theorem toF_self (a : Fp) : toF a.val = a := Fin.ext (Nat.mod_eq_of_lt a.isLt)
theorem toF_add (a b : Nat) : toF (a + b) = toF a + toF b := Fin.ext (by rw [Fin.val_add]; show (a + b) % Pq = (a % Pq + b % Pq) % Pq; rw [← Nat.add_mod])
theorem toF_mul (a b : Nat) : toF (a * b) = toF a * toF b := Fin.ext (by rw [Fin.val_mul]; show a * b % Pq = (a % Pq) * (b % Pq) % Pq; rw [← Nat.mul_mod])
theorem toF_neg (b : Nat) : toF (Pq - b % Pq) = - toF b := Fin.ext (by
  rw [Fin.val_neg']; rfl)
theorem toF_sub (a b : Nat) : toF (a + (Pq - b % Pq)) = toF a - toF b := by
  rw [toF_add, toF_neg]; grind -lia -linarith (splits := 0)
theorem toF_zero {a : Nat} : toF a = 0 ↔ a % Pq = 0 := toF_eq (b := 0)
theorem F_inv {a : Fp} (h : a ≠ 0) : ∃ b, a * b = 1 := by
  have h0 : a.val % Pq ≠ 0 := fun e => h (by rw [← toF_self a]; exact toF_zero.2 e)
  obtain ⟨b, hb⟩ : ∃ b : Nat, a.val * b % Pq = 1 := ⟨_, genP.inv P3 h0⟩
  refine ⟨toF b, ?_⟩
  rw [← toF_self a, ← toF_mul]
  exact toF_eq.2 (by rw [hb]; exact (Nat.mod_eq_of_lt (by decide)).symm)
theorem F_cancel {a b c : Fp} (ha : a ≠ 0) (h : a * b = a * c) : b = c := by
  obtain ⟨u, hu⟩ := F_inv ha
  have e1 : u * (a * b) = b := by grind -lia -linarith (splits := 0)
  have e2 : u * (a * c) = c := by grind -lia -linarith (splits := 0)
  rw [← e1, h, e2]
theorem F_mul_ne {a b : Fp} (ha : a ≠ 0) (hb : b ≠ 0) : a * b ≠ 0 := fun h => hb (F_cancel ha (by rw [h]; grind -lia -linarith (splits := 0)))
theorem F_ne_left {a b : Fp} (h : a * b ≠ 0) : a ≠ 0 := fun e => h (by rw [e]; grind -lia -linarith (splits := 0))
theorem F_ne_right {a b : Fp} (h : a * b ≠ 0) : b ≠ 0 := fun e => h (by rw [e]; grind -lia -linarith (splits := 0))
theorem F_two : (2 : Fp) ≠ 0 := by
  intro h
  have := congrArg Fin.val h
  exact absurd this (by decide)
theorem F_one : (1 : Fp) ≠ 0 := by
  intro h
  have := congrArg Fin.val h
  exact absurd this (by decide)
structure P4 (R : Type) where
  x : R
  y : R
  z : R
  t : R
def addO {R : Type} (o : Ops R) (d : R) (p q : P4 R) : P4 R :=
  ⟨o.mul (o.add (o.mul p.x q.y) (o.mul p.y q.x)) (o.sub (o.mul p.z q.z) (o.mul (o.mul d p.t) q.t)),
   o.mul (o.add (o.mul p.z q.z) (o.mul (o.mul d p.t) q.t)) (o.add (o.mul p.y q.y) (o.mul p.x q.x)),
   o.mul (o.sub (o.mul p.z q.z) (o.mul (o.mul d p.t) q.t)) (o.add (o.mul p.z q.z) (o.mul (o.mul d p.t) q.t)),
   o.mul (o.add (o.mul p.x q.y) (o.mul p.y q.x)) (o.add (o.mul p.y q.y) (o.mul p.x q.x))⟩
def opsF : Ops Fp := ⟨fun a b => a + b, fun a b => a - b, fun a b => a * b, fun n => toF n.toNat, 0⟩
structure Crv (d i : Fp) : Prop where
  ii : i * i = -1
  ns : ∀ w : Fp, w * w ≠ d
structure On (d : Fp) (p : P4 Fp) : Prop where
  z : p.z ≠ 0
  c : p.y * p.y - p.x * p.x = p.z * p.z + d * p.t * p.t
  k : p.x * p.y = p.z * p.t
theorem ns_zero {d i : Fp} (h : Crv d i) {u v : Fp} (e : d * (u * u) = v * v) : u = 0 := by
  by_cases hu : u = 0
  · exact hu
  · exfalso
    obtain ⟨w, hw⟩ := F_inv hu
    refine h.ns (v * w) ?_
    have : (v * w) * (v * w) = d * ((u * w) * (u * w)) := by grind -lia -linarith (splits := 0)
    rw [this, hw]; grind -lia -linarith (splits := 0)
theorem complete_eq (d i e x1 y1 z1 t1 x2 y2 z2 t2 : Fp)
  (h1 : y1*y1 - x1*x1 = z1*z1 + d*t1*t1) (k1 : x1*y1 = z1*t1)
  (h2 : y2*y2 - x2*x2 = z2*z2 + d*t2*t2) (k2 : x2*y2 = z2*t2) (hi : i*i = -1) (he : e*e = 1) (hc : d*t1*t2 = e*(z1*z2)) :
  d*((t1*(y2+i*x2))*(t1*(y2+i*x2))) = (z2*(y1+e*i*x1))*(z2*(y1+e*i*x1)) := by
  grind -lia -linarith (splits := 0)
theorem lit1 (d z : Fp) (hz : z = 0) : (z * z - z * z) - d * z * z = z := by grind -lia -linarith (splits := 0)
theorem lit2 (o d m z : Fp) (hz : z = 0) : o + d * m * (z * o) = o := by grind -lia -linarith (splits := 0)
theorem lit3 (o d m z : Fp) (hz : z = 0) : o - d * m * (z * o) = o := by grind -lia -linarith (splits := 0)
theorem lit4 (a b o z : Fp) (ho : o = 1) (hz : z = 0) : (a * o + b * z) * o = a := by grind -lia -linarith (splits := 0)
theorem complete_ne {d i : Fp} (h : Crv d i) {p q : P4 Fp} (hp : On d p) (hq : On d q) {e : Fp} (he : e * e = 1) : d * p.t * q.t ≠ e * (p.z * q.z) := by
  intro hc
  have e0 : e ≠ 0 := fun h0 => F_one (by rw [← he, h0]; grind -lia -linarith (splits := 0))
  have t1 : p.t ≠ 0 := fun h0 => F_mul_ne e0 (F_mul_ne hp.z hq.z) (by rw [← hc, h0]; grind -lia -linarith (splits := 0))
  have a1 := ns_zero h (complete_eq d i e p.x p.y p.z p.t q.x q.y q.z q.t hp.c hp.k hq.c hq.k h.ii he hc)
  have a2 := ns_zero h (complete_eq d (-i) e p.x p.y p.z p.t q.x q.y q.z q.t hp.c hp.k hq.c hq.k (by have := h.ii; grind -lia -linarith (splits := 0)) he hc)
  have b1 : q.y + i * q.x = 0 := F_cancel t1 (by rw [a1]; grind -lia -linarith (splits := 0))
  have b2 : q.y + -i * q.x = 0 := F_cancel t1 (by rw [a2]; grind -lia -linarith (splits := 0))
  have y0 : q.y = 0 := F_cancel F_two (by grind -lia -linarith (splits := 0))
  have x0 : q.x = 0 := by
    have hi := h.ii
    have hix : i * q.x = 0 := by grind -lia -linarith (splits := 0)
    have : i * (i * q.x) = - q.x := by grind -lia -linarith (splits := 0)
    rw [hix] at this
    grind -lia -linarith (splits := 0)
  have hk := hq.k
  have hcc := hq.c
  rw [y0, x0] at hk hcc
  have t0 : q.t = 0 := F_cancel hq.z (by rw [← hk]; grind -lia -linarith (splits := 0))
  rw [t0] at hcc
  have e9 : q.z * q.z = (0 * 0 - 0 * 0) - d * 0 * 0 := by rw [hcc]; grind -lia -linarith (splits := 0)
  have e8 : ((0 : Fp) * 0 - 0 * 0) - d * 0 * 0 = 0 := lit1 d 0 rfl
  exact F_mul_ne hq.z hq.z (e9.trans e8)
theorem fg_ne {d i : Fp} (h : Crv d i) {p q : P4 Fp} (hp : On d p) (hq : On d q) : p.z * q.z - d * p.t * q.t ≠ 0 ∧ p.z * q.z + d * p.t * q.t ≠ 0 :=
  ⟨fun e => complete_ne h hp hq (e := 1) (by grind -lia -linarith (splits := 0)) (by grind -lia -linarith (splits := 0)), fun e => complete_ne h hp hq (e := -1) (by grind -lia -linarith (splits := 0)) (by grind -lia -linarith (splits := 0))⟩
theorem add_curve (d x1 y1 z1 t1 x2 y2 z2 t2 : Fp)
  (h1 : y1*y1 - x1*x1 = z1*z1 + d*t1*t1) (k1 : x1*y1 = z1*t1)
  (h2 : y2*y2 - x2*x2 = z2*z2 + d*t2*t2) (k2 : x2*y2 = z2*t2) :
  ((z1*z2 + d*t1*t2)*(y1*y2+x1*x2))*((z1*z2 + d*t1*t2)*(y1*y2+x1*x2)) - ((x1*y2+y1*x2)*(z1*z2 - d*t1*t2))*((x1*y2+y1*x2)*(z1*z2 - d*t1*t2)) = ((z1*z2 - d*t1*t2)*(z1*z2 + d*t1*t2))*((z1*z2 - d*t1*t2)*(z1*z2 + d*t1*t2)) + d*((x1*y2+y1*x2)*(y1*y2+x1*x2))*((x1*y2+y1*x2)*(y1*y2+x1*x2)) := by
  grind -lia -linarith (splits := 0)
theorem On.add {d i : Fp} (h : Crv d i) {p q : P4 Fp} (hp : On d p) (hq : On d q) : On d (addO opsF d p q) := by
  have n := fg_ne h hp hq
  refine ⟨F_mul_ne n.1 n.2, add_curve d p.x p.y p.z p.t q.x q.y q.z q.t hp.c hp.k hq.c hq.k, ?_⟩
  show (p.x * q.y + p.y * q.x) * (p.z * q.z - d * p.t * q.t) * ((p.z * q.z + d * p.t * q.t) * (p.y * q.y + p.x * q.x)) = (p.z * q.z - d * p.t * q.t) * (p.z * q.z + d * p.t * q.t) * ((p.x * q.y + p.y * q.x) * (p.y * q.y + p.x * q.x))
  generalize p.x * q.y + p.y * q.x = a
  generalize p.z * q.z - d * p.t * q.t = f
  generalize p.z * q.z + d * p.t * q.t = g
  generalize p.y * q.y + p.x * q.x = b
  grind -lia -linarith (splits := 0)
def negO {R : Type} (neg : R → R) (p : P4 R) : P4 R := ⟨neg p.x, p.y, p.z, neg p.t⟩
theorem On.neg {d : Fp} {p : P4 Fp} (hp : On d p) : On d (negO (fun a => -a) p) := by
  have h1 := hp.c
  have h2 := hp.k
  refine ⟨hp.z, ?_, ?_⟩
  · show p.y * p.y - -p.x * -p.x = p.z * p.z + d * -p.t * -p.t
    grind -lia -linarith (splits := 0)
  · show -p.x * p.y = p.z * -p.t
    grind -lia -linarith (splits := 0)
def zero4 : P4 Fp := ⟨0, 1, 1, 0⟩
theorem On.zero (d : Fp) : On d zero4 := ⟨F_one, by show (1 : Fp) * 1 - 0 * 0 = 1 * 1 + d * 0 * 0; grind -lia -linarith (splits := 0), by show (0 : Fp) * 1 = 1 * 0; grind -lia -linarith (splits := 0)⟩
/-! ### the points as they are: two numbers -/
noncomputable def invF (a : Fp) : Fp := by
  classical
  exact if h : a ≠ 0 then Classical.choose (F_inv h) else 0
theorem invF_mul {a : Fp} (h : a ≠ 0) : a * invF a = 1 := by
  unfold invF
  rw [dif_pos h]
  exact Classical.choose_spec (F_inv h)
theorem F_eq_div {a b c : Fp} (hb : b ≠ 0) (h : c * b = a) : a * invF b = c := by
  have := invF_mul hb
  rw [← h]; grind -lia -linarith (splits := 0)
noncomputable def aff (p : P4 Fp) : Fp × Fp := (p.x * invF p.z, p.y * invF p.z)
def OnA (d : Fp) (a : Fp × Fp) : Prop := a.2 * a.2 - a.1 * a.1 = 1 + d * (a.1 * a.2) * (a.1 * a.2)
noncomputable def addA (d : Fp) (a b : Fp × Fp) : Fp × Fp :=
  ((a.1 * b.2 + a.2 * b.1) * invF (1 + d * (a.1 * a.2) * (b.1 * b.2)), (a.2 * b.2 + a.1 * b.1) * invF (1 - d * (a.1 * a.2) * (b.1 * b.2)))
/-- Of two numbers. -/
def up (a : Fp × Fp) : P4 Fp := ⟨a.1, a.2, 1, a.1 * a.2⟩
theorem aff_up (a : Fp × Fp) : aff (up a) = a := by
  have h := invF_mul F_one
  have e : invF (1 : Fp) = 1 := by grind -lia -linarith (splits := 0)
  unfold aff up
  simp only [e]
  exact Prod.ext (by show a.1 * 1 = a.1; grind -lia -linarith (splits := 0)) (by show a.2 * 1 = a.2; grind -lia -linarith (splits := 0))
theorem on_up {d : Fp} {a : Fp × Fp} (h : OnA d a) : On d (up a) := by
  unfold OnA at h
  refine ⟨F_one, ?_, ?_⟩
  · show a.2 * a.2 - a.1 * a.1 = 1 * 1 + d * (a.1 * a.2) * (a.1 * a.2)
    rw [h]; grind -lia -linarith (splits := 0)
  · show a.1 * a.2 = 1 * (a.1 * a.2)
    grind -lia -linarith (splits := 0)
theorem up_on {d : Fp} {a : Fp × Fp} (h : On d (up a)) : OnA d a := by
  have := h.c
  unfold OnA
  have e : a.2 * a.2 - a.1 * a.1 = 1 * 1 + d * (a.1 * a.2) * (a.1 * a.2) := this
  rw [e]; grind -lia -linarith (splits := 0)
theorem on_aff {d : Fp} {p : P4 Fp} (h : On d p) : OnA d (aff p) := by
  have hz := invF_mul h.z
  have h1 := h.c
  have h2 := h.k
  unfold OnA aff
  show p.y * invF p.z * (p.y * invF p.z) - p.x * invF p.z * (p.x * invF p.z) = 1 + d * (p.x * invF p.z * (p.y * invF p.z)) * (p.x * invF p.z * (p.y * invF p.z))
  generalize invF p.z = w at hz
  have e1 : p.x * w * (p.y * w) = p.t * w := by
    have : p.x * w * (p.y * w) = (p.x * p.y) * w * w := by grind -lia -linarith (splits := 0)
    rw [this, h2]; grind -lia -linarith (splits := 0)
  rw [e1]
  have e2 : p.y * w * (p.y * w) - p.x * w * (p.x * w) = (p.y * p.y - p.x * p.x) * (w * w) := by grind -lia -linarith (splits := 0)
  rw [e2, h1]
  have e3 : p.z * p.z * (w * w) = 1 := by
    have : p.z * p.z * (w * w) = (p.z * w) * (p.z * w) := by grind -lia -linarith (splits := 0)
    rw [this, hz]; grind -lia -linarith (splits := 0)
  have e4 : (p.z * p.z + d * p.t * p.t) * (w * w) = p.z * p.z * (w * w) + d * (p.t * w) * (p.t * w) := by grind -lia -linarith (splits := 0)
  rw [e4, e3]
/-- The same point. -/
def SameP (p q : P4 Fp) : Prop := p.x * q.z = q.x * p.z ∧ p.y * q.z = q.y * p.z
theorem same_aff {d : Fp} {p q : P4 Fp} (hp : On d p) (hq : On d q) : SameP p q ↔ aff p = aff q := by
  have h1 := invF_mul hp.z
  have h2 := invF_mul hq.z
  have key : ∀ a b : Fp, a * q.z = b * p.z ↔ a * invF p.z = b * invF q.z := fun a b => by
    generalize invF p.z = u at h1
    generalize invF q.z = v at h2
    constructor
    · intro h
      have e1 : a * u = (a * q.z) * (v * u) := by grind -lia -linarith (splits := 0)
      have e2 : b * v = (b * p.z) * (u * v) := by grind -lia -linarith (splits := 0)
      rw [e1, e2, h]; grind -lia -linarith (splits := 0)
    · intro h
      have e1 : a * q.z = (a * u) * (p.z * q.z) := by grind -lia -linarith (splits := 0)
      have e2 : b * p.z = (b * v) * (q.z * p.z) := by grind -lia -linarith (splits := 0)
      rw [e1, e2, h]; grind -lia -linarith (splits := 0)
  unfold SameP aff
  rw [Prod.mk.injEq, key, key]
theorem aff_add {d i : Fp} (h : Crv d i) {p q : P4 Fp} (hp : On d p) (hq : On d q) : aff (addO opsF d p q) = addA d (aff p) (aff q) := by
  have n := fg_ne h hp hq
  have u := invF_mul hp.z
  have v := invF_mul hq.z
  have k1 := hp.k
  have k2 := hq.k
  unfold aff addA
  show ((p.x * q.y + p.y * q.x) * (p.z * q.z - d * p.t * q.t) * invF ((p.z * q.z - d * p.t * q.t) * (p.z * q.z + d * p.t * q.t)), (p.z * q.z + d * p.t * q.t) * (p.y * q.y + p.x * q.x) * invF ((p.z * q.z - d * p.t * q.t) * (p.z * q.z + d * p.t * q.t))) = _
  have w := invF_mul (F_mul_ne n.1 n.2)
  generalize invF ((p.z * q.z - d * p.t * q.t) * (p.z * q.z + d * p.t * q.t)) = w0 at w
  generalize invF p.z = u0 at u
  generalize invF q.z = v0 at v
  have e1 : p.x * u0 * (p.y * u0) = p.t * u0 := by
    have : p.x * u0 * (p.y * u0) = (p.x * p.y) * u0 * u0 := by grind -lia -linarith (splits := 0)
    rw [this, k1]; grind -lia -linarith (splits := 0)
  have e2 : q.x * v0 * (q.y * v0) = q.t * v0 := by
    have : q.x * v0 * (q.y * v0) = (q.x * q.y) * v0 * v0 := by grind -lia -linarith (splits := 0)
    rw [this, k2]; grind -lia -linarith (splits := 0)
  simp only [e1, e2]
  have g1 : (1 + d * (p.t * u0) * (q.t * v0)) * (p.z * q.z) = p.z * q.z + d * p.t * q.t := by
    have : (1 + d * (p.t * u0) * (q.t * v0)) * (p.z * q.z) = p.z * q.z + d * p.t * q.t * ((p.z * u0) * (q.z * v0)) := by grind -lia -linarith (splits := 0)
    rw [this, u, v]; grind -lia -linarith (splits := 0)
  have g2 : (1 - d * (p.t * u0) * (q.t * v0)) * (p.z * q.z) = p.z * q.z - d * p.t * q.t := by
    have : (1 - d * (p.t * u0) * (q.t * v0)) * (p.z * q.z) = p.z * q.z - d * p.t * q.t * ((p.z * u0) * (q.z * v0)) := by grind -lia -linarith (splits := 0)
    rw [this, u, v]; grind -lia -linarith (splits := 0)
  generalize hf : p.z * q.z - d * p.t * q.t = f at n w g2
  generalize hg : p.z * q.z + d * p.t * q.t = g at n w g1
  have n1 : (1 + d * (p.t * u0) * (q.t * v0)) ≠ 0 := fun e => n.2 (by rw [← g1, e]; grind -lia -linarith (splits := 0))
  have n2 : (1 - d * (p.t * u0) * (q.t * v0)) ≠ 0 := fun e => n.1 (by rw [← g2, e]; grind -lia -linarith (splits := 0))
  generalize 1 + d * (p.t * u0) * (q.t * v0) = A at g1 n1
  generalize 1 - d * (p.t * u0) * (q.t * v0) = B at g2 n2
  refine Prod.ext ?_ ?_
  · refine (F_eq_div n1 ?_).symm
    show (p.x * q.y + p.y * q.x) * f * w0 * A = p.x * u0 * (q.y * v0) + p.y * u0 * (q.x * v0)
    have : A = g * (u0 * v0) := by
      have : A = A * (p.z * q.z) * (u0 * v0) := by
        have : A * (p.z * q.z) * (u0 * v0) = A * ((p.z * u0) * (q.z * v0)) := by grind -lia -linarith (splits := 0)
        rw [this, u, v]; grind -lia -linarith (splits := 0)
      rw [this, g1]
    rw [this]
    have : (p.x * q.y + p.y * q.x) * f * w0 * (g * (u0 * v0)) = (p.x * q.y + p.y * q.x) * (f * g * w0) * (u0 * v0) := by grind -lia -linarith (splits := 0)
    rw [this, w]; grind -lia -linarith (splits := 0)
  · refine (F_eq_div n2 ?_).symm
    show g * (p.y * q.y + p.x * q.x) * w0 * B = p.y * u0 * (q.y * v0) + p.x * u0 * (q.x * v0)
    have : B = f * (u0 * v0) := by
      have : B = B * (p.z * q.z) * (u0 * v0) := by
        have : B * (p.z * q.z) * (u0 * v0) = B * ((p.z * u0) * (q.z * v0)) := by grind -lia -linarith (splits := 0)
        rw [this, u, v]; grind -lia -linarith (splits := 0)
      rw [this, g2]
    rw [this]
    have : g * (p.y * q.y + p.x * q.x) * w0 * (f * (u0 * v0)) = (p.y * q.y + p.x * q.x) * (f * g * w0) * (u0 * v0) := by grind -lia -linarith (splits := 0)
    rw [this, w]; grind -lia -linarith (splits := 0)
theorem OnA.add {d i : Fp} (h : Crv d i) {a b : Fp × Fp} (ha : OnA d a) (hb : OnA d b) : OnA d (addA d a b) := by
  have := on_aff (On.add h (on_up ha) (on_up hb))
  rwa [aff_add h (on_up ha) (on_up hb), aff_up, aff_up] at this
theorem assoc_x (d x1 y1 x2 y2 x3 y3 : Fp)
  (h1 : y1*y1 - x1*x1 = 1 + d*x1*x1*y1*y1) (h2 : y2*y2 - x2*x2 = 1 + d*x2*x2*y2*y2) (h3 : y3*y3 - x3*x3 = 1 + d*x3*x3*y3*y3)
  (xa ya za ta xb yb zb tb : Fp)
  (a1 : xa = (x1*y2+y1*x2)*(1 - d*(x1*y1)*(x2*y2))) (a2 : ya = (1 + d*(x1*y1)*(x2*y2))*(y1*y2+x1*x2)) (a3 : za = (1 - d*(x1*y1)*(x2*y2))*(1 + d*(x1*y1)*(x2*y2))) (a4 : ta = (x1*y2+y1*x2)*(y1*y2+x1*x2))
  (b1 : xb = (x2*y3+y2*x3)*(1 - d*(x2*y2)*(x3*y3))) (b2 : yb = (1 + d*(x2*y2)*(x3*y3))*(y2*y3+x2*x3)) (b3 : zb = (1 - d*(x2*y2)*(x3*y3))*(1 + d*(x2*y2)*(x3*y3))) (b4 : tb = (x2*y3+y2*x3)*(y2*y3+x2*x3)) :
  (xa*y3+ya*x3)*(zb + d*(x1*y1)*tb) = (x1*yb + y1*xb)*(za + d*ta*(x3*y3)) := by
  subst_vars; grind -lia -linarith (splits := 0)
theorem assoc_y (d x1 y1 x2 y2 x3 y3 : Fp)
  (h1 : y1*y1 - x1*x1 = 1 + d*x1*x1*y1*y1) (h2 : y2*y2 - x2*x2 = 1 + d*x2*x2*y2*y2) (h3 : y3*y3 - x3*x3 = 1 + d*x3*x3*y3*y3)
  (xa ya za ta xb yb zb tb : Fp)
  (a1 : xa = (x1*y2+y1*x2)*(1 - d*(x1*y1)*(x2*y2))) (a2 : ya = (1 + d*(x1*y1)*(x2*y2))*(y1*y2+x1*x2)) (a3 : za = (1 - d*(x1*y1)*(x2*y2))*(1 + d*(x1*y1)*(x2*y2))) (a4 : ta = (x1*y2+y1*x2)*(y1*y2+x1*x2))
  (b1 : xb = (x2*y3+y2*x3)*(1 - d*(x2*y2)*(x3*y3))) (b2 : yb = (1 + d*(x2*y2)*(x3*y3))*(y2*y3+x2*x3)) (b3 : zb = (1 - d*(x2*y2)*(x3*y3))*(1 + d*(x2*y2)*(x3*y3))) (b4 : tb = (x2*y3+y2*x3)*(y2*y3+x2*x3)) :
  (ya*y3+xa*x3)*(zb - d*(x1*y1)*tb) = (y1*yb + x1*xb)*(za - d*ta*(x3*y3)) := by
  subst_vars; grind -lia -linarith (splits := 0)
theorem onA_form {d : Fp} {a : Fp × Fp} (h : OnA d a) : a.2 * a.2 - a.1 * a.1 = 1 + d * a.1 * a.1 * a.2 * a.2 := by
  unfold OnA at h
  rw [h]; grind -lia -linarith (splits := 0)
theorem addA_assoc {d i : Fp} (h : Crv d i) {a b c : Fp × Fp} (ha : OnA d a) (hb : OnA d b) (hc : OnA d c) : addA d (addA d a b) c = addA d a (addA d b c) := by
  have pa := on_up ha
  have pb := on_up hb
  have pc := on_up hc
  have e1 : aff (addO opsF d (addO opsF d (up a) (up b)) (up c)) = addA d (addA d a b) c := by
    rw [aff_add h (On.add h pa pb) pc, aff_add h pa pb, aff_up, aff_up, aff_up]
  have e2 : aff (addO opsF d (up a) (addO opsF d (up b) (up c))) = addA d a (addA d b c) := by
    rw [aff_add h pa (On.add h pb pc), aff_add h pb pc, aff_up, aff_up, aff_up]
  rw [← e1, ← e2]
  refine (same_aff (On.add h (On.add h pa pb) pc) (On.add h pa (On.add h pb pc))).1 ?_
  have f1 := onA_form ha
  have f2 := onA_form hb
  have f3 := onA_form hc
  have one : (1 : Fp) * 1 = 1 := by grind -lia -linarith (splits := 0)
  have k1 := assoc_x d a.1 a.2 b.1 b.2 c.1 c.2 f1 f2 f3 _ _ _ _ _ _ _ _ rfl rfl rfl rfl rfl rfl rfl rfl
  have k2 := assoc_y d a.1 a.2 b.1 b.2 c.1 c.2 f1 f2 f3 _ _ _ _ _ _ _ _ rfl rfl rfl rfl rfl rfl rfl rfl
  unfold SameP addO up opsF
  simp only [one]
  generalize (a.1 * b.2 + a.2 * b.1) * (1 - d * (a.1 * a.2) * (b.1 * b.2)) = xa at k1 k2 ⊢
  generalize (1 + d * (a.1 * a.2) * (b.1 * b.2)) * (a.2 * b.2 + a.1 * b.1) = ya at k1 k2 ⊢
  generalize (1 - d * (a.1 * a.2) * (b.1 * b.2)) * (1 + d * (a.1 * a.2) * (b.1 * b.2)) = za at k1 k2 ⊢
  generalize (a.1 * b.2 + a.2 * b.1) * (a.2 * b.2 + a.1 * b.1) = ta at k1 k2 ⊢
  generalize (b.1 * c.2 + b.2 * c.1) * (1 - d * (b.1 * b.2) * (c.1 * c.2)) = xb at k1 k2 ⊢
  generalize (1 + d * (b.1 * b.2) * (c.1 * c.2)) * (b.2 * c.2 + b.1 * c.1) = yb at k1 k2 ⊢
  generalize (1 - d * (b.1 * b.2) * (c.1 * c.2)) * (1 + d * (b.1 * b.2) * (c.1 * c.2)) = zb at k1 k2 ⊢
  generalize (b.1 * c.2 + b.2 * c.1) * (b.2 * c.2 + b.1 * c.1) = tb at k1 k2 ⊢
  have z1 : za * 1 = za := by grind -lia -linarith (splits := 0)
  have z2 : 1 * zb = zb := by grind -lia -linarith (splits := 0)
  simp only [z1, z2]
  have z3 : d * ta * (c.1 * c.2) = d * ta * (c.1 * c.2) := rfl
  generalize hL : xa * c.2 + ya * c.1 = L at k1 ⊢
  generalize hM : ya * c.2 + xa * c.1 = M at k2 ⊢
  generalize hN : a.1 * yb + a.2 * xb = N at k1 ⊢
  generalize hO : a.2 * yb + a.1 * xb = O at k2 ⊢
  generalize hg1 : za + d * ta * (c.1 * c.2) = g1 at k1 ⊢
  generalize hf1 : za - d * ta * (c.1 * c.2) = f1' at k2 ⊢
  generalize hg2 : zb + d * (a.1 * a.2) * tb = g2 at k1 ⊢
  generalize hf2 : zb - d * (a.1 * a.2) * tb = f2' at k2 ⊢
  constructor
  · have e : L * f1' * (f2' * g2) = (L * g2) * (f1' * f2') := by grind -lia -linarith (splits := 0)
    rw [e, k1]; grind -lia -linarith (splits := 0)
  · have e : g1 * M * (f2' * g2) = (M * f2') * (g1 * g2) := by grind -lia -linarith (splits := 0)
    rw [e, k2]; grind -lia -linarith (splits := 0)
theorem addA_comm (d : Fp) (a b : Fp × Fp) : addA d a b = addA d b a := by
  unfold addA
  have e1 : a.1 * b.2 + a.2 * b.1 = b.1 * a.2 + b.2 * a.1 := by grind -lia -linarith (splits := 0)
  have e2 : a.2 * b.2 + a.1 * b.1 = b.2 * a.2 + b.1 * a.1 := by grind -lia -linarith (splits := 0)
  have e3 : d * (a.1 * a.2) * (b.1 * b.2) = d * (b.1 * b.2) * (a.1 * a.2) := by grind -lia -linarith (splits := 0)
  rw [e1, e2, e3]
def zeroA : Fp × Fp := (0, 1)
theorem OnA.zero (d : Fp) : OnA d zeroA := by
  show (1 : Fp) * 1 - 0 * 0 = 1 + d * (0 * 1) * (0 * 1)
  grind -lia -linarith (splits := 0)
theorem addA_zero (d : Fp) (a : Fp × Fp) : addA d a zeroA = a := by
  unfold addA zeroA
  have e : invF (1 : Fp) = 1 := by have := invF_mul F_one; grind -lia -linarith (splits := 0)
  have e1 : (1 : Fp) + d * (a.1 * a.2) * (0 * 1) = 1 := lit2 1 d _ 0 rfl
  have e2 : (1 : Fp) - d * (a.1 * a.2) * (0 * 1) = 1 := lit3 1 d _ 0 rfl
  simp only [e1, e2, e]
  exact Prod.ext (lit4 a.1 a.2 1 0 rfl rfl) (lit4 a.2 a.1 1 0 rfl rfl)
def negA (a : Fp × Fp) : Fp × Fp := (-a.1, a.2)
theorem OnA.neg {d : Fp} {a : Fp × Fp} (h : OnA d a) : OnA d (negA a) := by
  unfold OnA negA at *
  simp only
  grind -lia -linarith (splits := 0)
theorem addA_neg {d i : Fp} (h : Crv d i) {a : Fp × Fp} (ha : OnA d a) : addA d a (negA a) = zeroA := by
  have n := fg_ne h (on_up ha) (on_up ha.neg)
  have n1 : (1 : Fp) * 1 - d * (a.1 * a.2) * (-a.1 * a.2) ≠ 0 := n.1
  have n2 : 1 - d * (a.1 * a.2) * (-a.1 * a.2) ≠ 0 := fun e => n1 (by rw [← e]; grind -lia -linarith (splits := 0))
  have hi := invF_mul n2
  unfold OnA at ha
  unfold addA negA zeroA
  refine Prod.ext ?_ ?_
  · show (a.1 * a.2 + a.2 * -a.1) * _ = 0
    have : a.1 * a.2 + a.2 * -a.1 = 0 := by grind -lia -linarith (splits := 0)
    rw [this]; grind -lia -linarith (splits := 0)
  · show (a.2 * a.2 + a.1 * -a.1) * invF (1 - d * (a.1 * a.2) * (-a.1 * a.2)) = 1
    refine F_eq_div n2 ?_
    have : a.2 * a.2 + a.1 * -a.1 = a.2 * a.2 - a.1 * a.1 := by grind -lia -linarith (splits := 0)
    rw [this, ha]; grind -lia -linarith (splits := 0)
theorem aff_neg (p : P4 Fp) : aff (negO (fun a => -a) p) = negA (aff p) := by
  unfold aff negO negA
  exact Prod.ext (by show -p.x * invF p.z = -(p.x * invF p.z); grind -lia -linarith (splits := 0)) rfl
theorem aff_zero : aff zero4 = zeroA := by
  have e : invF (1 : Fp) = 1 := by have := invF_mul F_one; grind -lia -linarith (splits := 0)
  unfold aff zero4 zeroA
  simp only [e]
  exact Prod.ext (by show (0 : Fp) * 1 = 0; grind -lia -linarith (splits := 0)) (by show (1 : Fp) * 1 = 1; grind -lia -linarith (splits := 0))
/-! ### multiples -/
noncomputable def mulA (d : Fp) (a : Fp × Fp) : Nat → Fp × Fp
  | 0 => zeroA
  | n + 1 => addA d (mulA d a n) a
theorem OnA.mul {d i : Fp} (h : Crv d i) {a : Fp × Fp} (ha : OnA d a) : ∀ n, OnA d (mulA d a n)
  | 0 => OnA.zero d
  | n + 1 => OnA.add h (OnA.mul h ha n) ha
theorem zero_addA (d : Fp) (a : Fp × Fp) : addA d zeroA a = a := by rw [addA_comm, addA_zero]
theorem mulA_add {d i : Fp} (h : Crv d i) {a : Fp × Fp} (ha : OnA d a) (m : Nat) : ∀ n, mulA d a (m + n) = addA d (mulA d a m) (mulA d a n)
  | 0 => (addA_zero d _).symm
  | n + 1 => by
    show addA d (mulA d a (m + n)) a = addA d (mulA d a m) (addA d (mulA d a n) a)
    rw [mulA_add h ha m n, addA_assoc h (OnA.mul h ha m) (OnA.mul h ha n) ha]
theorem mulA_mul {d i : Fp} (h : Crv d i) {a : Fp × Fp} (ha : OnA d a) (m : Nat) : ∀ n, mulA d a (m * n) = mulA d (mulA d a m) n
  | 0 => rfl
  | n + 1 => by
    rw [Nat.mul_succ, mulA_add h ha, mulA_mul h ha m n]; rfl
theorem mulA_zero (d : Fp) : ∀ n, mulA d zeroA n = zeroA
  | 0 => rfl
  | n + 1 => by show addA d (mulA d zeroA n) zeroA = zeroA; rw [addA_zero, mulA_zero d n]
theorem mulA_mod {d i : Fp} (h : Crv d i) {a : Fp × Fp} (ha : OnA d a) {l : Nat} (hl : mulA d a l = zeroA) (n : Nat) : mulA d a (n % l) = mulA d a n := by
  conv => rhs; rw [← Nat.div_add_mod n l]
  rw [mulA_add h ha, mulA_mul h ha, hl, mulA_zero, zero_addA]
theorem mulA_one (d : Fp) (a : Fp × Fp) : mulA d a 1 = a := zero_addA d a
end Go.Num

/- Keys: what is known of some; which are the same. -/
namespace Go.Num
set_option linter.unusedVariables false
set_option linter.unusedSimpArgs false
open Go Go.Eng
set_option maxRecDepth 100000
def zero32 : List UInt8 := List.replicate 32 0
def nine32 : List UInt8 := 9 :: List.replicate 31 0
def aliA : List UInt8 := List.replicate 31 0 ++ [97]
def aliB : List UInt8 := List.replicate 31 0 ++ [98]
def p255 : Nat := 57896044618658097711785492504343953926634992332820282019728792003956564819968
theorem all8 {f : UInt8 → Bool} (h : ((List.range 256).all fun n => f (UInt8.ofNat n)) = true) (x : UInt8) : f x = true := by
  have := List.all_eq_true.1 h x.toNat (List.mem_range.2 x.toNat_lt)
  rwa [UInt8.ofNat_toNat] at this
theorem leNat_app2 : ∀ (a b : List UInt8), leNat (a ++ b) = leNat a + 256 ^ a.length * leNat b
  | [], b => by simp [leNat]
  | x :: a, b => by
    have := leNat_app2 a b
    simp only [List.cons_append, leNat, this, List.length_cons, Nat.pow_succ]
    rw [Nat.mul_add]
    have : 256 * (256 ^ a.length * leNat b) = 256 ^ a.length * 256 * leNat b := by rw [← Nat.mul_assoc, Nat.mul_comm 256]
    omega
theorem leNat_bound : ∀ (a : List UInt8), leNat a < 256 ^ a.length
  | [] => by simp [leNat]
  | x :: a => by
    have := leNat_bound a
    have hx := x.toNat_lt
    simp only [leNat, List.length_cons, Nat.pow_succ]
    omega
theorem and127 (x : UInt8) : (x &&& 127).toNat = x.toNat % 128 := by
  rw [UInt8.toNat_and]
  exact Nat.and_two_pow_sub_one_eq_mod x.toNat 7
theorem topL_val {u : List UInt8} (h : isLen u 32 = true) : leNat (topL u) = leNat u % p255 := by
  rw [isLen_eq] at h
  have e : u = u.take 31 ++ [u.getD 31 0] := by
    have h1 : u.drop 31 = [u.getD 31 0] := by
      rw [List.drop_eq_getElem_cons (by omega), List.drop_of_length_le (by omega)]
      rw [List.getD_eq_getElem?_getD, List.getElem?_eq_getElem (by omega)]; rfl
    rw [← h1, List.take_append_drop]
  have hl : (u.take 31).length = 31 := by rw [List.length_take]; omega
  have e2 : topL u = u.take 31 ++ [u.getD 31 0 &&& 127] := by
    unfold topL
    apply List.ext_getElem?
    intro i
    rw [List.getElem?_set]
    by_cases h1 : 31 = i
    · subst h1
      rw [if_pos rfl, if_pos (by omega), List.getElem?_append_right (by omega), hl]; rfl
    · rw [if_neg h1]
      by_cases h2 : i < 31
      · rw [List.getElem?_append_left (by omega), List.getElem?_take_of_lt h2]
      · rw [List.getElem?_eq_none (by omega), List.getElem?_eq_none (by rw [List.length_append, hl]; show 31 + 1 ≤ i; omega)]
  have hb := leNat_bound (u.take 31)
  rw [hl] at hb
  generalize hx : u.getD 31 0 = x at e e2
  rw [e2]
  conv => rhs; rw [e]
  rw [leNat_app2, leNat_app2, hl]
  have hx2 := x.toNat_lt
  have s1 : ∀ y : UInt8, leNat [y] = y.toNat := fun y => by simp [leNat]
  rw [s1, s1, and127]
  unfold p255
  simp only [Nat.reducePow] at hb ⊢
  omega
theorem ladE_nat (k : List UInt8) {u : List UInt8} (h : isLen u 32 = true) : leNat (ladE k u) = quotM (ladM k (leNat u % p255 % Pq)) := by
  rw [ladE_val, ofEl_val (topL_len h), topL_val h]
theorem ladE_is (k : List UInt8) {u : List UInt8} (h : isLen u 32 = true) {n m : Nat} (hn : leNat u = n) (hlt : n < Pq) (hm : quotM (ladM k n) = m) : leNat (ladE k u) = m := by
  rw [ladE_nat k h, hn]
  have hp : Pq < p255 := by decide
  rw [Nat.mod_eq_of_lt (show n < p255 by omega), Nat.mod_eq_of_lt hlt, hm]
theorem isLen_lad (k u : List UInt8) : isLen (ladE k u) 32 = true := isLen_eq.2 (ladE_len k u)
/-! ### known keys -/
theorem qA9 : quotM (ladM aliA 9) = 16572691432107831290236438983220704641597839740724002177525024145463529258009 := by kernel_rfl
theorem qB9 : quotM (ladM aliB 9) = 3873599628253772194686510826457445042224408612751331329672488392857300769615 := by kernel_rfl
theorem qAq : quotM (ladM aliA 3873599628253772194686510826457445042224408612751331329672488392857300769615) = 45863505615179444264250632754092809270636439140959747961807530266934234225689 := by kernel_rfl
theorem qBp : quotM (ladM aliB 16572691432107831290236438983220704641597839740724002177525024145463529258009) = 45863505615179444264250632754092809270636439140959747961807530266934234225689 := by kernel_rfl
theorem qA0 : quotM (ladM aliA 0) = 0 := by kernel_rfl
theorem nine_val : leNat nine32 = 9 := by decide
theorem zero_val32 : leNat zero32 = 0 := by decide
theorem pubA : leNat (ladE aliA nine32) = 16572691432107831290236438983220704641597839740724002177525024145463529258009 := ladE_is aliA (u := nine32) rfl nine_val (by decide) qA9
theorem pubB : leNat (ladE aliB nine32) = 3873599628253772194686510826457445042224408612751331329672488392857300769615 := ladE_is aliB (u := nine32) rfl nine_val (by decide) qB9
theorem shAB : leNat (ladE aliA (ladE aliB nine32)) = 45863505615179444264250632754092809270636439140959747961807530266934234225689 := ladE_is aliA (isLen_lad _ _) pubB (by decide) qAq
theorem shBA : leNat (ladE aliB (ladE aliA nine32)) = 45863505615179444264250632754092809270636439140959747961807530266934234225689 := ladE_is aliB (isLen_lad _ _) pubA (by decide) qBp
theorem shA0 : ladE aliA zero32 = zero32 := leNat_inj (by rw [ladE_len]; rfl) (by rw [ladE_is aliA (u := zero32) rfl zero_val32 (by decide) qA0, zero_val32])
theorem sh_same : ladE aliA (ladE aliB nine32) = ladE aliB (ladE aliA nine32) := leNat_inj (by rw [ladE_len, ladE_len]) (by rw [shAB, shBA])
theorem ne_zero32 {u : List UInt8} {n : Nat} (h : leNat u = n) (hn : n ≠ 0) : (u == zero32) = false := by
  rw [beq_eq_false_iff_ne]
  intro e
  rw [e, zero_val32] at h
  exact hn h.symm
/-! ### the same keys -/
theorem xor128 (x : UInt8) : (x ^^^ 128) &&& 127 = x &&& 127 := by
  have := all8 (f := fun x => (((x ^^^ 128) &&& 127) == (x &&& 127))) (by kernel_rfl) x
  exact eq_of_beq this
theorem and127_twice (x : UInt8) : (x &&& 127) &&& 127 = x &&& 127 := by
  have := all8 (f := fun x => (((x &&& 127) &&& 127) == (x &&& 127))) (by kernel_rfl) x
  exact eq_of_beq this
theorem clamp0 (x b : UInt8) : (x ^^^ (b &&& 7)) &&& 248 = x &&& 248 := by
  have h : ((List.range 8).any fun n => (b &&& 7) == UInt8.ofNat n) = true := all8 (f := fun b => (List.range 8).any fun n => (b &&& 7) == UInt8.ofNat n) (by kernel_rfl) b
  obtain ⟨n, hn, e⟩ := List.any_eq_true.1 h
  rw [eq_of_beq e]
  have k : ((List.range 8).all fun n => (List.range 256).all fun m => (((UInt8.ofNat m ^^^ UInt8.ofNat n) &&& 248) == (UInt8.ofNat m &&& 248))) = true := by kernel_rfl
  have k2 := List.all_eq_true.1 k n hn
  exact eq_of_beq (all8 (f := fun x => (((x ^^^ UInt8.ofNat n) &&& 248) == (x &&& 248))) k2 x)
theorem clamp31 (x b : UInt8) : ((x ^^^ (b &&& 192)) &&& 127) ||| 64 = (x &&& 127) ||| 64 := by
  have h : (b &&& 192 == 0 || (b &&& 192 == 64 || (b &&& 192 == 128 || b &&& 192 == 192))) = true := all8 (f := fun b => (b &&& 192 == 0 || (b &&& 192 == 64 || (b &&& 192 == 128 || b &&& 192 == 192)))) (by kernel_rfl) b
  simp only [Bool.or_eq_true, beq_iff_eq] at h
  have k : ∀ c : UInt8, ((List.range 256).all fun n => (((UInt8.ofNat n ^^^ c) &&& 127 ||| 64) == (UInt8.ofNat n &&& 127 ||| 64))) = true → ((x ^^^ c) &&& 127 ||| 64) = (x &&& 127 ||| 64) := fun c hc => eq_of_beq (all8 (f := fun x => (((x ^^^ c) &&& 127 ||| 64) == (x &&& 127 ||| 64))) hc x)
  rcases h with h | h | h | h <;> rw [h]
  · exact k 0 (by kernel_rfl)
  · exact k 64 (by kernel_rfl)
  · exact k 128 (by kernel_rfl)
  · exact k 192 (by kernel_rfl)
theorem lad_clamp {k l : List UInt8} (h : clampL k = clampL l) (u : List UInt8) : ladE k u = ladE l u := by
  unfold ladE ladF
  rw [h]
theorem lad_top (k : List UInt8) {u v : List UInt8} (h : topL u = topL v) : ladE k u = ladE k v := ladE_congr k (by rw [h])
theorem lad_canon (k : List UInt8) {u : List UInt8} (h : isLen u 32 = true) (ht : topL u = u) : ladE k (bytesN (ofP u)) = ladE k u := by
  refine ladE_congr k ?_
  have r := rel_of h
  have hl : isLen (bytesN (ofP u)) 32 = true := isLen_eq.2 (bytesN_len _)
  have hv := bytesN_val (ofP u) r.okP
  have hlt := r.lt
  rw [ofEl_val (topL_len hl), topL_val hl, hv, ht]
  have hp : Pq < p255 := by decide
  rw [Nat.mod_eq_of_lt (show (ofP u).val < p255 by omega), ← r.val, Nat.mod_eq_of_lt hlt]
end Go.Num

/- Both sides' numbers modulo the order are the same; the ring's laws. -/
namespace Go.Num
set_option linter.unusedVariables false
set_option linter.unusedSimpArgs false
open Go Go.Eng
def eqL : List UInt64 → List UInt64 → Bool
  | x :: l, y :: m => (x == y) && eqL l m
  | _, _ => true
def sameN (a b : N16) : Bool := eqL a.list b.list
theorem eqL_eq : ∀ (l m : List UInt64), l.length = m.length → eqL l m = decide (l = m)
  | [], [], _ => rfl
  | [], _ :: _, h => by cases h
  | _ :: _, [], h => by cases h
  | x :: l, y :: m, h => by
    rw [Bool.eq_iff_iff]
    simp [eqL, eqL_eq l m (by simpa using h)]
theorem sameN_eq (a b : N16) : sameN a b = decide (a = b) := by
  unfold sameN
  rw [eqL_eq a.list b.list rfl, decide_eq_decide]
  exact ⟨fun h => by rw [← ofL_list a, ← ofL_list b, h], fun h => by rw [h]⟩
theorem oE_ok (s : List UInt8) : (oE s == 0) = okL s := by
  unfold oE
  cases okL s <;> rfl
theorem oV_ok {s : List UInt8} (h : okL s = true) : oV s = ofW s := by unfold oV; rw [h]; rfl
theorem okL_len {s : List UInt8} (h : okL s = true) : s.length = 32 ∨ s.length = 64 := by
  rw [okL_eq, Bool.or_eq_true, isLen_eq, isLen_eq] at h; exact h
theorem okL_ble {s : List UInt8} (h : okL s = true) : Nat.ble s.length 100000 = true := by
  rcases okL_len h with h | h <;> rw [h] <;> rfl
theorem of_same (s : List UInt8) : (ofW s).val = (ofN s).val := by rw [ofW_val, (ofN_val s).2]
theorem is_of (s : List UInt8) : bytesW (ofW s) = bytesN (ofN s) := same_bytes (ofN_val s).1 (of_same s)
theorem is_add (s t : List UInt8) : bytesW (addW (ofW s) (ofW t)) = bytesN (addN (ofN s) (ofN t)) := by
  obtain ⟨o, e⟩ := addN_val _ _ (ofN_val s).1 (ofN_val t).1
  refine same_bytes o ?_
  rw [e, addW_val _ _ (ofW_lt s) (ofW_lt t), of_same, of_same]
theorem is_mul (s t : List UInt8) : bytesW (mulW (ofW s) (ofW t)) = bytesN (mulN (ofN s) (ofN t)) := by
  obtain ⟨o, e⟩ := mulN_val _ _ (ofN_val s).1 (ofN_val t).1
  refine same_bytes o ?_
  rw [e, mulW_val, of_same, of_same]
theorem is_neg (s : List UInt8) : bytesW (negW (ofW s)) = bytesN (negN (ofN s)) := by
  obtain ⟨o, e⟩ := negN_val _ (ofN_val s).1 (ofN_lt s)
  refine same_bytes o ?_
  rw [e, negW_val _ (ofW_lt s), of_same]
theorem same_same (s t : List UInt8) : sameW (ofW s) (ofW t) = sameN (ofN s) (ofN t) := by
  rw [sameW_eq, sameN_eq, decide_eq_decide]
  exact ⟨fun h => N16.ext_val (ofN_val s).1 (ofN_val t).1 (by rw [← of_same, ← of_same, h]), fun h => W4.ext_val (by rw [of_same, of_same, h])⟩
theorem canon_same (s : List UInt8) : canonW s = canonN s := by
  unfold canonW
  rw [canonN_eq, oE_ok, okL_eq]
  cases h : isLen s 32
  · cases h2 : isLen s 64
    · rfl
    · have hl := isLen_eq.1 h2
      rw [Bool.or_true, Bool.true_and, Bool.false_and, beq_eq_false_iff_ne, ne_eq]
      intro e
      have := congrArg List.length e
      rw [bytesW_len, hl] at this
      omega
  · have hl := isLen_eq.1 h
    have hk : okL s = true := by rw [okL_eq, h]; rfl
    rw [Bool.true_or, Bool.true_and, Bool.true_and, oV_ok hk, Bool.eq_iff_iff, beq_iff_eq, decide_eq_true_iff]
    constructor
    · intro e
      have h1 := bytesW_val (ofW s)
      rw [e] at h1
      have := ofW_lt s
      omega
    · intro hlt
      refine leNat_inj (by rw [bytesW_len, hl]) ?_
      rw [bytesW_val, ofW_val, Nat.mod_eq_of_lt hlt]
/-! ### the ring -/
theorem ofW_of {a : W4} (h : a.val < Lq) : ofW (bytesW a) = a := W4.ext_val (by rw [ofW_val, bytesW_val, Nat.mod_eq_of_lt h])
theorem addW_lt {a b : W4} (ha : a.val < Lq) (hb : b.val < Lq) : (addW a b).val < Lq := by rw [addW_val a b ha hb]; exact Nat.mod_lt _ Lq_pos
theorem mulW_lt (a b : W4) : (mulW a b).val < Lq := by rw [mulW_val]; exact Nat.mod_lt _ Lq_pos
theorem negW_lt {a : W4} (ha : a.val < Lq) : (negW a).val < Lq := by rw [negW_val a ha]; exact Nat.mod_lt _ Lq_pos
theorem addW_comm {a b : W4} (ha : a.val < Lq) (hb : b.val < Lq) : addW a b = addW b a := W4.ext_val (by rw [addW_val a b ha hb, addW_val b a hb ha, Nat.add_comm])
theorem mulW_comm (a b : W4) : mulW a b = mulW b a := W4.ext_val (by rw [mulW_val, mulW_val, Nat.mul_comm])
theorem addW_assoc {a b c : W4} (ha : a.val < Lq) (hb : b.val < Lq) (hc : c.val < Lq) : addW (addW a b) c = addW a (addW b c) :=
  W4.ext_val (by rw [addW_val _ c (addW_lt ha hb) hc, addW_val a _ ha (addW_lt hb hc), addW_val a b ha hb, addW_val b c hb hc, Nat.mod_add_mod, Nat.add_mod_mod, Nat.add_assoc])
theorem mulW_assoc (a b c : W4) : mulW (mulW a b) c = mulW a (mulW b c) :=
  W4.ext_val (by
    rw [mulW_val, mulW_val, mulW_val, mulW_val, Nat.mod_mul_mod, Nat.mul_mod_mod, Nat.mul_assoc])
theorem mulW_add {a b c : W4} (hb : b.val < Lq) (hc : c.val < Lq) : mulW a (addW b c) = addW (mulW a b) (mulW a c) :=
  W4.ext_val (by
    rw [mulW_val, addW_val b c hb hc, addW_val _ _ (mulW_lt a b) (mulW_lt a c), mulW_val, mulW_val, Nat.mul_mod_mod, Nat.mul_add, Nat.mod_add_mod, Nat.add_mod_mod])
theorem addW_neg {a : W4} (ha : a.val < Lq) : addW a (negW a) = zeroW :=
  W4.ext_val (by
    rw [addW_val a _ ha (negW_lt ha), negW_val a ha, Nat.add_mod_mod]
    have : a.val + (Lq - a.val) = Lq := by omega
    rw [this, Nat.mod_self]; rfl)
theorem canon_bytes {a : W4} (ha : a.val < Lq) : canonW (bytesW a) = true := by
  have hk : okL (bytesW a) = true := by rw [okL_eq, isLen_eq.2 (bytesW_len a)]; rfl
  unfold canonW
  rw [oE_ok, hk, oV_ok hk, ofW_of ha]
  simp
end Go.Num
namespace Go.Num
set_option linter.unusedVariables false
set_option linter.unusedSimpArgs false
def z32 : List UInt8 := List.replicate 32 0
end Go.Num

/- Points: what the program and the document reckon, over whatever functions the numbers have. -/
namespace Go.Num
set_option linter.unusedVariables false
set_option linter.unusedSimpArgs false
open Go Go.Eng
set_option maxRecDepth 100000
structure Fe where
  add : E5 → E5 → E5
  sub : E5 → E5 → E5
  mul : E5 → E5 → E5
  neg : E5 → E5
  inv : E5 → E5
  same : E5 → E5 → Bool
  odd : E5 → Bool
  small : UInt32 → E5
  root : E5 → E5
  has : E5 → Bool
  of : List UInt8 → E5
  ofR : List UInt8 → Int
  canon : List UInt8 → Bool
  byE : E5 → Nat → UInt8
  addN : N16 → N16 → N16
  subN : N16 → N16 → N16
  mulN : N16 → N16 → N16
  negN : N16 → N16
  invN : N16 → N16
  rootN : N16 → N16
  hasN : N16 → Bool
  smallN : UInt32 → N16
  ofN : List UInt8 → N16
  canonN : List UInt8 → Bool
  byN : N16 → Nat → UInt8
  ok : N16 → Bool
  l32 : List UInt8 → Bool
  sby : W4 → Nat → UInt8
def realFe : Fe := ⟨addE, subE, mulE, negE, invE, sameE, oddE, smallE, rootE, hasE, ofEl, ofEr, canonE, fun a i => byteE (reducedE a) i, addP, subP, mulP, negP, invP, rootP, hasP, smallN, ofP, canonP, fun a i => (shr_u64 (a.list.getD (i / 2) 0) (i % 2 * 8)).toUInt8, okB, fun s => isLen s 32, fun a i => (shr_u64 (wordAt a (i / 8)) (i % 8 * 8)).toUInt8⟩
def opsφ (φ : Fe) : Ops E5 := ⟨φ.add, φ.sub, φ.mul, φ.small, zeroE⟩
def opsφN (φ : Fe) : Ops N16 := ⟨φ.addN, φ.subN, φ.mulN, φ.smallN, zeroN⟩
def dBytes : List UInt8 := [0xa3, 0x78, 0x59, 0x13, 0xca, 0x4d, 0xeb, 0x75, 0xab, 0xd8, 0x41, 0x41, 0x4d, 0x0a, 0x70, 0x00, 0x98, 0xe8, 0x79, 0x77, 0x79, 0x40, 0xc7, 0x8c, 0x73, 0xfe, 0x6f, 0x2b, 0xee, 0x6c, 0x03, 0x52]
def pCells (p : P4 E5) : List AVal := [.u64 p.x.x0, .u64 p.x.x1, .u64 p.x.x2, .u64 p.x.x3, .u64 p.x.x4, .u64 p.y.x0, .u64 p.y.x1, .u64 p.y.x2, .u64 p.y.x3, .u64 p.y.x4, .u64 p.z.x0, .u64 p.z.x1, .u64 p.z.x2, .u64 p.z.x3, .u64 p.z.x4, .u64 p.t.x0, .u64 p.t.x1, .u64 p.t.x2, .u64 p.t.x3, .u64 p.t.x4]
def qCells (p : P4 N16) : List AVal := [.u64 p.x.x0, .u64 p.x.x1, .u64 p.x.x2, .u64 p.x.x3, .u64 p.x.x4, .u64 p.x.x5, .u64 p.x.x6, .u64 p.x.x7, .u64 p.x.x8, .u64 p.x.x9, .u64 p.x.x10, .u64 p.x.x11, .u64 p.x.x12, .u64 p.x.x13, .u64 p.x.x14, .u64 p.x.x15, .u64 p.y.x0, .u64 p.y.x1, .u64 p.y.x2, .u64 p.y.x3, .u64 p.y.x4, .u64 p.y.x5, .u64 p.y.x6, .u64 p.y.x7, .u64 p.y.x8, .u64 p.y.x9, .u64 p.y.x10, .u64 p.y.x11, .u64 p.y.x12, .u64 p.y.x13, .u64 p.y.x14, .u64 p.y.x15, .u64 p.z.x0, .u64 p.z.x1, .u64 p.z.x2, .u64 p.z.x3, .u64 p.z.x4, .u64 p.z.x5, .u64 p.z.x6, .u64 p.z.x7, .u64 p.z.x8, .u64 p.z.x9, .u64 p.z.x10, .u64 p.z.x11, .u64 p.z.x12, .u64 p.z.x13, .u64 p.z.x14, .u64 p.z.x15, .u64 p.t.x0, .u64 p.t.x1, .u64 p.t.x2, .u64 p.t.x3, .u64 p.t.x4, .u64 p.t.x5, .u64 p.t.x6, .u64 p.t.x7, .u64 p.t.x8, .u64 p.t.x9, .u64 p.t.x10, .u64 p.t.x11, .u64 p.t.x12, .u64 p.t.x13, .u64 p.t.x14, .u64 p.t.x15]
def pAv (p : P4 E5) : AVal := .agg (pCells p)
def qAv (p : P4 N16) : AVal := .agg (qCells p)
/-! ### the program's -/
section
variable (φ : Fe)
def emptyE : P4 E5 := ⟨zeroE, zeroE, zeroE, zeroE⟩
def zeroφ : P4 E5 := ⟨zeroE, φ.small 1, φ.small 1, zeroE⟩
def noneφ (p : P4 E5) : Bool := φ.same p.z zeroE
def curveφ : E5 := φ.of dBytes
def addφ (p q : P4 E5) : P4 E5 := cond (noneφ φ p) emptyE (cond (noneφ φ q) emptyE (addO (opsφ φ) (curveφ φ) p q))
def negφ (p : P4 E5) : P4 E5 := cond (noneφ φ p) emptyE (negO φ.neg p)
def sameφ (p q : P4 E5) : Bool := cond (noneφ φ p) false (cond (noneφ φ q) false (cond (φ.same (φ.mul p.x q.z) (φ.mul q.x p.z)) (φ.same (φ.mul p.y q.z) (φ.mul q.y p.z)) false))
def smallφ (p : P4 E5) : Bool := sameφ φ (addφ φ (addφ φ (addφ φ p p) (addφ φ p p)) (addφ φ (addφ φ p p) (addφ φ p p))) (zeroφ φ)
def byLφ (a : E5) : List UInt8 := (List.range 32).map (φ.byE a)
def top128 (l : List UInt8) : List UInt8 := l.set 31 (l.getD 31 0 ||| 128)
def bytesφ (p : P4 E5) : List UInt8 := cond (noneφ φ p) [] (cond (φ.odd (φ.mul p.x (φ.inv p.z))) (top128 (byLφ φ (φ.mul p.y (φ.inv p.z)))) (byLφ φ (φ.mul p.y (φ.inv p.z))))
def yφ (s : List UInt8) : E5 := φ.of (topL s)
def vφ (s : List UInt8) : E5 := φ.add (φ.mul (curveφ φ) (φ.mul (yφ φ s) (yφ φ s))) (φ.small 1)
def uφ (s : List UInt8) : E5 := φ.mul (φ.sub (φ.mul (yφ φ s) (yφ φ s)) (φ.small 1)) (φ.inv (vφ φ s))
def decOdd (s : List UInt8) : Bool := shr_u8 (s.getD 31 0) 7 == 1
def xφ (s : List UInt8) : E5 := cond (decOdd s) (φ.neg (φ.root (uφ φ s))) (φ.root (uφ φ s))
def okφ (s : List UInt8) : Bool := cond (φ.canon (topL s)) (cond (φ.has (uφ φ s)) (cond (decOdd s) (!φ.same (φ.root (uφ φ s)) zeroE) true) false) false
def decPφ (s : List UInt8) : P4 E5 := ⟨xφ φ s, yφ φ s, φ.small 1, φ.mul (xφ φ s) (yφ φ s)⟩
def decφ (s : List UInt8) : P4 E5 := cond (isLen s 32) (cond (okφ φ s) (decPφ φ s) emptyE) emptyE
def decRφ (s : List UInt8) : Int := cond (isLen s 32) (cond (okφ φ s) 0 40) 2
/-! ### the document's -/
def emptyN : P4 N16 := ⟨zeroN, zeroN, zeroN, zeroN⟩
def zeroψ : P4 N16 := ⟨zeroN, φ.smallN 1, φ.smallN 1, zeroN⟩
def givenφ : N16 := φ.ofN dBytes
def dφ : N16 := φ.mulN (φ.negN (φ.smallN 121665)) (φ.invN (φ.smallN 121666))
def teesφ (p q : P4 N16) : N16 := φ.mulN (φ.mulN (givenφ φ) p.t) q.t
def addψ (p q : P4 N16) : P4 N16 := addO (opsφN φ) (givenφ φ) p q
def negψ (p : P4 N16) : P4 N16 := negO φ.negN p
def sameψ (p q : P4 N16) : Bool := cond (samP (φ.mulN p.x q.z) (φ.mulN q.x p.z)) (samP (φ.mulN p.y q.z) (φ.mulN q.y p.z)) false
def smallψ (p : P4 N16) : Bool := sameψ φ (addψ φ (addψ φ (addψ φ p p) (addψ φ p p)) (addψ φ (addψ φ p p) (addψ φ p p))) (zeroψ φ)
def byLψ (a : N16) : List UInt8 := (List.range 32).map (φ.byN a)
def bytesψ (p : P4 N16) : List UInt8 := (byLψ φ (φ.mulN p.y (φ.invN p.z))).set 31 ((byLψ φ (φ.mulN p.y (φ.invN p.z))).getD 31 0 ||| shl_u8 ((φ.mulN p.x (φ.invN p.z)).x0 &&& 1).toUInt8 7)
def onψ (p : P4 N16) : Bool := samP (φ.mulN (φ.subN (φ.mulN p.y p.y) (φ.mulN p.x p.x)) (φ.mulN p.z p.z)) (φ.addN (φ.mulN (φ.mulN p.z p.z) (φ.mulN p.z p.z)) (φ.mulN (φ.mulN (givenφ φ) (φ.mulN p.x p.x)) (φ.mulN p.y p.y)))
def yψ (s : List UInt8) : N16 := φ.ofN (topL s)
def vψ (s : List UInt8) : N16 := φ.addN (φ.mulN (dφ φ) (φ.mulN (yψ φ s) (yψ φ s))) (φ.smallN 1)
def uψ (s : List UInt8) : N16 := φ.mulN (φ.subN (φ.mulN (yψ φ s) (yψ φ s)) (φ.smallN 1)) (φ.invN (vψ φ s))
def xψ (s : List UInt8) : N16 := cond (decOdd s) (φ.negN (φ.rootN (uψ φ s))) (φ.rootN (uψ φ s))
def okψ (s : List UInt8) : Bool := cond (φ.canonN (topL s)) (cond (φ.hasN (uψ φ s)) (cond (samP (φ.rootN (uψ φ s)) zeroN) (!decOdd s) true) false) false
def ofXYψ (x y : N16) : P4 N16 := ⟨x, y, φ.smallN 1, φ.mulN x y⟩
def decψ (s : List UInt8) : P4 N16 := cond (isLen s 32) (cond (okψ φ s) (ofXYψ φ (xψ φ s) (yψ φ s)) emptyN) emptyN
def decRψ (s : List UInt8) : Int := cond (isLen s 32) (cond (okψ φ s) 0 40) 2
end
def okQ0 (φ : Fe) (p : P4 N16) : Bool := φ.ok p.x && (φ.ok p.y && (φ.ok p.z && φ.ok p.t))
def baseL : List UInt8 := 0x58 :: List.replicate 31 0x66
def partN (n : N16) (k : Nat) : UInt64 := n.list.getD k 0
def bitN16 (n : N16) (i : Nat) : Bool := (shr_u64 (partN n (i / 16)) (i % 16) &&& 1) == 1
/-- Multiples, over any sum. -/
def iterG {R : Type} (add : R → R → R) (zero p : R) (bit : Nat → Bool) : Nat → R
  | 0 => zero
  | j + 1 => cond (bit (255 - j)) (add (add (iterG add zero p bit j) (iterG add zero p bit j)) p) (add (iterG add zero p bit j) (iterG add zero p bit j))
/-! ### values read as data -/
theorem eq_range {α : Type} (d : α) (l : List α) (n : Nat) (h : l.length = n) : l = (List.range n).map fun i => l.getD i d := by
  subst h
  apply List.ext_getElem?
  intro i
  by_cases hi : i < l.length
  · simp [hi, List.getD]
  · simp [hi]
def wordsN (n : Nat) (v : AVal) : Option (List UInt64) := match v with
  | .agg cs => match words64 cs with
    | some l => cond (Nat.beq l.length n) (some l) none
    | none => none
  | _ => none
theorem wordsN_eq {n : Nat} {v : AVal} {l : List UInt64} (h : wordsN n v = some l) : v = .agg (((List.range n).map fun i => l.getD i 0).map .u64) := by
  unfold wordsN at h
  split at h
  · split at h
    · rename_i cs l' hl
      cases hb : Nat.beq l'.length n with
      | false => rw [hb] at h; cases h
      | true =>
        rw [hb] at h
        cases h
        rw [← eq_range 0 l n (Nat.eq_of_beq_eq_true hb), words64_eq hl]
    · cases h
  · cases h
def qOf (v : AVal) : Option (P4 N16) := match wordsN 64 v with
  | some l => some ⟨⟨l.getD 0 0, l.getD 1 0, l.getD 2 0, l.getD 3 0, l.getD 4 0, l.getD 5 0, l.getD 6 0, l.getD 7 0, l.getD 8 0, l.getD 9 0, l.getD 10 0, l.getD 11 0, l.getD 12 0, l.getD 13 0, l.getD 14 0, l.getD 15 0⟩, ⟨l.getD 16 0, l.getD 17 0, l.getD 18 0, l.getD 19 0, l.getD 20 0, l.getD 21 0, l.getD 22 0, l.getD 23 0, l.getD 24 0, l.getD 25 0, l.getD 26 0, l.getD 27 0, l.getD 28 0, l.getD 29 0, l.getD 30 0, l.getD 31 0⟩, ⟨l.getD 32 0, l.getD 33 0, l.getD 34 0, l.getD 35 0, l.getD 36 0, l.getD 37 0, l.getD 38 0, l.getD 39 0, l.getD 40 0, l.getD 41 0, l.getD 42 0, l.getD 43 0, l.getD 44 0, l.getD 45 0, l.getD 46 0, l.getD 47 0⟩, ⟨l.getD 48 0, l.getD 49 0, l.getD 50 0, l.getD 51 0, l.getD 52 0, l.getD 53 0, l.getD 54 0, l.getD 55 0, l.getD 56 0, l.getD 57 0, l.getD 58 0, l.getD 59 0, l.getD 60 0, l.getD 61 0, l.getD 62 0, l.getD 63 0⟩⟩
  | none => none
theorem qOf_eq {v : AVal} {p : P4 N16} (h : qOf v = some p) : v = qAv p := by
  unfold qOf at h
  split at h
  · rename_i l hl
    cases h
    exact wordsN_eq hl
  · cases h
def pOf (v : AVal) : Option (P4 E5) := match wordsN 20 v with
  | some l => some ⟨⟨l.getD 0 0, l.getD 1 0, l.getD 2 0, l.getD 3 0, l.getD 4 0⟩, ⟨l.getD 5 0, l.getD 6 0, l.getD 7 0, l.getD 8 0, l.getD 9 0⟩, ⟨l.getD 10 0, l.getD 11 0, l.getD 12 0, l.getD 13 0, l.getD 14 0⟩, ⟨l.getD 15 0, l.getD 16 0, l.getD 17 0, l.getD 18 0, l.getD 19 0⟩⟩
  | none => none
theorem pOf_eq {v : AVal} {p : P4 E5} (h : pOf v = some p) : v = pAv p := by
  unfold pOf at h
  split at h
  · rename_i l hl
    cases h
    exact wordsN_eq hl
  · cases h
def nOf (v : AVal) : Option N16 := match wordsN 16 v with
  | some l => some ⟨l.getD 0 0, l.getD 1 0, l.getD 2 0, l.getD 3 0, l.getD 4 0, l.getD 5 0, l.getD 6 0, l.getD 7 0, l.getD 8 0, l.getD 9 0, l.getD 10 0, l.getD 11 0, l.getD 12 0, l.getD 13 0, l.getD 14 0, l.getD 15 0⟩
  | none => none
theorem nOf_eq {v : AVal} {p : N16} (h : nOf v = some p) : v = p.av := by
  unfold nOf at h
  split at h
  · rename_i l hl
    cases h
    exact wordsN_eq hl
  · cases h
def wOf (v : AVal) : Option W4 := match wordsN 4 v with
  | some l => some ⟨l.getD 0 0, l.getD 1 0, l.getD 2 0, l.getD 3 0⟩
  | none => none
theorem wOf_eq {v : AVal} {p : W4} (h : wOf v = some p) : v = p.av := by
  unfold wOf at h
  split at h
  · rename_i l hl
    cases h
    exact wordsN_eq hl
  · cases h
def sOf (v : AVal) : Option (List UInt8) := match v with
  | .str s => some s
  | _ => none
theorem sOf_eq {v : AVal} {p : List UInt8} (h : sOf v = some p) : v = .str p := by
  unfold sOf at h
  split at h
  · cases h; rfl
  · cases h
end Go.Num

/- Engine, part 30: functions with a loop, tests foretold from the beginning to the end. -/
namespace Go.Eng
set_option linter.unusedVariables false
set_option linter.unusedSimpArgs false
open Go
/-- A loop's end and what stands behind it. -/
def endO (P : Program) (ps : PS) (cs : CS) (sy : List Nat) (fn : Func) (nn F bs id : Nat) (b : Code) (l : List Code) (s : SA) (q : OS) : Option (AVal × List Bool) :=
  match evT P ps cs sy fn.ntmps nn F bs b s q with
  | some (.exit id', s1, q1) => cond (Nat.beq id' id) (ansF P fn (evSO P ps cs sy fn.ntmps nn F bs l s1 q1)) none
  | _ => none
theorem ansF_ok2 {P : Program} {ps : PS} {cs : CS} (hps : PSOk ps cs) {sy : List Nat} {fn : Func} {nt nn F bs : Nat} {l : List Code} {s : SA} {q : OS} {v : AVal} {ob : List Bool} (h : ansF P fn (evSO P ps cs sy nt nn F bs l s q) = some (v, ob)) (ha : allT ob = true) : finV P fn (evS P cs nt nn F bs l s) = some v ∧ allT q.ob = true := by
  cases hx : evSO P ps cs sy nt nn F bs l s q with
  | none => rw [hx] at h; cases h
  | some r =>
    obtain ⟨x, s', q'⟩ := r
    rw [hx] at h
    have hq : q'.ob = ob := by
      unfold ansF at h
      cases hv : finV P fn (some (x, s')) with
      | none => simp only [hv] at h; cases h
      | some u =>
        simp only [hv, Option.some.injEq, Prod.mk.injEq] at h
        exact h.2
    have h2 := evSO_ok hps l s q x s' q' hx (by rw [hq]; exact ha)
    refine ⟨?_, h2.2⟩
    rw [h2.1]
    unfold ansF at h
    cases hv : finV P fn (some (x, s')) with
    | none => simp only [hv] at h; cases h
    | some u =>
      simp only [hv, Option.some.injEq, Prod.mk.injEq] at h
      rw [h.1]
theorem endO_ok {P : Program} {ps : PS} {cs : CS} (hps : PSOk ps cs) {sy : List Nat} {fn : Func} {nn F bs id : Nat} {b : Code} {l : List Code} {s : SA} {os : List Bool} {vs : List AVal} {v : AVal} {ob : List Bool} (h : endO P ps cs sy fn nn F bs id b l s ⟨os, vs, []⟩ = some (v, ob)) (ha : allT ob = true) :
    ∃ s1, evC P cs fn.ntmps nn F bs b s = some (.exit id, s1) ∧ finV P fn (evS P cs fn.ntmps nn F bs l s1) = some v := by
  unfold endO at h
  split at h
  · rename_i id' s1 q1 he
    cases hb : Nat.beq id' id with
    | false => rw [hb] at h; cases h
    | true =>
      rw [hb, cond_true] at h
      have := Nat.eq_of_beq_eq_true hb
      subst this
      obtain ⟨h1, h2⟩ := ansF_ok2 hps h ha
      exact ⟨s1, (evT_ok hps b _ _ _ _ _ he h2).1, h1⟩
  · cases h
theorem segO_pre {P : Program} {ps : PS} {cs : CS} (hps : PSOk ps cs) {sy : List Nat} {nt nn F bs : Nat} {l : List Code} {s s' : SA} {os : List Bool} {vs : List AVal} {ob : List Bool} (h : segO (evSO P ps cs sy nt nn F bs l s ⟨os, vs, []⟩) = some (s', ob)) (ha : allT ob = true) : evS P cs nt nn F bs l s = some (.normal, s') := by
  unfold segO at h
  split at h
  · rename_i s1 q he
    simp only [Option.some.injEq, Prod.mk.injEq] at h
    obtain ⟨rfl, rfl⟩ := h
    exact (evSO_ok hps _ _ _ _ _ _ he ha).1
  · cases h
theorem run_loopO {P : Program} {ps : PS} {cs : CS} (hps : PSOk ps cs) {nn F : Nat} {f : FuncId} {fn : Func} {c : Code} {args : List AVal} {H : HL} {fr : Nat} (hf : P.funcs[f]? = some fn) (hb : fn.body = some c) (hn : Nat.ble args.length fn.ntmps = true)
    (k : Nat) {id : Nat} {b : Code} (hk : (pieces c)[k]? = some (.block id (.loop b))) (I : Nat → SA) (N : Nat) {sy0 sy1 : List Nat} {os0 os1 : List Bool} {vs0 vs1 : List AVal} {ob0 ob1 : List Bool}
    (hpre : segO (evSO P ps cs sy0 fn.ntmps nn F fr ((pieces c).take k) ⟨startT args 0, H, fr⟩ ⟨os0, vs0, []⟩) = some (I 0, ob0)) (ha0 : allT ob0 = true)
    (hstep : ∀ j, j < N → roundA (evC P cs fn.ntmps nn F fr b) (headA P fr (I 0)) (I j) = some (I (j + 1)))
    {v : AVal} (hend : endO P ps cs sy1 fn nn F fr id b ((pieces c).drop (k + 1)) (I N) ⟨os1, vs1, []⟩ = some (v, ob1)) (ha1 : allT ob1 = true) (hF : N < F) : (run1 P cs nn F f args H fr).map (·.1) = some v := by
  obtain ⟨s1, h1, h2⟩ := endO_ok hps hend ha1
  exact run_loop hf hb hn k hk I N (segO_pre hps hpre ha0) hstep h1 hF h2
theorem flatMap_at {α β : Type} {f : α → List β} {k : Nat} (hf : ∀ x, (f x).length = k) : ∀ {l : List α} {i : Nat} {x : α} {j : Nat}, l[i]? = some x → j < k → (l.flatMap f)[i * k + j]? = (f x)[j]?
  | [], i, x, j, h, _ => by simp at h
  | y :: l, 0, x, j, h, hj => by
    simp only [List.getElem?_cons_zero, Option.some.injEq] at h
    subst h
    rw [List.flatMap_cons, Nat.zero_mul, Nat.zero_add, List.getElem?_append_left (by rw [hf]; exact hj)]
  | y :: l, i + 1, x, j, h, hj => by
    rw [List.getElem?_cons_succ] at h
    have := flatMap_at hf (i := i) h hj
    rw [List.flatMap_cons, List.getElem?_append_right (by rw [hf, Nat.succ_mul]; omega), hf, ← this]
    congr 1
    rw [Nat.succ_mul]; omega
theorem isAt_of {c : List AVal} {off : Nat} {v : AVal} (h : c[off]? = some v) (hv : eqS v v = true) : isAt c off v = true := by
  unfold isAt
  rw [h]; exact hv
end Go.Eng

/- Points: the numbers' functions. -/
namespace Go.Proofs.Ytipbocnofahafaa
set_option linter.unusedVariables false
set_option linter.unusedSimpArgs false
open Go Go.Eng Go.Num
set_option maxRecDepth 100000
set_option maxHeartbeats 1000000
set_option linter.unusedSimpArgs false
set_option linter.unusedVariables false
def q38 (φ : Fe) : List AVal → Option EffA
  | [.agg [.u64 a0, .u64 a1, .u64 a2, .u64 a3, .u64 a4], .agg [.u64 b0, .u64 b1, .u64 b2, .u64 b3, .u64 b4]] => some (.pure (E5.av (φ.add (E5.mk a0 a1 a2 a3 a4) (E5.mk b0 b1 b2 b3 b4))))
  | _ => none
theorem q38_ok : CSOk Try.prog (csOne 38 (q38 realFe)) := csOne_ok fun args e he => by
  unfold q38 at he
  split at he
  · rename_i a0 a1 a2 a3 a4 b0 b1 b2 b3 b4
    cases he
    exact g38_ok 38 [(E5.av (E5.mk a0 a1 a2 a3 a4)), (E5.av (E5.mk b0 b1 b2 b3 b4))] _ rfl
  · cases he
def q51 (φ : Fe) : List AVal → Option (EffA × Bool)
  | [.agg [.u64 a0, .u64 a1, .u64 a2, .u64 a3, .u64 a4, .u64 a5, .u64 a6, .u64 a7, .u64 a8, .u64 a9, .u64 a10, .u64 a11, .u64 a12, .u64 a13, .u64 a14, .u64 a15], .agg [.u64 b0, .u64 b1, .u64 b2, .u64 b3, .u64 b4, .u64 b5, .u64 b6, .u64 b7, .u64 b8, .u64 b9, .u64 b10, .u64 b11, .u64 b12, .u64 b13, .u64 b14, .u64 b15]] => some (.pure (N16.av (φ.addN (N16.mk a0 a1 a2 a3 a4 a5 a6 a7 a8 a9 a10 a11 a12 a13 a14 a15) (N16.mk b0 b1 b2 b3 b4 b5 b6 b7 b8 b9 b10 b11 b12 b13 b14 b15))), (φ.ok (N16.mk a0 a1 a2 a3 a4 a5 a6 a7 a8 a9 a10 a11 a12 a13 a14 a15) && φ.ok (N16.mk b0 b1 b2 b3 b4 b5 b6 b7 b8 b9 b10 b11 b12 b13 b14 b15)))
  | _ => none
theorem q51_ok : CSOk Try.prog (csP (psOne 51 (q51 realFe))) := csP_one fun args v he => by
  unfold q51 at he
  split at he
  · rename_i a0 a1 a2 a3 a4 a5 a6 a7 a8 a9 a10 a11 a12 a13 a14 a15 b0 b1 b2 b3 b4 b5 b6 b7 b8 b9 b10 b11 b12 b13 b14 b15
    simp only [Option.some.injEq, Prod.mk.injEq] at he
    obtain ⟨rfl, h⟩ := he
    have h2 : (realFe.ok (N16.mk a0 a1 a2 a3 a4 a5 a6 a7 a8 a9 a10 a11 a12 a13 a14 a15) && realFe.ok (N16.mk b0 b1 b2 b3 b4 b5 b6 b7 b8 b9 b10 b11 b12 b13 b14 b15)) = true := h
    refine p51_ok 51 [(N16.av (N16.mk a0 a1 a2 a3 a4 a5 a6 a7 a8 a9 a10 a11 a12 a13 a14 a15)), (N16.av (N16.mk b0 b1 b2 b3 b4 b5 b6 b7 b8 b9 b10 b11 b12 b13 b14 b15))] _ ?_
    show cond ((realFe.ok (N16.mk a0 a1 a2 a3 a4 a5 a6 a7 a8 a9 a10 a11 a12 a13 a14 a15) && realFe.ok (N16.mk b0 b1 b2 b3 b4 b5 b6 b7 b8 b9 b10 b11 b12 b13 b14 b15))) _ _ = _
    rw [h2]; rfl
  · cases he
def q40 (φ : Fe) : List AVal → Option EffA
  | [.agg [.u64 a0, .u64 a1, .u64 a2, .u64 a3, .u64 a4], .agg [.u64 b0, .u64 b1, .u64 b2, .u64 b3, .u64 b4]] => some (.pure (E5.av (φ.sub (E5.mk a0 a1 a2 a3 a4) (E5.mk b0 b1 b2 b3 b4))))
  | _ => none
theorem q40_ok : CSOk Try.prog (csOne 40 (q40 realFe)) := csOne_ok fun args e he => by
  unfold q40 at he
  split at he
  · rename_i a0 a1 a2 a3 a4 b0 b1 b2 b3 b4
    cases he
    exact g40_ok 40 [(E5.av (E5.mk a0 a1 a2 a3 a4)), (E5.av (E5.mk b0 b1 b2 b3 b4))] _ rfl
  · cases he
def q48 (φ : Fe) : List AVal → Option (EffA × Bool)
  | [.agg [.u64 a0, .u64 a1, .u64 a2, .u64 a3, .u64 a4, .u64 a5, .u64 a6, .u64 a7, .u64 a8, .u64 a9, .u64 a10, .u64 a11, .u64 a12, .u64 a13, .u64 a14, .u64 a15], .agg [.u64 b0, .u64 b1, .u64 b2, .u64 b3, .u64 b4, .u64 b5, .u64 b6, .u64 b7, .u64 b8, .u64 b9, .u64 b10, .u64 b11, .u64 b12, .u64 b13, .u64 b14, .u64 b15]] => some (.pure (N16.av (φ.subN (N16.mk a0 a1 a2 a3 a4 a5 a6 a7 a8 a9 a10 a11 a12 a13 a14 a15) (N16.mk b0 b1 b2 b3 b4 b5 b6 b7 b8 b9 b10 b11 b12 b13 b14 b15))), (φ.ok (N16.mk a0 a1 a2 a3 a4 a5 a6 a7 a8 a9 a10 a11 a12 a13 a14 a15) && φ.ok (N16.mk b0 b1 b2 b3 b4 b5 b6 b7 b8 b9 b10 b11 b12 b13 b14 b15)))
  | _ => none
theorem q48_ok : CSOk Try.prog (csP (psOne 48 (q48 realFe))) := csP_one fun args v he => by
  unfold q48 at he
  split at he
  · rename_i a0 a1 a2 a3 a4 a5 a6 a7 a8 a9 a10 a11 a12 a13 a14 a15 b0 b1 b2 b3 b4 b5 b6 b7 b8 b9 b10 b11 b12 b13 b14 b15
    simp only [Option.some.injEq, Prod.mk.injEq] at he
    obtain ⟨rfl, h⟩ := he
    have h2 : (realFe.ok (N16.mk a0 a1 a2 a3 a4 a5 a6 a7 a8 a9 a10 a11 a12 a13 a14 a15) && realFe.ok (N16.mk b0 b1 b2 b3 b4 b5 b6 b7 b8 b9 b10 b11 b12 b13 b14 b15)) = true := h
    refine p48_ok 48 [(N16.av (N16.mk a0 a1 a2 a3 a4 a5 a6 a7 a8 a9 a10 a11 a12 a13 a14 a15)), (N16.av (N16.mk b0 b1 b2 b3 b4 b5 b6 b7 b8 b9 b10 b11 b12 b13 b14 b15))] _ ?_
    show cond ((realFe.ok (N16.mk a0 a1 a2 a3 a4 a5 a6 a7 a8 a9 a10 a11 a12 a13 a14 a15) && realFe.ok (N16.mk b0 b1 b2 b3 b4 b5 b6 b7 b8 b9 b10 b11 b12 b13 b14 b15))) _ _ = _
    rw [h2]; rfl
  · cases he
def q36 (φ : Fe) : List AVal → Option EffA
  | [.agg [.u64 a0, .u64 a1, .u64 a2, .u64 a3, .u64 a4], .agg [.u64 b0, .u64 b1, .u64 b2, .u64 b3, .u64 b4]] => some (.pure (E5.av (φ.mul (E5.mk a0 a1 a2 a3 a4) (E5.mk b0 b1 b2 b3 b4))))
  | _ => none
theorem q36_ok : CSOk Try.prog (csOne 36 (q36 realFe)) := csOne_ok fun args e he => by
  unfold q36 at he
  split at he
  · rename_i a0 a1 a2 a3 a4 b0 b1 b2 b3 b4
    cases he
    exact g36_ok 36 [(E5.av (E5.mk a0 a1 a2 a3 a4)), (E5.av (E5.mk b0 b1 b2 b3 b4))] _ rfl
  · cases he
def q47 (φ : Fe) : List AVal → Option (EffA × Bool)
  | [.agg [.u64 a0, .u64 a1, .u64 a2, .u64 a3, .u64 a4, .u64 a5, .u64 a6, .u64 a7, .u64 a8, .u64 a9, .u64 a10, .u64 a11, .u64 a12, .u64 a13, .u64 a14, .u64 a15], .agg [.u64 b0, .u64 b1, .u64 b2, .u64 b3, .u64 b4, .u64 b5, .u64 b6, .u64 b7, .u64 b8, .u64 b9, .u64 b10, .u64 b11, .u64 b12, .u64 b13, .u64 b14, .u64 b15]] => some (.pure (N16.av (φ.mulN (N16.mk a0 a1 a2 a3 a4 a5 a6 a7 a8 a9 a10 a11 a12 a13 a14 a15) (N16.mk b0 b1 b2 b3 b4 b5 b6 b7 b8 b9 b10 b11 b12 b13 b14 b15))), (φ.ok (N16.mk a0 a1 a2 a3 a4 a5 a6 a7 a8 a9 a10 a11 a12 a13 a14 a15) && φ.ok (N16.mk b0 b1 b2 b3 b4 b5 b6 b7 b8 b9 b10 b11 b12 b13 b14 b15)))
  | _ => none
theorem q47_ok : CSOk Try.prog (csP (psOne 47 (q47 realFe))) := csP_one fun args v he => by
  unfold q47 at he
  split at he
  · rename_i a0 a1 a2 a3 a4 a5 a6 a7 a8 a9 a10 a11 a12 a13 a14 a15 b0 b1 b2 b3 b4 b5 b6 b7 b8 b9 b10 b11 b12 b13 b14 b15
    simp only [Option.some.injEq, Prod.mk.injEq] at he
    obtain ⟨rfl, h⟩ := he
    have h2 : (realFe.ok (N16.mk a0 a1 a2 a3 a4 a5 a6 a7 a8 a9 a10 a11 a12 a13 a14 a15) && realFe.ok (N16.mk b0 b1 b2 b3 b4 b5 b6 b7 b8 b9 b10 b11 b12 b13 b14 b15)) = true := h
    refine p47_ok 47 [(N16.av (N16.mk a0 a1 a2 a3 a4 a5 a6 a7 a8 a9 a10 a11 a12 a13 a14 a15)), (N16.av (N16.mk b0 b1 b2 b3 b4 b5 b6 b7 b8 b9 b10 b11 b12 b13 b14 b15))] _ ?_
    show cond ((realFe.ok (N16.mk a0 a1 a2 a3 a4 a5 a6 a7 a8 a9 a10 a11 a12 a13 a14 a15) && realFe.ok (N16.mk b0 b1 b2 b3 b4 b5 b6 b7 b8 b9 b10 b11 b12 b13 b14 b15))) _ _ = _
    rw [h2]; rfl
  · cases he
def q44 (φ : Fe) : List AVal → Option EffA
  | [.agg [.u64 a0, .u64 a1, .u64 a2, .u64 a3, .u64 a4]] => some (.pure (E5.av (φ.neg (E5.mk a0 a1 a2 a3 a4))))
  | _ => none
theorem q44_ok : CSOk Try.prog (csOne 44 (q44 realFe)) := csOne_ok fun args e he => by
  unfold q44 at he
  split at he
  · rename_i a0 a1 a2 a3 a4
    cases he
    exact g44_ok 44 [(E5.av (E5.mk a0 a1 a2 a3 a4))] _ rfl
  · cases he
def q41 (φ : Fe) : List AVal → Option EffA
  | [.agg [.u64 a0, .u64 a1, .u64 a2, .u64 a3, .u64 a4]] => some (.pure (E5.av (φ.inv (E5.mk a0 a1 a2 a3 a4))))
  | _ => none
theorem q41_ok : CSOk Try.prog (csOne 41 (q41 realFe)) := csOne_ok fun args e he => by
  unfold q41 at he
  split at he
  · rename_i a0 a1 a2 a3 a4
    cases he
    exact g41_ok 41 [(E5.av (E5.mk a0 a1 a2 a3 a4))] _ rfl
  · cases he
def q43 (φ : Fe) : List AVal → Option EffA
  | [.agg [.u64 a0, .u64 a1, .u64 a2, .u64 a3, .u64 a4], .agg [.u64 b0, .u64 b1, .u64 b2, .u64 b3, .u64 b4]] => some (.pure (.bool (φ.same (E5.mk a0 a1 a2 a3 a4) (E5.mk b0 b1 b2 b3 b4))))
  | _ => none
theorem q43_ok : CSOk Try.prog (csOne 43 (q43 realFe)) := csOne_ok fun args e he => by
  unfold q43 at he
  split at he
  · rename_i a0 a1 a2 a3 a4 b0 b1 b2 b3 b4
    cases he
    exact g43_ok 43 [(E5.av (E5.mk a0 a1 a2 a3 a4)), (E5.av (E5.mk b0 b1 b2 b3 b4))] _ rfl
  · cases he
def q59 (φ : Fe) : List AVal → Option EffA
  | [.agg [.u64 a0, .u64 a1, .u64 a2, .u64 a3, .u64 a4]] => some (.pure (.bool (φ.odd (E5.mk a0 a1 a2 a3 a4))))
  | _ => none
theorem q59_ok : CSOk Try.prog (csOne 59 (q59 realFe)) := csOne_ok fun args e he => by
  unfold q59 at he
  split at he
  · rename_i a0 a1 a2 a3 a4
    cases he
    exact g59_ok 59 [(E5.av (E5.mk a0 a1 a2 a3 a4))] _ rfl
  · cases he
def q39 (φ : Fe) : List AVal → Option EffA
  | [.u32 a] => some (.pure (E5.av (φ.small a)))
  | _ => none
theorem q39_ok : CSOk Try.prog (csOne 39 (q39 realFe)) := csOne_ok fun args e he => by
  unfold q39 at he
  split at he
  · rename_i a
    cases he
    exact g39_ok 39 [(.u32 a)] _ rfl
  · cases he
def q42 (φ : Fe) : List AVal → Option EffA
  | [.agg [.u64 a0, .u64 a1, .u64 a2, .u64 a3, .u64 a4]] => some (.pure (.tup [(E5.av (φ.root (E5.mk a0 a1 a2 a3 a4))), .bool (φ.has (E5.mk a0 a1 a2 a3 a4))]))
  | _ => none
theorem q42_ok : CSOk Try.prog (csOne 42 (q42 realFe)) := csOne_ok fun args e he => by
  unfold q42 at he
  split at he
  · rename_i a0 a1 a2 a3 a4
    cases he
    exact g42_ok 42 [(E5.av (E5.mk a0 a1 a2 a3 a4))] _ rfl
  · cases he
def q35 (φ : Fe) : List AVal → Option EffA
  | [.str a] => some (.pure (.tup [(E5.av (φ.of a)), .int .i64 (φ.ofR a)]))
  | _ => none
theorem q35_ok : CSOk Try.prog (csOne 35 (q35 realFe)) := csOne_ok fun args e he => by
  unfold q35 at he
  split at he
  · rename_i a
    cases he
    exact g35_ok 35 [(.str a)] _ rfl
  · cases he
def q34 (φ : Fe) : List AVal → Option EffA
  | [.str a] => some (.pure (.bool (φ.canon a)))
  | _ => none
theorem q34_ok : CSOk Try.prog (csOne 34 (q34 realFe)) := csOne_ok fun args e he => by
  unfold q34 at he
  split at he
  · rename_i a
    cases he
    exact g34_ok 34 [(.str a)] _ rfl
  · cases he
def q58 (φ : Fe) : List AVal → Option EffA
  | [.agg [.u64 a0, .u64 a1, .u64 a2, .u64 a3, .u64 a4]] => some (.pure (.str ((List.range 32).map (φ.byE (E5.mk a0 a1 a2 a3 a4)))))
  | _ => none
theorem q58_ok : CSOk Try.prog (csOne 58 (q58 realFe)) := csOne_ok fun args e he => by
  unfold q58 at he
  split at he
  · rename_i a0 a1 a2 a3 a4
    cases he
    exact g58_ok 58 [(E5.av (E5.mk a0 a1 a2 a3 a4))] _ rfl
  · cases he
def q54 (φ : Fe) : List AVal → Option EffA
  | [.agg [.u64 a0, .u64 a1, .u64 a2, .u64 a3, .u64 a4, .u64 a5, .u64 a6, .u64 a7, .u64 a8, .u64 a9, .u64 a10, .u64 a11, .u64 a12, .u64 a13, .u64 a14, .u64 a15]] => some (.pure (N16.av (φ.negN (N16.mk a0 a1 a2 a3 a4 a5 a6 a7 a8 a9 a10 a11 a12 a13 a14 a15))))
  | _ => none
theorem q54_ok : CSOk Try.prog (csOne 54 (q54 realFe)) := csOne_ok fun args e he => by
  unfold q54 at he
  split at he
  · rename_i a0 a1 a2 a3 a4 a5 a6 a7 a8 a9 a10 a11 a12 a13 a14 a15
    cases he
    exact g54_ok 54 [(N16.av (N16.mk a0 a1 a2 a3 a4 a5 a6 a7 a8 a9 a10 a11 a12 a13 a14 a15))] _ rfl
  · cases he
def q52 (φ : Fe) : List AVal → Option (EffA × Bool)
  | [.agg [.u64 a0, .u64 a1, .u64 a2, .u64 a3, .u64 a4, .u64 a5, .u64 a6, .u64 a7, .u64 a8, .u64 a9, .u64 a10, .u64 a11, .u64 a12, .u64 a13, .u64 a14, .u64 a15]] => some (.pure (N16.av (φ.invN (N16.mk a0 a1 a2 a3 a4 a5 a6 a7 a8 a9 a10 a11 a12 a13 a14 a15))), φ.ok (N16.mk a0 a1 a2 a3 a4 a5 a6 a7 a8 a9 a10 a11 a12 a13 a14 a15))
  | _ => none
theorem q52_ok : CSOk Try.prog (csP (psOne 52 (q52 realFe))) := csP_one fun args v he => by
  unfold q52 at he
  split at he
  · rename_i a0 a1 a2 a3 a4 a5 a6 a7 a8 a9 a10 a11 a12 a13 a14 a15
    simp only [Option.some.injEq, Prod.mk.injEq] at he
    obtain ⟨rfl, h⟩ := he
    have h2 : realFe.ok (N16.mk a0 a1 a2 a3 a4 a5 a6 a7 a8 a9 a10 a11 a12 a13 a14 a15) = true := h
    refine p52_ok 52 [(N16.av (N16.mk a0 a1 a2 a3 a4 a5 a6 a7 a8 a9 a10 a11 a12 a13 a14 a15))] _ ?_
    show cond (realFe.ok (N16.mk a0 a1 a2 a3 a4 a5 a6 a7 a8 a9 a10 a11 a12 a13 a14 a15)) _ _ = _
    rw [h2]; rfl
  · cases he
def q53 (φ : Fe) : List AVal → Option (EffA × Bool)
  | [.agg [.u64 a0, .u64 a1, .u64 a2, .u64 a3, .u64 a4, .u64 a5, .u64 a6, .u64 a7, .u64 a8, .u64 a9, .u64 a10, .u64 a11, .u64 a12, .u64 a13, .u64 a14, .u64 a15]] => some (.pure (.tup [(N16.av (φ.rootN (N16.mk a0 a1 a2 a3 a4 a5 a6 a7 a8 a9 a10 a11 a12 a13 a14 a15))), .bool (φ.hasN (N16.mk a0 a1 a2 a3 a4 a5 a6 a7 a8 a9 a10 a11 a12 a13 a14 a15))]), φ.ok (N16.mk a0 a1 a2 a3 a4 a5 a6 a7 a8 a9 a10 a11 a12 a13 a14 a15))
  | _ => none
theorem q53_ok : CSOk Try.prog (csP (psOne 53 (q53 realFe))) := csP_one fun args v he => by
  unfold q53 at he
  split at he
  · rename_i a0 a1 a2 a3 a4 a5 a6 a7 a8 a9 a10 a11 a12 a13 a14 a15
    simp only [Option.some.injEq, Prod.mk.injEq] at he
    obtain ⟨rfl, h⟩ := he
    have h2 : realFe.ok (N16.mk a0 a1 a2 a3 a4 a5 a6 a7 a8 a9 a10 a11 a12 a13 a14 a15) = true := h
    refine p53_ok 53 [(N16.av (N16.mk a0 a1 a2 a3 a4 a5 a6 a7 a8 a9 a10 a11 a12 a13 a14 a15))] _ ?_
    show cond (realFe.ok (N16.mk a0 a1 a2 a3 a4 a5 a6 a7 a8 a9 a10 a11 a12 a13 a14 a15)) _ _ = _
    rw [h2]; rfl
  · cases he
def q49 (φ : Fe) : List AVal → Option EffA
  | [.u32 a] => some (.pure (N16.av (φ.smallN a)))
  | _ => none
theorem q49_ok : CSOk Try.prog (csOne 49 (q49 realFe)) := csOne_ok fun args e he => by
  unfold q49 at he
  split at he
  · rename_i a
    cases he
    exact g49_ok 49 [(.u32 a)] _ rfl
  · cases he
def q46 (φ : Fe) : List AVal → Option (EffA × Bool)
  | [.str a] => some (.pure (N16.av (φ.ofN a)), φ.l32 a)
  | _ => none
theorem q46_ok : CSOk Try.prog (csP (psOne 46 (q46 realFe))) := csP_one fun args v he => by
  unfold q46 at he
  split at he
  · rename_i a
    simp only [Option.some.injEq, Prod.mk.injEq] at he
    obtain ⟨rfl, h⟩ := he
    have h2 : realFe.l32 a = true := h
    refine p46_ok 46 [(.str a)] _ ?_
    show cond (realFe.l32 a) _ _ = _
    rw [h2]; rfl
  · cases he
def q45 (φ : Fe) : List AVal → Option EffA
  | [.str a] => some (.pure (.bool (φ.canonN a)))
  | _ => none
theorem q45_ok : CSOk Try.prog (csOne 45 (q45 realFe)) := csOne_ok fun args e he => by
  unfold q45 at he
  split at he
  · rename_i a
    cases he
    exact g45_ok 45 [(.str a)] _ rfl
  · cases he
def q75 (φ : Fe) : List AVal → Option EffA
  | [.agg [.u64 a0, .u64 a1, .u64 a2, .u64 a3, .u64 a4, .u64 a5, .u64 a6, .u64 a7, .u64 a8, .u64 a9, .u64 a10, .u64 a11, .u64 a12, .u64 a13, .u64 a14, .u64 a15]] => some (.pure (.str ((List.range 32).map (φ.byN (N16.mk a0 a1 a2 a3 a4 a5 a6 a7 a8 a9 a10 a11 a12 a13 a14 a15)))))
  | _ => none
theorem q75_ok : CSOk Try.prog (csOne 75 (q75 realFe)) := csOne_ok fun args e he => by
  unfold q75 at he
  split at he
  · rename_i a0 a1 a2 a3 a4 a5 a6 a7 a8 a9 a10 a11 a12 a13 a14 a15
    cases he
    exact g75_ok 75 [(N16.av (N16.mk a0 a1 a2 a3 a4 a5 a6 a7 a8 a9 a10 a11 a12 a13 a14 a15))] _ rfl
  · cases he
def q68 (φ : Fe) : List AVal → Option EffA
  | [.agg [.u64 a0, .u64 a1, .u64 a2, .u64 a3]] => some (.pure (.str ((List.range 32).map (φ.sby (W4.mk a0 a1 a2 a3)))))
  | _ => none
theorem q68_ok : CSOk Try.prog (csOne 68 (q68 realFe)) := csOne_ok fun args e he => by
  unfold q68 at he
  split at he
  · rename_i a0 a1 a2 a3
    cases he
    exact g68_ok 68 [(W4.av (W4.mk a0 a1 a2 a3))] _ rfl
  · cases he
def psne (φ : Fe) : PS := (psAlt (psOne 51 (q51 φ)) (psAlt (psOne 48 (q48 φ)) (psAlt (psOne 47 (q47 φ)) (psAlt (psOne 52 (q52 φ)) (psAlt (psOne 53 (q53 φ)) (psOne 46 (q46 φ)))))))
theorem psne_ok : CSOk Try.prog (csP (psne realFe)) := (csP_alt q51_ok (csP_alt q48_ok (csP_alt q47_ok (csP_alt q52_ok (csP_alt q53_ok q46_ok)))))
def chne (φ : Fe) : CS := (csAlt (csOne 38 (q38 φ)) (csAlt (csOne 40 (q40 φ)) (csAlt (csOne 36 (q36 φ)) (csAlt (csOne 44 (q44 φ)) (csAlt (csOne 41 (q41 φ)) (csAlt (csOne 43 (q43 φ)) (csAlt (csOne 59 (q59 φ)) (csAlt (csOne 39 (q39 φ)) (csAlt (csOne 42 (q42 φ)) (csAlt (csOne 35 (q35 φ)) (csAlt (csOne 34 (q34 φ)) (csAlt (csOne 58 (q58 φ)) (csAlt (csOne 54 (q54 φ)) (csAlt (csOne 49 (q49 φ)) (csAlt (csOne 45 (q45 φ)) (csAlt (csOne 75 (q75 φ)) (csOne 68 (q68 φ))))))))))))))))))
theorem chne_ok : CSOk Try.prog (chne realFe) := (csAlt_ok q38_ok (csAlt_ok q40_ok (csAlt_ok q36_ok (csAlt_ok q44_ok (csAlt_ok q41_ok (csAlt_ok q43_ok (csAlt_ok q59_ok (csAlt_ok q39_ok (csAlt_ok q42_ok (csAlt_ok q35_ok (csAlt_ok q34_ok (csAlt_ok q58_ok (csAlt_ok q54_ok (csAlt_ok q49_ok (csAlt_ok q45_ok (csAlt_ok q75_ok q68_ok))))))))))))))))
def ne (φ : Fe) : CS := csAlt (csP (psne φ)) (chne φ)
theorem ne_ok : CSOk Try.prog (ne realFe) := csAlt_ok psne_ok chne_ok
theorem ne_ps (φ : Fe) : PSOk (psne φ) (ne φ) := csP_ok
end Go.Proofs.Ytipbocnofahafaa

/- Points: the first functions. -/
namespace Go.Proofs.Ytipbocnofahafaa
set_option linter.unusedVariables false
set_option linter.unusedSimpArgs false
open Go Go.Eng Go.Num
set_option maxRecDepth 100000
set_option maxHeartbeats 1000000
set_option linter.unusedSimpArgs false
set_option linter.unusedVariables false
noncomputable def nei (φ : Fe) : CS := inlW Try.prog mask 200 (ne φ) 2
theorem nei_ok : CSOk Try.prog (nei realFe) := inlW_ok hmix ne_ok 2
def psnei (φ : Fe) : PS := psne φ
theorem nei_ps (φ : Fe) : PSOk (psnei φ) (nei φ) := fun f args e h => inlW_has (ne_ps φ f args e h)
theorem okB_add {a b : N16} (h : okB a = true) (k : okB b = true) : okB (addP a b) = true := okB_iff.2 (addP_val a b (okB_iff.1 h) (okB_iff.1 k)).1
theorem okB_neg {a : N16} (h : okB a = true) : okB (negP a) = true := okB_iff.2 (negP_ok a (okB_iff.1 h))
theorem okB_sub {a b : N16} (h : okB a = true) (k : okB b = true) : okB (subP a b) = true := okB_add h (okB_neg k)
theorem okB_mul {a b : N16} (h : okB a = true) (k : okB b = true) : okB (mulP a b) = true := okB_iff.2 (mulP_val a b (okB_iff.1 h) (okB_iff.1 k)).1
theorem okB_small (n : UInt32) : okB (smallN n) = true := okB_iff.2 (smallN_val n).1
theorem okB_inv {a : N16} (h : okB a = true) : okB (invP a) = true := okB_iff.2 (powP_ok a (okB_iff.1 h) _)
theorem okB_zero : okB zeroN = true := okB_iff.2 zeroN_ok
theorem okB_of {s : List UInt8} (h : isLen s 32 = true) : okB (ofP s) = true := okB_iff.2 (rel_of h).okP
theorem okB_root {a : N16} (h : okB a = true) : okB (rootP a) = true := by
  have h0 : okB (powP a (bitsL 252 2)) = true := okB_iff.2 (powP_ok a (okB_iff.1 h) (bitsL 252 2))
  have hi : okB iN = true := okB_iff.2 iN_ok
  have e0 : root0P a = powP a (bitsL 252 2) := by unfold root0P; exact Eq.refl _
  rw [← e0] at h0
  have h1 : okB (root1P a) = true := by
    rw [root1P_eq]
    split
    · exact h0
    · exact okB_mul h0 hi
  rw [rootP_eq]
  split
  · split
    · exact okB_neg h1
    · exact h1
  · exact okB_zero
/-- The functions keep what they ask. -/
structure OkF (φ : Fe) : Prop where
  add : ∀ {a b}, φ.ok a = true → φ.ok b = true → φ.ok (φ.addN a b) = true
  sub : ∀ {a b}, φ.ok a = true → φ.ok b = true → φ.ok (φ.subN a b) = true
  mul : ∀ {a b}, φ.ok a = true → φ.ok b = true → φ.ok (φ.mulN a b) = true
  neg : ∀ {a}, φ.ok a = true → φ.ok (φ.negN a) = true
  inv : ∀ {a}, φ.ok a = true → φ.ok (φ.invN a) = true
  root : ∀ {a}, φ.ok a = true → φ.ok (φ.rootN a) = true
  small : ∀ n, φ.ok (φ.smallN n) = true
  of : ∀ {s}, φ.l32 s = true → φ.ok (φ.ofN s) = true
  len : ∀ {s}, isLen s 32 = true → φ.l32 s = true
  d32 : φ.l32 dBytes = true
theorem okF : OkF realFe := ⟨okB_add, okB_sub, okB_mul, okB_neg, okB_inv, okB_root, okB_small, okB_of, fun h => h, by kernel_rfl⟩
theorem okGiven {φ : Fe} (h : OkF φ) : φ.ok (φ.ofN dBytes) = true := h.of h.d32
theorem xgiven (φ : Fe)  : ansO (run1O Try.prog (psne φ) (ne φ) [1] [] [] (mask 56) 200 56 [] [] Try.prog.globals.size) = some ((givenφ φ).av, [(φ.l32 dBytes)]) := by kernel_rfl
theorem xdd (φ : Fe)  : ansO (run1O Try.prog (psne φ) (ne φ) [4, 5] [] [] (mask 50) 200 50 [] [] Try.prog.globals.size) = some ((dφ φ).av, [((φ.ok (φ.negN (φ.smallN (UInt32.ofNat (Int.toNat 121665))))) && (φ.ok (φ.invN (φ.smallN (UInt32.ofNat (Int.toNat 121666)))))), (φ.ok (φ.smallN (UInt32.ofNat (Int.toNat 121666))))]) := by kernel_rfl
theorem xof (φ : Fe) (x y : N16) : ansO (run1O Try.prog (psne φ) (ne φ) [10] [] [] (mask 55) 200 55 [x.av, y.av] [] Try.prog.globals.size) = some (qAv (ofXYψ φ x y), [((φ.ok x) && (φ.ok y))]) := by kernel_rfl
theorem rgiven {φ : Fe} (h : OkF φ) : (run1 Try.prog (ne φ) (mask 56) 200 56 [] [] Try.prog.globals.size).map (·.1) = some (givenφ φ).av := ansO_run (ne_ps _) (xgiven φ) (by simp only [allT, h.d32, cond_true])
theorem rdd {φ : Fe} (h : OkF φ) : (run1 Try.prog (ne φ) (mask 50) 200 50 [] [] Try.prog.globals.size).map (·.1) = some (dφ φ).av := ansO_run (ne_ps _) (xdd φ) (by simp (maxDischargeDepth := 30) only [allT, h.add, h.sub, h.mul, h.neg, h.inv, h.root, h.small, h.of, h.d32, okGiven h, Bool.and_self, cond_true])
theorem rof {φ : Fe} (h : OkF φ) (x y : N16) (hx : (φ.ok x && φ.ok y) = true) : (run1 Try.prog (ne φ) (mask 55) 200 55 [x.av, y.av] [] Try.prog.globals.size).map (·.1) = some (qAv (ofXYψ φ x y)) := ansO_run (ne_ps _) (xof φ x y) (by
  simp only [allT]
  rw [hx]; rfl)
def g56 : List AVal → Option EffA
  | [] => some (.pure (givenφ realFe).av)
  | _ => none
theorem g56_ok : CSOk Try.prog (csOne 56 g56) := csOne_ok fun args e he => by
  unfold g56 at he
  split at he
  · skip
    cases he
    exact callOk_val ne_ok hmix (rgiven okF) rfl rfl
  · cases he
def g50 : List AVal → Option EffA
  | [] => some (.pure (dφ realFe).av)
  | _ => none
theorem g50_ok : CSOk Try.prog (csOne 50 g50) := csOne_ok fun args e he => by
  unfold g50 at he
  split at he
  · skip
    cases he
    exact callOk_val ne_ok hmix (rdd okF) rfl rfl
  · cases he
def p55 : List AVal → Option (EffA × Bool)
  | [.agg [.u64 a0, .u64 a1, .u64 a2, .u64 a3, .u64 a4, .u64 a5, .u64 a6, .u64 a7, .u64 a8, .u64 a9, .u64 a10, .u64 a11, .u64 a12, .u64 a13, .u64 a14, .u64 a15], .agg [.u64 b0, .u64 b1, .u64 b2, .u64 b3, .u64 b4, .u64 b5, .u64 b6, .u64 b7, .u64 b8, .u64 b9, .u64 b10, .u64 b11, .u64 b12, .u64 b13, .u64 b14, .u64 b15]] => some (.pure (qAv (ofXYψ realFe (N16.mk a0 a1 a2 a3 a4 a5 a6 a7 a8 a9 a10 a11 a12 a13 a14 a15) (N16.mk b0 b1 b2 b3 b4 b5 b6 b7 b8 b9 b10 b11 b12 b13 b14 b15))), realFe.ok (N16.mk a0 a1 a2 a3 a4 a5 a6 a7 a8 a9 a10 a11 a12 a13 a14 a15) && realFe.ok (N16.mk b0 b1 b2 b3 b4 b5 b6 b7 b8 b9 b10 b11 b12 b13 b14 b15))
  | _ => none
theorem p55_ok : CSOk Try.prog (csP (psOne 55 p55)) := csP_one fun args v he => by
  unfold p55 at he
  split at he
  · rename_i a0 a1 a2 a3 a4 a5 a6 a7 a8 a9 a10 a11 a12 a13 a14 a15 b0 b1 b2 b3 b4 b5 b6 b7 b8 b9 b10 b11 b12 b13 b14 b15
    simp only [Option.some.injEq, Prod.mk.injEq] at he
    obtain ⟨rfl, h⟩ := he
    exact callOk_val ne_ok hmix (rof okF (N16.mk a0 a1 a2 a3 a4 a5 a6 a7 a8 a9 a10 a11 a12 a13 a14 a15) (N16.mk b0 b1 b2 b3 b4 b5 b6 b7 b8 b9 b10 b11 b12 b13 b14 b15) h) rfl rfl
  · cases he
def q56 (φ : Fe) : List AVal → Option EffA
  | [] => some (.pure (givenφ φ).av)
  | _ => none
theorem q56_ok : CSOk Try.prog (csOne 56 (q56 realFe)) := csOne_ok fun args e he => by
  unfold q56 at he
  split at he
  · skip
    cases he
    exact g56_ok 56 [] _ rfl
  · cases he
def q50 (φ : Fe) : List AVal → Option EffA
  | [] => some (.pure (dφ φ).av)
  | _ => none
theorem q50_ok : CSOk Try.prog (csOne 50 (q50 realFe)) := csOne_ok fun args e he => by
  unfold q50 at he
  split at he
  · skip
    cases he
    exact g50_ok 50 [] _ rfl
  · cases he
def q55 (φ : Fe) : List AVal → Option (EffA × Bool)
  | [.agg [.u64 a0, .u64 a1, .u64 a2, .u64 a3, .u64 a4, .u64 a5, .u64 a6, .u64 a7, .u64 a8, .u64 a9, .u64 a10, .u64 a11, .u64 a12, .u64 a13, .u64 a14, .u64 a15], .agg [.u64 b0, .u64 b1, .u64 b2, .u64 b3, .u64 b4, .u64 b5, .u64 b6, .u64 b7, .u64 b8, .u64 b9, .u64 b10, .u64 b11, .u64 b12, .u64 b13, .u64 b14, .u64 b15]] => some (.pure (qAv (ofXYψ φ (N16.mk a0 a1 a2 a3 a4 a5 a6 a7 a8 a9 a10 a11 a12 a13 a14 a15) (N16.mk b0 b1 b2 b3 b4 b5 b6 b7 b8 b9 b10 b11 b12 b13 b14 b15))), (φ.ok (N16.mk a0 a1 a2 a3 a4 a5 a6 a7 a8 a9 a10 a11 a12 a13 a14 a15) && φ.ok (N16.mk b0 b1 b2 b3 b4 b5 b6 b7 b8 b9 b10 b11 b12 b13 b14 b15)))
  | _ => none
theorem q55_ok : CSOk Try.prog (csP (psOne 55 (q55 realFe))) := csP_one fun args v he => by
  unfold q55 at he
  split at he
  · rename_i a0 a1 a2 a3 a4 a5 a6 a7 a8 a9 a10 a11 a12 a13 a14 a15 b0 b1 b2 b3 b4 b5 b6 b7 b8 b9 b10 b11 b12 b13 b14 b15
    simp only [Option.some.injEq, Prod.mk.injEq] at he
    obtain ⟨rfl, h⟩ := he
    have h2 : (realFe.ok (N16.mk a0 a1 a2 a3 a4 a5 a6 a7 a8 a9 a10 a11 a12 a13 a14 a15) && realFe.ok (N16.mk b0 b1 b2 b3 b4 b5 b6 b7 b8 b9 b10 b11 b12 b13 b14 b15)) = true := h
    refine p55_ok 55 [(N16.av (N16.mk a0 a1 a2 a3 a4 a5 a6 a7 a8 a9 a10 a11 a12 a13 a14 a15)), (N16.av (N16.mk b0 b1 b2 b3 b4 b5 b6 b7 b8 b9 b10 b11 b12 b13 b14 b15))] _ ?_
    show cond ((realFe.ok (N16.mk a0 a1 a2 a3 a4 a5 a6 a7 a8 a9 a10 a11 a12 a13 a14 a15) && realFe.ok (N16.mk b0 b1 b2 b3 b4 b5 b6 b7 b8 b9 b10 b11 b12 b13 b14 b15))) _ _ = _
    rw [h2]; rfl
  · cases he
def psnf (φ : Fe) : PS := (psAlt (psOne 55 (q55 φ)) (psne φ))
theorem psnf_ok : CSOk Try.prog (csP (psnf realFe)) := (csP_alt q55_ok psne_ok)
def chnf (φ : Fe) : CS := (csAlt (csOne 56 (q56 φ)) (csAlt (csOne 50 (q50 φ)) (chne φ)))
theorem chnf_ok : CSOk Try.prog (chnf realFe) := (csAlt_ok q56_ok (csAlt_ok q50_ok chne_ok))
def nf (φ : Fe) : CS := csAlt (csP (psnf φ)) (chnf φ)
theorem nf_ok : CSOk Try.prog (nf realFe) := csAlt_ok psnf_ok chnf_ok
theorem nf_ps (φ : Fe) : PSOk (psnf φ) (nf φ) := csP_ok
end Go.Proofs.Ytipbocnofahafaa
