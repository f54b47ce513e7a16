/- Texts Mq1, Num6, Ed1, Ed2, Ed3, Ed4, Ed5, Ed6, Ed7, PrimeL, Mq3, Mq4: what they show stands ahead of each. -/
import Derived.Test.YthpknhpbnpaghaaT9
import Derived.Test.YthpknhpbnpaghaaT6
import Derived.Test.YthpknhpbnpaghaaT8
/- The ladder over the curve's points: it makes multiples. -/
namespace Go.Num
set_option linter.unusedVariables false
set_option linter.unusedSimpArgs false
open Go Go.Eng
set_option maxRecDepth 100000
/-- Two numbers that say a point's second coordinate. -/
structure Rp (p : P2 Fp) (y : Fp) : Prop where
  ne : p.x + p.z ≠ 0
  eq : p.x - p.z = y * (p.x + p.z)
theorem F_mul_zero {a b : Fp} (h : a * b = 0) : a = 0 ∨ b = 0 := by
  by_cases ha : a = 0
  · exact .inl ha
  · by_cases hb : b = 0
    · exact .inr hb
    · exact absurd h (F_mul_ne ha hb)
theorem den_ne {d i : Fp} (h : Crv d i) {a b : Fp × Fp} (ha : OnA d a) (hb : OnA d b) : 1 - d * (a.1 * a.2) * (b.1 * b.2) ≠ 0 ∧ 1 + d * (a.1 * a.2) * (b.1 * b.2) ≠ 0 := by
  have n := fg_ne h (on_up ha) (on_up hb)
  have n1 : (1 : Fp) * 1 - d * (a.1 * a.2) * (b.1 * b.2) ≠ 0 := n.1
  have n2 : (1 : Fp) * 1 + d * (a.1 * a.2) * (b.1 * b.2) ≠ 0 := n.2
  have e : (1 : Fp) * 1 = 1 := by grind -lia -linarith (splits := 0)
  rw [e] at n1 n2
  exact ⟨n1, n2⟩
theorem k_alg (d x y : Fp) (hc : y * y - x * x = 1 + d * (x * y) * (x * y)) : x * x * (1 + d * (y * y)) = y * y - 1 := by grind -lia -linarith (splits := 0)
theorem k_ne {d i : Fp} (h : Crv d i) {a : Fp × Fp} (ha : OnA d a) : 1 + d * (a.2 * a.2) ≠ 0 := by
  intro e
  have h1 := k_alg d a.1 a.2 ha
  rw [e] at h1
  generalize a.2 * a.2 = b at e h1
  have h2 : b = 1 := by grind -lia -linarith (splits := 0)
  have h3 : d = -1 := by rw [h2] at e; grind -lia -linarith (splits := 0)
  exact h.ns i (by rw [h.ii, h3])
theorem dbl_alg (d k s x y : Fp) (hc : y * y - x * x = 1 + d * (x * y) * (x * y)) (hd : d * (k + 1) = -k) :
    (s * s) * ((y * s) * (y * s)) + (s * s - (y * s) * (y * s)) * (s * s + k * (s * s - (y * s) * (y * s))) = s * s * (s * s) * ((k + 1) * ((1 + d * (y * y)) * (1 - d * (x * y) * (x * y)))) ∧
    (s * s) * ((y * s) * (y * s)) - (s * s - (y * s) * (y * s)) * (s * s + k * (s * s - (y * s) * (y * s))) = s * s * (s * s) * ((k + 1) * ((1 + d * (y * y)) * (y * y + x * x))) := by
  have e1 := k_alg d x y hc
  have f1 : (1 + d * (y * y)) * (1 - d * (x * y) * (x * y)) = 1 + d * (y * y) - d * (y * y) * (x * x * (1 + d * (y * y))) := by grind -lia -linarith (splits := 0)
  have f2 : (1 + d * (y * y)) * (y * y + x * x) = y * y * (1 + d * (y * y)) + x * x * (1 + d * (y * y)) := by grind -lia -linarith (splits := 0)
  rw [f1, f2, e1]
  have g1 : (k + 1) * (1 + d * (y * y) - d * (y * y) * (y * y - 1)) = (k + 1) + (d * (k + 1)) * (y * y + y * y - y * y * (y * y)) := by grind -lia -linarith (splits := 0)
  have g2 : (k + 1) * (y * y * (1 + d * (y * y)) + (y * y - 1)) = (k + 1) * (y * y + y * y - 1) + (d * (k + 1)) * (y * y * (y * y)) := by grind -lia -linarith (splits := 0)
  rw [g1, g2, hd]
  constructor <;> grind -lia -linarith (splits := 0)
theorem div_back {a b : Fp} (hb : b ≠ 0) : a * invF b * b = a := by
  have := invF_mul hb
  grind -lia -linarith (splits := 0)
def kA : Fp := opsF.small 121665
theorem rp_dbl {d i : Fp} (h : Crv d i) (hd : d * (kA + 1) = -kA) (hk : kA + 1 ≠ 0) {p q : P2 Fp} {u : Fp} {a : Fp × Fp} (ha : OnA d a) (hp : Rp p a.2) : Rp (stepO opsF p q u).1 (addA d a a).2 := by
  have hX : (stepO opsF p q u).1.x = ((p.x + p.z) * (p.x + p.z)) * ((p.x - p.z) * (p.x - p.z)) := rfl
  have hZ : (stepO opsF p q u).1.z = ((p.x + p.z) * (p.x + p.z) - (p.x - p.z) * (p.x - p.z)) * ((p.x + p.z) * (p.x + p.z) + kA * ((p.x + p.z) * (p.x + p.z) - (p.x - p.z) * (p.x - p.z))) := rfl
  have hY : (addA d a a).2 = (a.2 * a.2 + a.1 * a.1) * invF (1 - d * (a.1 * a.2) * (a.1 * a.2)) := rfl
  obtain ⟨hs, he⟩ := hp
  generalize p.x + p.z = s at *
  generalize p.x - p.z = t at *
  subst he
  obtain ⟨e1, e2⟩ := dbl_alg d kA s a.1 a.2 ha hd
  have n1 := k_ne h ha
  have n2 := (den_ne h ha ha).1
  have n3 := F_mul_ne (F_mul_ne hs hs) (F_mul_ne hs hs)
  refine ⟨?_, ?_⟩
  · rw [hX, hZ, e1]
    exact F_mul_ne n3 (F_mul_ne hk (F_mul_ne n1 n2))
  · rw [hX, hZ, e1, e2, hY]
    have b := div_back (a := a.2 * a.2 + a.1 * a.1) n2
    generalize (a.2 * a.2 + a.1 * a.1) * invF (1 - d * (a.1 * a.2) * (a.1 * a.2)) = y3 at b ⊢
    rw [← b]
    generalize 1 - d * (a.1 * a.2) * (a.1 * a.2) = w
    generalize 1 + d * (a.2 * a.2) = w2
    generalize s * s * (s * s) = w3
    generalize kA + 1 = w4
    grind -lia -linarith (splits := 0)
theorem dadd_alg (d x1 y1 x2 y2 : Fp) (h1 : y1 * y1 - x1 * x1 = 1 + d * (x1 * y1) * (x1 * y1)) (h2 : y2 * y2 - x2 * x2 = 1 + d * (x2 * y2) * (x2 * y2)) :
    (y1 + y2) * (y1 + y2) * ((1 + d * (x1 * y1) * (x2 * y2) - (y1 * y2 - x1 * x2)) * (1 - d * (x1 * y1) * (x2 * y2) - (y1 * y2 + x1 * x2))) * ((1 + d * (y1 * y1)) * (1 + d * (y2 * y2))) =
    (y2 - y1) * (y2 - y1) * ((1 + d * (x1 * y1) * (x2 * y2) + (y1 * y2 - x1 * x2)) * (1 - d * (x1 * y1) * (x2 * y2) + (y1 * y2 + x1 * x2))) * ((1 + d * (y1 * y1)) * (1 + d * (y2 * y2))) := by
  have e1 := k_alg d x1 y1 h1
  have e2 := k_alg d x2 y2 h2
  have e3 : (x1 * x2) * (x1 * x2) * ((1 + d * (y1 * y1)) * (1 + d * (y2 * y2))) = (y1 * y1 - 1) * (y2 * y2 - 1) := by
    rw [← e1, ← e2]; grind -lia -linarith (splits := 0)
  have f1 : (1 + d * (x1 * y1) * (x2 * y2) - (y1 * y2 - x1 * x2)) * (1 - d * (x1 * y1) * (x2 * y2) - (y1 * y2 + x1 * x2)) = (1 - y1 * y2) * (1 - y1 * y2) - (x1 * x2) * (x1 * x2) * ((1 + d * (y1 * y2)) * (1 + d * (y1 * y2))) := by grind -lia -linarith (splits := 0)
  have f2 : (1 + d * (x1 * y1) * (x2 * y2) + (y1 * y2 - x1 * x2)) * (1 - d * (x1 * y1) * (x2 * y2) + (y1 * y2 + x1 * x2)) = (1 + y1 * y2) * (1 + y1 * y2) - (x1 * x2) * (x1 * x2) * ((1 - d * (y1 * y2)) * (1 - d * (y1 * y2))) := by grind -lia -linarith (splits := 0)
  rw [f1, f2]
  generalize (x1 * x2) * (x1 * x2) = M at e3 ⊢
  have g1 : ∀ A B C K : Fp, A * (B - M * C) * K = A * (B * K - (M * K) * C) := fun A B C K => by grind -lia -linarith (splits := 0)
  rw [g1, g1, e3]
  clear e1 e2 e3 f1 f2 g1 h1 h2
  grind -lia -linarith (splits := 0)
theorem neg_of {d k : Fp} (h : d * (k + 1) + k = 0) : d * (k + 1) = -k := by grind -lia -linarith (splits := 0)
theorem sq_one_gen {a : Fp} (h : a = 1 ∨ a = -1) : a * a - 1 = 0 := by rcases h with h | h <;> grind -lia -linarith (splits := 0)
theorem neg_zero' {z : Fp} (hz : z = 0) : -z = z := by grind -lia -linarith (splits := 0)
theorem F_two_mul {a b : Fp} (h1 : a + b = 0) (h2 : a - b = 0) : a = 0 ∧ b = 0 := by
  have e : (2 : Fp) * a = 0 := by grind -lia -linarith (splits := 0)
  have ha : a = 0 := (F_mul_zero e).resolve_left F_two
  exact ⟨ha, by rw [ha] at h1; grind -lia -linarith (splits := 0)⟩
theorem F_sq_zero {a : Fp} (h : a * a = 0) : a = 0 := (F_mul_zero h).elim id id
theorem one_sub {y : Fp} (e : 1 - y = 0) : y = 1 := by grind -lia -linarith (splits := 0)
theorem one_add {y : Fp} (e : 1 + y = 0) : y = -1 := by grind -lia -linarith (splits := 0)
theorem zero_mul' {y u : Fp} (e : u = 0) : u * y = 0 := by rw [e]; grind -lia -linarith (splits := 0)
theorem mul_zero' (y : Fp) : y * 0 = 0 := by grind -lia -linarith (splits := 0)
theorem add_zero' (a : Fp) {z : Fp} (hz : z = 0) : a + z = a := by rw [hz]; grind -lia -linarith (splits := 0)
theorem sub_flip {a b : Fp} (e : b - a = 0) : a - b = 0 := by grind -lia -linarith (splits := 0)
theorem core1 {u yd w1 w2 s y1 y2 : Fp} : (1 - yd) * ((s * (y1 + y2)) * (s * (y1 + y2)) - u * ((s * (y2 - y1)) * (s * (y2 - y1)))) = s * s * ((y1 + y2) * (y1 + y2) * (1 - yd) - (u * (1 - yd)) * ((y2 - y1) * (y2 - y1))) := by grind -lia -linarith (splits := 0)
theorem core2 {u yd s y1 y2 y3 : Fp} : (1 - yd) * (y3 * ((s * (y1 + y2)) * (s * (y1 + y2)) + u * ((s * (y2 - y1)) * (s * (y2 - y1))))) = s * s * (y3 * ((y1 + y2) * (y1 + y2) * (1 - yd) + (u * (1 - yd)) * ((y2 - y1) * (y2 - y1)))) := by grind -lia -linarith (splits := 0)
theorem core3 {w3 w4 yd y3 : Fp} (h : w3 * ((1 - yd) * (1 - y3)) = w4 * ((1 + yd) * (1 + y3))) : w3 * (1 - yd) - (1 + yd) * w4 = y3 * (w3 * (1 - yd) + (1 + yd) * w4) := by grind -lia -linarith (splits := 0)
theorem core4 {w w2 w3 w4 yd y3 : Fp} (key : w3 * ((1 + w - yd * (1 + w)) * (1 - w - y3 * (1 - w))) * w2 = w4 * ((1 + w + yd * (1 + w)) * (1 - w + y3 * (1 - w))) * w2) : (1 - w) * (1 + w) * w2 * (w3 * ((1 - yd) * (1 - y3))) = (1 - w) * (1 + w) * w2 * (w4 * ((1 + yd) * (1 + y3))) := by grind -lia -linarith (splits := 0)
theorem core5 {d x1 y1 z : Fp} (hz : z = 0) (hy : y1 = z) (h1 : y1 * y1 - x1 * x1 = 1 + d * (x1 * y1) * (x1 * y1)) : x1 * x1 = -1 := by grind -lia -linarith (splits := 0)
theorem core6 {d x1 y1 x2 y2 yd z : Fp} (hz : z = 0) (e1 : y1 = z) (e2 : y2 = z) (h : yd * (1 + d * (x1 * y1) * (x2 * y2)) = y1 * y2 - x1 * x2) : yd = -(x1 * x2) := by grind -lia -linarith (splits := 0)
theorem core7 {x1 x2 yd : Fp} (h1 : x1 * x1 = -1) (h2 : x2 * x2 = -1) (e : yd = -(x1 * x2)) : (1 - yd) * (1 + yd) = 0 := by
  have : (1 - yd) * (1 + yd) = 1 - (x1 * x1) * (x2 * x2) := by rw [e]; grind -lia -linarith (splits := 0)
  rw [this, h1, h2]; grind -lia -linarith (splits := 0)
theorem dadd_core {d u s1 s2 x1 y1 x2 y2 yd y3 : Fp} (h1 : y1 * y1 - x1 * x1 = 1 + d * (x1 * y1) * (x1 * y1)) (h2 : y2 * y2 - x2 * x2 = 1 + d * (x2 * y2) * (x2 * y2))
    (hyd : yd * (1 + d * (x1 * y1) * (x2 * y2)) = y1 * y2 - x1 * x2) (hy3 : y3 * (1 - d * (x1 * y1) * (x2 * y2)) = y1 * y2 + x1 * x2) (hu : u * (1 - yd) = 1 + yd)
    (n1 : s1 ≠ 0) (n2 : s2 ≠ 0) (n3 : yd ≠ 1) (n4 : yd ≠ -1) (n5 : 1 - d * (x1 * y1) * (x2 * y2) ≠ 0) (n6 : 1 + d * (x1 * y1) * (x2 * y2) ≠ 0) (n7 : 1 + d * (y1 * y1) ≠ 0) (n8 : 1 + d * (y2 * y2) ≠ 0) :
    (s1 * s2 * (y1 + y2)) * (s1 * s2 * (y1 + y2)) + u * ((s1 * s2 * (y2 - y1)) * (s1 * s2 * (y2 - y1))) ≠ 0 ∧
    (s1 * s2 * (y1 + y2)) * (s1 * s2 * (y1 + y2)) - u * ((s1 * s2 * (y2 - y1)) * (s1 * s2 * (y2 - y1))) = y3 * ((s1 * s2 * (y1 + y2)) * (s1 * s2 * (y1 + y2)) + u * ((s1 * s2 * (y2 - y1)) * (s1 * s2 * (y2 - y1)))) := by
  have m3 : 1 - yd ≠ 0 := fun e => n3 (one_sub e)
  have m4 : 1 + yd ≠ 0 := fun e => n4 (one_add e)
  have hu0 : u ≠ 0 := fun e => m4 (by rw [← hu]; exact zero_mul' e)
  have key := dadd_alg d x1 y1 x2 y2 h1 h2
  rw [← hyd, ← hy3] at key
  have main : (y1 + y2) * (y1 + y2) * ((1 - yd) * (1 - y3)) = (y2 - y1) * (y2 - y1) * ((1 + yd) * (1 + y3)) :=
    F_cancel (F_mul_ne (F_mul_ne n5 n6) (F_mul_ne n7 n8)) (core4 key)
  have eq : (s1 * s2 * (y1 + y2)) * (s1 * s2 * (y1 + y2)) - u * ((s1 * s2 * (y2 - y1)) * (s1 * s2 * (y2 - y1))) = y3 * ((s1 * s2 * (y1 + y2)) * (s1 * s2 * (y1 + y2)) + u * ((s1 * s2 * (y2 - y1)) * (s1 * s2 * (y2 - y1)))) := by
    refine F_cancel m3 ?_
    rw [core1 (w1 := 0) (w2 := 0), core2, hu, core3 main]
  refine ⟨fun e => ?_, eq⟩
  rw [e, mul_zero'] at eq
  obtain ⟨z1, z2⟩ := F_two_mul e eq
  have z3 := (F_mul_zero (F_sq_zero z1)).resolve_left (F_mul_ne n1 n2)
  have z4 := (F_mul_zero (F_sq_zero ((F_mul_zero z2).resolve_left hu0))).resolve_left (F_mul_ne n1 n2)
  obtain ⟨e1, e2⟩ := F_two_mul z3 (sub_flip z4)
  rcases F_mul_zero (core7 (core5 rfl e1 h1) (core5 rfl e2 h2) (core6 rfl e1 e2 hyd)) with z | z
  · exact m3 z
  · exact m4 z
theorem rp_add {d i : Fp} (h : Crv d i) {p q : P2 Fp} {u yd : Fp} {a b : Fp × Fp} (ha : OnA d a) (hb : OnA d b) (hp : Rp p a.2) (hq : Rp q b.2)
    (hyd : yd * (1 + d * (a.1 * a.2) * (b.1 * b.2)) = a.2 * b.2 - a.1 * b.1) (n3 : yd ≠ 1) (n4 : yd ≠ -1) (hu : u * (1 - yd) = 1 + yd) : Rp (stepO opsF p q u).2 (addA d a b).2 := by
  have hX : (stepO opsF p q u).2.x = ((q.x - q.z) * (p.x + p.z) + (q.x + q.z) * (p.x - p.z)) * ((q.x - q.z) * (p.x + p.z) + (q.x + q.z) * (p.x - p.z)) := rfl
  have hZ : (stepO opsF p q u).2.z = u * (((q.x - q.z) * (p.x + p.z) - (q.x + q.z) * (p.x - p.z)) * ((q.x - q.z) * (p.x + p.z) - (q.x + q.z) * (p.x - p.z))) := rfl
  have hY : (addA d a b).2 = (a.2 * b.2 + a.1 * b.1) * invF (1 - d * (a.1 * a.2) * (b.1 * b.2)) := rfl
  obtain ⟨hs1, he1⟩ := hp
  obtain ⟨hs2, he2⟩ := hq
  generalize p.x + p.z = s1 at *
  generalize p.x - p.z = t1 at *
  generalize q.x + q.z = s2 at *
  generalize q.x - q.z = t2 at *
  subst he1 he2
  have n := den_ne h ha hb
  have b3 := div_back (a := a.2 * b.2 + a.1 * b.1) n.1
  rw [← hY] at b3
  obtain ⟨c1, c2⟩ := dadd_core (s1 := s1) (s2 := s2) ha hb hyd b3 hu hs1 hs2 n3 n4 n.1 n.2 (k_ne h ha) (k_ne h hb)
  have e1 : b.2 * s2 * s1 + s2 * (a.2 * s1) = s1 * s2 * (a.2 + b.2) := by grind -lia -linarith (splits := 0)
  have e2 : b.2 * s2 * s1 - s2 * (a.2 * s1) = s1 * s2 * (b.2 - a.2) := by grind -lia -linarith (splits := 0)
  rw [e1] at hX
  rw [e2] at hZ
  exact ⟨by rw [hX, hZ]; exact c1, by rw [hX, hZ]; exact c2⟩
/-! ### the ladder -/
theorem diff_y {d i : Fp} (h : Crv d i) {a b D : Fp × Fp} (ha : OnA d a) (hD : OnA d D) (e : b = addA d a D) : D.2 * (1 + d * (a.1 * a.2) * (b.1 * b.2)) = a.2 * b.2 - a.1 * b.1 := by
  have hb : OnA d b := by rw [e]; exact OnA.add h ha hD
  have e1 : addA d (negA a) b = D := by
    rw [e, ← addA_assoc h ha.neg ha hD, addA_comm d (negA a) a, addA_neg h ha, zero_addA]
  have n := (den_ne h ha.neg hb).1
  have e2 : (addA d (negA a) b).2 = (a.2 * b.2 + -a.1 * b.1) * invF (1 - d * (-a.1 * a.2) * (b.1 * b.2)) := rfl
  have n2 : 1 - d * (-a.1 * a.2) * (b.1 * b.2) ≠ 0 := n
  have b3 := div_back (a := a.2 * b.2 + -a.1 * b.1) n2
  rw [← e2, e1] at b3
  generalize D.2 = y at *
  clear e1 e2 n n2 hb hD ha e
  grind -lia -linarith (splits := 0)
def nb (k : List UInt8) : Nat → Nat
  | 0 => 0
  | j + 1 => 2 * nb k j + cond (bitK k (254 - j)) 1 0
theorem lad_pt {d i : Fp} (h : Crv d i) (hd : d * (kA + 1) = -kA) (hk : kA + 1 ≠ 0) {D : Fp × Fp} (hD : OnA d D) (n3 : D.2 ≠ 1) (n4 : D.2 ≠ -1) {u : Fp} (hu : u * (1 - D.2) = 1 + D.2) (k : List UInt8) (h1 : opsF.small 1 = 1) :
    ∀ j, Rp (ladO opsF k u j).1 (mulA d D (nb k j)).2 ∧ Rp (ladO opsF k u j).2 (mulA d D (nb k j + 1)).2
  | 0 => by
    have m3 : 1 - D.2 ≠ 0 := fun e => n3 (one_sub e)
    have hz : opsF.zero = 0 := rfl
    constructor
    · show Rp ⟨opsF.small 1, opsF.zero⟩ (zeroA).2
      rw [h1, hz]
      refine ⟨?_, ?_⟩
      · show (1 : Fp) + 0 ≠ 0
        rw [add_zero' _ rfl]; exact F_one
      · show (1 : Fp) - 0 = 1 * (1 + 0)
        grind -lia -linarith (splits := 0)
    · show Rp ⟨u, opsF.small 1⟩ (mulA d D 1).2
      rw [h1, mulA_one]
      generalize D.2 = y at *
      refine ⟨?_, ?_⟩
      · show u + 1 ≠ 0
        intro e
        refine F_two ?_
        have : (u + 1) * (1 - y) = 2 := by
          have e2 : (u + 1) * (1 - y) = u * (1 - y) + (1 - y) := by grind -lia -linarith (splits := 0)
          rw [e2, hu]; grind -lia -linarith (splits := 0)
        rw [← this, e]; grind -lia -linarith (splits := 0)
      · show u - 1 = y * (u + 1)
        grind -lia -linarith (splits := 0)
  | j + 1 => by
    obtain ⟨ih1, ih2⟩ := lad_pt h hd hk hD n3 n4 hu k h1 j
    have o1 := OnA.mul h hD (nb k j)
    have o2 := OnA.mul h hD (nb k j + 1)
    have e : mulA d D (nb k j + 1) = addA d (mulA d D (nb k j)) D := rfl
    have y1 := diff_y h o1 hD e
    unfold ladO rndO nb
    cases bitK k (254 - j) with
    | false =>
      have s1 := rp_dbl (q := (ladO opsF k u j).2) (u := u) h hd hk o1 ih1
      have s2 := rp_add h o1 o2 ih1 ih2 y1 n3 n4 hu
      rw [← mulA_add h hD] at s1 s2
      simp only [cond_false]
      rw [show 2 * nb k j + 0 = nb k j + nb k j by omega, show nb k j + nb k j + 1 = nb k j + (nb k j + 1) by omega]
      exact ⟨s1, s2⟩
    | true =>
      have y2 : D.2 * (1 + d * ((mulA d D (nb k j + 1)).1 * (mulA d D (nb k j + 1)).2) * ((mulA d D (nb k j)).1 * (mulA d D (nb k j)).2)) = (mulA d D (nb k j + 1)).2 * (mulA d D (nb k j)).2 - (mulA d D (nb k j + 1)).1 * (mulA d D (nb k j)).1 := by
        generalize mulA d D (nb k j + 1) = b at *
        generalize mulA d D (nb k j) = a at *
        clear ih1 ih2 o1 o2 e
        generalize D.2 = y at *
        grind -lia -linarith (splits := 0)
      have s1 := rp_dbl (q := (ladO opsF k u j).1) (u := u) h hd hk o2 ih2
      have s2 := rp_add h o2 o1 ih2 ih1 y2 n3 n4 hu
      rw [← mulA_add h hD] at s1 s2
      simp only [cond_true]
      rw [show 2 * nb k j + 1 + 1 = nb k j + 1 + (nb k j + 1) by omega, show 2 * nb k j + 1 = nb k j + 1 + nb k j by omega]
      exact ⟨s2, s1⟩
/-- The first coordinate of a point. -/
noncomputable def uF (y : Fp) : Fp := (1 + y) * invF (1 - y)
theorem inv_zero : invF (0 : Fp) = 0 := by
  unfold invF
  rw [dif_neg (fun h => h rfl)]
theorem rp_val {p : P2 Fp} {y : Fp} (h : Rp p y) : p.x * invF p.z = uF y := by
  obtain ⟨hs, he⟩ := h
  unfold uF
  by_cases hz : p.z = 0
  · have hy : 1 - y = 0 := by
      rw [hz] at hs he
      have h1 : p.x ≠ 0 := fun e => hs (by rw [e]; exact add_zero' _ rfl)
      refine (F_mul_zero (a := p.x) ?_).resolve_left h1
      generalize p.x = x at *
      grind -lia -linarith (splits := 0)
    rw [hz, hy, inv_zero, mul_zero', mul_zero']
  · have hy : 1 - y ≠ 0 := fun e => by
      have e2 : y = 1 := one_sub e
      rw [e2] at he
      have e3 : (2 : Fp) * p.z = 0 := by
        generalize p.z = z at *
        generalize p.x = x at *
        grind -lia -linarith (splits := 0)
      exact hz ((F_mul_zero e3).resolve_left F_two)
    have a1 := invF_mul hz
    have a2 := invF_mul hy
    generalize invF p.z = w1 at *
    generalize invF (1 - y) = w2 at *
    refine F_cancel (F_mul_ne hz hy) ?_
    have b1 : p.z * (1 - y) * (p.x * w1) = p.x * (1 - y) * (p.z * w1) := by grind -lia -linarith (splits := 0)
    have b2 : p.z * (1 - y) * ((1 + y) * w2) = p.z * (1 + y) * ((1 - y) * w2) := by grind -lia -linarith (splits := 0)
    rw [b1, b2, a1, a2]
    generalize p.z = z at *
    generalize p.x = x at *
    grind -lia -linarith (splits := 0)
end Go.Num

/- Both sides' numbers modulo the order are the same; the ring's laws. -/
namespace Go.Num
set_option linter.unusedVariables false
set_option linter.unusedSimpArgs false
open Go Go.Eng
def eqL : List UInt64 → List UInt64 → Bool
  | x :: l, y :: m => (x == y) && eqL l m
  | _, _ => true
def sameN (a b : N16) : Bool := eqL a.list b.list
theorem eqL_eq : ∀ (l m : List UInt64), l.length = m.length → eqL l m = decide (l = m)
  | [], [], _ => rfl
  | [], _ :: _, h => by cases h
  | _ :: _, [], h => by cases h
  | x :: l, y :: m, h => by
    rw [Bool.eq_iff_iff]
    simp [eqL, eqL_eq l m (by simpa using h)]
theorem sameN_eq (a b : N16) : sameN a b = decide (a = b) := by
  unfold sameN
  rw [eqL_eq a.list b.list rfl, decide_eq_decide]
  exact ⟨fun h => by rw [← ofL_list a, ← ofL_list b, h], fun h => by rw [h]⟩
theorem oE_ok (s : List UInt8) : (oE s == 0) = okL s := by
  unfold oE
  cases okL s <;> rfl
theorem oV_ok {s : List UInt8} (h : okL s = true) : oV s = ofW s := by unfold oV; rw [h]; rfl
theorem okL_len {s : List UInt8} (h : okL s = true) : s.length = 32 ∨ s.length = 64 := by
  rw [okL_eq, Bool.or_eq_true, isLen_eq, isLen_eq] at h; exact h
theorem okL_ble {s : List UInt8} (h : okL s = true) : Nat.ble s.length 100000 = true := by
  rcases okL_len h with h | h <;> rw [h] <;> rfl
theorem of_same (s : List UInt8) : (ofW s).val = (ofN s).val := by rw [ofW_val, (ofN_val s).2]
theorem is_of (s : List UInt8) : bytesW (ofW s) = bytesN (ofN s) := same_bytes (ofN_val s).1 (of_same s)
theorem is_add (s t : List UInt8) : bytesW (addW (ofW s) (ofW t)) = bytesN (addN (ofN s) (ofN t)) := by
  obtain ⟨o, e⟩ := addN_val _ _ (ofN_val s).1 (ofN_val t).1
  refine same_bytes o ?_
  rw [e, addW_val _ _ (ofW_lt s) (ofW_lt t), of_same, of_same]
theorem is_mul (s t : List UInt8) : bytesW (mulW (ofW s) (ofW t)) = bytesN (mulN (ofN s) (ofN t)) := by
  obtain ⟨o, e⟩ := mulN_val _ _ (ofN_val s).1 (ofN_val t).1
  refine same_bytes o ?_
  rw [e, mulW_val, of_same, of_same]
theorem is_neg (s : List UInt8) : bytesW (negW (ofW s)) = bytesN (negN (ofN s)) := by
  obtain ⟨o, e⟩ := negN_val _ (ofN_val s).1 (ofN_lt s)
  refine same_bytes o ?_
  rw [e, negW_val _ (ofW_lt s), of_same]
theorem same_same (s t : List UInt8) : sameW (ofW s) (ofW t) = sameN (ofN s) (ofN t) := by
  rw [sameW_eq, sameN_eq, decide_eq_decide]
  exact ⟨fun h => N16.ext_val (ofN_val s).1 (ofN_val t).1 (by rw [← of_same, ← of_same, h]), fun h => W4.ext_val (by rw [of_same, of_same, h])⟩
theorem canon_same (s : List UInt8) : canonW s = canonN s := by
  unfold canonW
  rw [canonN_eq, oE_ok, okL_eq]
  cases h : isLen s 32
  · cases h2 : isLen s 64
    · rfl
    · have hl := isLen_eq.1 h2
      rw [Bool.or_true, Bool.true_and, Bool.false_and, beq_eq_false_iff_ne, ne_eq]
      intro e
      have := congrArg List.length e
      rw [bytesW_len, hl] at this
      omega
  · have hl := isLen_eq.1 h
    have hk : okL s = true := by rw [okL_eq, h]; rfl
    rw [Bool.true_or, Bool.true_and, Bool.true_and, oV_ok hk, Bool.eq_iff_iff, beq_iff_eq, decide_eq_true_iff]
    constructor
    · intro e
      have h1 := bytesW_val (ofW s)
      rw [e] at h1
      have := ofW_lt s
      omega
    · intro hlt
      refine leNat_inj (by rw [bytesW_len, hl]) ?_
      rw [bytesW_val, ofW_val, Nat.mod_eq_of_lt hlt]
/-! ### the ring -/
theorem ofW_of {a : W4} (h : a.val < Lq) : ofW (bytesW a) = a := W4.ext_val (by rw [ofW_val, bytesW_val, Nat.mod_eq_of_lt h])
theorem addW_lt {a b : W4} (ha : a.val < Lq) (hb : b.val < Lq) : (addW a b).val < Lq := by rw [addW_val a b ha hb]; exact Nat.mod_lt _ Lq_pos
theorem mulW_lt (a b : W4) : (mulW a b).val < Lq := by rw [mulW_val]; exact Nat.mod_lt _ Lq_pos
theorem negW_lt {a : W4} (ha : a.val < Lq) : (negW a).val < Lq := by rw [negW_val a ha]; exact Nat.mod_lt _ Lq_pos
theorem addW_comm {a b : W4} (ha : a.val < Lq) (hb : b.val < Lq) : addW a b = addW b a := W4.ext_val (by rw [addW_val a b ha hb, addW_val b a hb ha, Nat.add_comm])
theorem mulW_comm (a b : W4) : mulW a b = mulW b a := W4.ext_val (by rw [mulW_val, mulW_val, Nat.mul_comm])
theorem addW_assoc {a b c : W4} (ha : a.val < Lq) (hb : b.val < Lq) (hc : c.val < Lq) : addW (addW a b) c = addW a (addW b c) :=
  W4.ext_val (by rw [addW_val _ c (addW_lt ha hb) hc, addW_val a _ ha (addW_lt hb hc), addW_val a b ha hb, addW_val b c hb hc, Nat.mod_add_mod, Nat.add_mod_mod, Nat.add_assoc])
theorem mulW_assoc (a b c : W4) : mulW (mulW a b) c = mulW a (mulW b c) :=
  W4.ext_val (by
    rw [mulW_val, mulW_val, mulW_val, mulW_val, Nat.mod_mul_mod, Nat.mul_mod_mod, Nat.mul_assoc])
theorem mulW_add {a b c : W4} (hb : b.val < Lq) (hc : c.val < Lq) : mulW a (addW b c) = addW (mulW a b) (mulW a c) :=
  W4.ext_val (by
    rw [mulW_val, addW_val b c hb hc, addW_val _ _ (mulW_lt a b) (mulW_lt a c), mulW_val, mulW_val, Nat.mul_mod_mod, Nat.mul_add, Nat.mod_add_mod, Nat.add_mod_mod])
theorem addW_neg {a : W4} (ha : a.val < Lq) : addW a (negW a) = zeroW :=
  W4.ext_val (by
    rw [addW_val a _ ha (negW_lt ha), negW_val a ha, Nat.add_mod_mod]
    have : a.val + (Lq - a.val) = Lq := by omega
    rw [this, Nat.mod_self]; rfl)
theorem canon_bytes {a : W4} (ha : a.val < Lq) : canonW (bytesW a) = true := by
  have hk : okL (bytesW a) = true := by rw [okL_eq, isLen_eq.2 (bytesW_len a)]; rfl
  unfold canonW
  rw [oE_ok, hk, oV_ok hk, ofW_of ha]
  simp
end Go.Num
namespace Go.Num
set_option linter.unusedVariables false
set_option linter.unusedSimpArgs false
def z32 : List UInt8 := List.replicate 32 0
end Go.Num

/- Points: what the program and the document reckon, over whatever functions the numbers have. -/
namespace Go.Num
set_option linter.unusedVariables false
set_option linter.unusedSimpArgs false
open Go Go.Eng
set_option maxRecDepth 100000
structure Fe where
  add : E5 → E5 → E5
  sub : E5 → E5 → E5
  mul : E5 → E5 → E5
  neg : E5 → E5
  inv : E5 → E5
  same : E5 → E5 → Bool
  odd : E5 → Bool
  small : UInt32 → E5
  root : E5 → E5
  has : E5 → Bool
  of : List UInt8 → E5
  ofR : List UInt8 → Int
  canon : List UInt8 → Bool
  byE : E5 → Nat → UInt8
  addN : N16 → N16 → N16
  subN : N16 → N16 → N16
  mulN : N16 → N16 → N16
  negN : N16 → N16
  invN : N16 → N16
  rootN : N16 → N16
  hasN : N16 → Bool
  smallN : UInt32 → N16
  ofN : List UInt8 → N16
  canonN : List UInt8 → Bool
  byN : N16 → Nat → UInt8
  ok : N16 → Bool
  l32 : List UInt8 → Bool
  sby : W4 → Nat → UInt8
def realFe : Fe := ⟨addE, subE, mulE, negE, invE, sameE, oddE, smallE, rootE, hasE, ofEl, ofEr, canonE, fun a i => byteE (reducedE a) i, addP, subP, mulP, negP, invP, rootP, hasP, smallN, ofP, canonP, fun a i => (shr_u64 (a.list.getD (i / 2) 0) (i % 2 * 8)).toUInt8, okB, fun s => isLen s 32, fun a i => (shr_u64 (wordAt a (i / 8)) (i % 8 * 8)).toUInt8⟩
def opsφ (φ : Fe) : Ops E5 := ⟨φ.add, φ.sub, φ.mul, φ.small, zeroE⟩
def opsφN (φ : Fe) : Ops N16 := ⟨φ.addN, φ.subN, φ.mulN, φ.smallN, zeroN⟩
def dBytes : List UInt8 := [0xa3, 0x78, 0x59, 0x13, 0xca, 0x4d, 0xeb, 0x75, 0xab, 0xd8, 0x41, 0x41, 0x4d, 0x0a, 0x70, 0x00, 0x98, 0xe8, 0x79, 0x77, 0x79, 0x40, 0xc7, 0x8c, 0x73, 0xfe, 0x6f, 0x2b, 0xee, 0x6c, 0x03, 0x52]
def pCells (p : P4 E5) : List AVal := [.u64 p.x.x0, .u64 p.x.x1, .u64 p.x.x2, .u64 p.x.x3, .u64 p.x.x4, .u64 p.y.x0, .u64 p.y.x1, .u64 p.y.x2, .u64 p.y.x3, .u64 p.y.x4, .u64 p.z.x0, .u64 p.z.x1, .u64 p.z.x2, .u64 p.z.x3, .u64 p.z.x4, .u64 p.t.x0, .u64 p.t.x1, .u64 p.t.x2, .u64 p.t.x3, .u64 p.t.x4]
def qCells (p : P4 N16) : List AVal := [.u64 p.x.x0, .u64 p.x.x1, .u64 p.x.x2, .u64 p.x.x3, .u64 p.x.x4, .u64 p.x.x5, .u64 p.x.x6, .u64 p.x.x7, .u64 p.x.x8, .u64 p.x.x9, .u64 p.x.x10, .u64 p.x.x11, .u64 p.x.x12, .u64 p.x.x13, .u64 p.x.x14, .u64 p.x.x15, .u64 p.y.x0, .u64 p.y.x1, .u64 p.y.x2, .u64 p.y.x3, .u64 p.y.x4, .u64 p.y.x5, .u64 p.y.x6, .u64 p.y.x7, .u64 p.y.x8, .u64 p.y.x9, .u64 p.y.x10, .u64 p.y.x11, .u64 p.y.x12, .u64 p.y.x13, .u64 p.y.x14, .u64 p.y.x15, .u64 p.z.x0, .u64 p.z.x1, .u64 p.z.x2, .u64 p.z.x3, .u64 p.z.x4, .u64 p.z.x5, .u64 p.z.x6, .u64 p.z.x7, .u64 p.z.x8, .u64 p.z.x9, .u64 p.z.x10, .u64 p.z.x11, .u64 p.z.x12, .u64 p.z.x13, .u64 p.z.x14, .u64 p.z.x15, .u64 p.t.x0, .u64 p.t.x1, .u64 p.t.x2, .u64 p.t.x3, .u64 p.t.x4, .u64 p.t.x5, .u64 p.t.x6, .u64 p.t.x7, .u64 p.t.x8, .u64 p.t.x9, .u64 p.t.x10, .u64 p.t.x11, .u64 p.t.x12, .u64 p.t.x13, .u64 p.t.x14, .u64 p.t.x15]
def pAv (p : P4 E5) : AVal := .agg (pCells p)
def qAv (p : P4 N16) : AVal := .agg (qCells p)
/-! ### the program's -/
section
variable (φ : Fe)
def emptyE : P4 E5 := ⟨zeroE, zeroE, zeroE, zeroE⟩
def zeroφ : P4 E5 := ⟨zeroE, φ.small 1, φ.small 1, zeroE⟩
def noneφ (p : P4 E5) : Bool := φ.same p.z zeroE
def curveφ : E5 := φ.of dBytes
def addφ (p q : P4 E5) : P4 E5 := cond (noneφ φ p) emptyE (cond (noneφ φ q) emptyE (addO (opsφ φ) (curveφ φ) p q))
def negφ (p : P4 E5) : P4 E5 := cond (noneφ φ p) emptyE (negO φ.neg p)
def sameφ (p q : P4 E5) : Bool := cond (noneφ φ p) false (cond (noneφ φ q) false (cond (φ.same (φ.mul p.x q.z) (φ.mul q.x p.z)) (φ.same (φ.mul p.y q.z) (φ.mul q.y p.z)) false))
def smallφ (p : P4 E5) : Bool := sameφ φ (addφ φ (addφ φ (addφ φ p p) (addφ φ p p)) (addφ φ (addφ φ p p) (addφ φ p p))) (zeroφ φ)
def byLφ (a : E5) : List UInt8 := (List.range 32).map (φ.byE a)
def top128 (l : List UInt8) : List UInt8 := l.set 31 (l.getD 31 0 ||| 128)
def bytesφ (p : P4 E5) : List UInt8 := cond (noneφ φ p) [] (cond (φ.odd (φ.mul p.x (φ.inv p.z))) (top128 (byLφ φ (φ.mul p.y (φ.inv p.z)))) (byLφ φ (φ.mul p.y (φ.inv p.z))))
def yφ (s : List UInt8) : E5 := φ.of (topL s)
def vφ (s : List UInt8) : E5 := φ.add (φ.mul (curveφ φ) (φ.mul (yφ φ s) (yφ φ s))) (φ.small 1)
def uφ (s : List UInt8) : E5 := φ.mul (φ.sub (φ.mul (yφ φ s) (yφ φ s)) (φ.small 1)) (φ.inv (vφ φ s))
def decOdd (s : List UInt8) : Bool := shr_u8 (s.getD 31 0) 7 == 1
def xφ (s : List UInt8) : E5 := cond (decOdd s) (φ.neg (φ.root (uφ φ s))) (φ.root (uφ φ s))
def okφ (s : List UInt8) : Bool := cond (φ.canon (topL s)) (cond (φ.has (uφ φ s)) (cond (decOdd s) (!φ.same (φ.root (uφ φ s)) zeroE) true) false) false
def decPφ (s : List UInt8) : P4 E5 := ⟨xφ φ s, yφ φ s, φ.small 1, φ.mul (xφ φ s) (yφ φ s)⟩
def decφ (s : List UInt8) : P4 E5 := cond (isLen s 32) (cond (okφ φ s) (decPφ φ s) emptyE) emptyE
def decRφ (s : List UInt8) : Int := cond (isLen s 32) (cond (okφ φ s) 0 40) 2
/-! ### the document's -/
def emptyN : P4 N16 := ⟨zeroN, zeroN, zeroN, zeroN⟩
def zeroψ : P4 N16 := ⟨zeroN, φ.smallN 1, φ.smallN 1, zeroN⟩
def givenφ : N16 := φ.ofN dBytes
def dφ : N16 := φ.mulN (φ.negN (φ.smallN 121665)) (φ.invN (φ.smallN 121666))
def teesφ (p q : P4 N16) : N16 := φ.mulN (φ.mulN (givenφ φ) p.t) q.t
def addψ (p q : P4 N16) : P4 N16 := addO (opsφN φ) (givenφ φ) p q
def negψ (p : P4 N16) : P4 N16 := negO φ.negN p
def sameψ (p q : P4 N16) : Bool := cond (samP (φ.mulN p.x q.z) (φ.mulN q.x p.z)) (samP (φ.mulN p.y q.z) (φ.mulN q.y p.z)) false
def smallψ (p : P4 N16) : Bool := sameψ φ (addψ φ (addψ φ (addψ φ p p) (addψ φ p p)) (addψ φ (addψ φ p p) (addψ φ p p))) (zeroψ φ)
def byLψ (a : N16) : List UInt8 := (List.range 32).map (φ.byN a)
def bytesψ (p : P4 N16) : List UInt8 := (byLψ φ (φ.mulN p.y (φ.invN p.z))).set 31 ((byLψ φ (φ.mulN p.y (φ.invN p.z))).getD 31 0 ||| shl_u8 ((φ.mulN p.x (φ.invN p.z)).x0 &&& 1).toUInt8 7)
def onψ (p : P4 N16) : Bool := samP (φ.mulN (φ.subN (φ.mulN p.y p.y) (φ.mulN p.x p.x)) (φ.mulN p.z p.z)) (φ.addN (φ.mulN (φ.mulN p.z p.z) (φ.mulN p.z p.z)) (φ.mulN (φ.mulN (givenφ φ) (φ.mulN p.x p.x)) (φ.mulN p.y p.y)))
def yψ (s : List UInt8) : N16 := φ.ofN (topL s)
def vψ (s : List UInt8) : N16 := φ.addN (φ.mulN (dφ φ) (φ.mulN (yψ φ s) (yψ φ s))) (φ.smallN 1)
def uψ (s : List UInt8) : N16 := φ.mulN (φ.subN (φ.mulN (yψ φ s) (yψ φ s)) (φ.smallN 1)) (φ.invN (vψ φ s))
def xψ (s : List UInt8) : N16 := cond (decOdd s) (φ.negN (φ.rootN (uψ φ s))) (φ.rootN (uψ φ s))
def okψ (s : List UInt8) : Bool := cond (φ.canonN (topL s)) (cond (φ.hasN (uψ φ s)) (cond (samP (φ.rootN (uψ φ s)) zeroN) (!decOdd s) true) false) false
def ofXYψ (x y : N16) : P4 N16 := ⟨x, y, φ.smallN 1, φ.mulN x y⟩
def decψ (s : List UInt8) : P4 N16 := cond (isLen s 32) (cond (okψ φ s) (ofXYψ φ (xψ φ s) (yψ φ s)) emptyN) emptyN
def decRψ (s : List UInt8) : Int := cond (isLen s 32) (cond (okψ φ s) 0 40) 2
end
def okQ0 (φ : Fe) (p : P4 N16) : Bool := φ.ok p.x && (φ.ok p.y && (φ.ok p.z && φ.ok p.t))
def baseL : List UInt8 := 0x58 :: List.replicate 31 0x66
def partN (n : N16) (k : Nat) : UInt64 := n.list.getD k 0
def bitN16 (n : N16) (i : Nat) : Bool := (shr_u64 (partN n (i / 16)) (i % 16) &&& 1) == 1
/-- Multiples, over any sum. -/
def iterG {R : Type} (add : R → R → R) (zero p : R) (bit : Nat → Bool) : Nat → R
  | 0 => zero
  | j + 1 => cond (bit (255 - j)) (add (add (iterG add zero p bit j) (iterG add zero p bit j)) p) (add (iterG add zero p bit j) (iterG add zero p bit j))
/-! ### values read as data -/
theorem eq_range {α : Type} (d : α) (l : List α) (n : Nat) (h : l.length = n) : l = (List.range n).map fun i => l.getD i d := by
  subst h
  apply List.ext_getElem?
  intro i
  by_cases hi : i < l.length
  · simp [hi, List.getD]
  · simp [hi]
def wordsN (n : Nat) (v : AVal) : Option (List UInt64) := match v with
  | .agg cs => match words64 cs with
    | some l => cond (Nat.beq l.length n) (some l) none
    | none => none
  | _ => none
theorem wordsN_eq {n : Nat} {v : AVal} {l : List UInt64} (h : wordsN n v = some l) : v = .agg (((List.range n).map fun i => l.getD i 0).map .u64) := by
  unfold wordsN at h
  split at h
  · split at h
    · rename_i cs l' hl
      cases hb : Nat.beq l'.length n with
      | false => rw [hb] at h; cases h
      | true =>
        rw [hb] at h
        cases h
        rw [← eq_range 0 l n (Nat.eq_of_beq_eq_true hb), words64_eq hl]
    · cases h
  · cases h
def qOf (v : AVal) : Option (P4 N16) := match wordsN 64 v with
  | some l => some ⟨⟨l.getD 0 0, l.getD 1 0, l.getD 2 0, l.getD 3 0, l.getD 4 0, l.getD 5 0, l.getD 6 0, l.getD 7 0, l.getD 8 0, l.getD 9 0, l.getD 10 0, l.getD 11 0, l.getD 12 0, l.getD 13 0, l.getD 14 0, l.getD 15 0⟩, ⟨l.getD 16 0, l.getD 17 0, l.getD 18 0, l.getD 19 0, l.getD 20 0, l.getD 21 0, l.getD 22 0, l.getD 23 0, l.getD 24 0, l.getD 25 0, l.getD 26 0, l.getD 27 0, l.getD 28 0, l.getD 29 0, l.getD 30 0, l.getD 31 0⟩, ⟨l.getD 32 0, l.getD 33 0, l.getD 34 0, l.getD 35 0, l.getD 36 0, l.getD 37 0, l.getD 38 0, l.getD 39 0, l.getD 40 0, l.getD 41 0, l.getD 42 0, l.getD 43 0, l.getD 44 0, l.getD 45 0, l.getD 46 0, l.getD 47 0⟩, ⟨l.getD 48 0, l.getD 49 0, l.getD 50 0, l.getD 51 0, l.getD 52 0, l.getD 53 0, l.getD 54 0, l.getD 55 0, l.getD 56 0, l.getD 57 0, l.getD 58 0, l.getD 59 0, l.getD 60 0, l.getD 61 0, l.getD 62 0, l.getD 63 0⟩⟩
  | none => none
theorem qOf_eq {v : AVal} {p : P4 N16} (h : qOf v = some p) : v = qAv p := by
  unfold qOf at h
  split at h
  · rename_i l hl
    cases h
    exact wordsN_eq hl
  · cases h
def pOf (v : AVal) : Option (P4 E5) := match wordsN 20 v with
  | some l => some ⟨⟨l.getD 0 0, l.getD 1 0, l.getD 2 0, l.getD 3 0, l.getD 4 0⟩, ⟨l.getD 5 0, l.getD 6 0, l.getD 7 0, l.getD 8 0, l.getD 9 0⟩, ⟨l.getD 10 0, l.getD 11 0, l.getD 12 0, l.getD 13 0, l.getD 14 0⟩, ⟨l.getD 15 0, l.getD 16 0, l.getD 17 0, l.getD 18 0, l.getD 19 0⟩⟩
  | none => none
theorem pOf_eq {v : AVal} {p : P4 E5} (h : pOf v = some p) : v = pAv p := by
  unfold pOf at h
  split at h
  · rename_i l hl
    cases h
    exact wordsN_eq hl
  · cases h
def nOf (v : AVal) : Option N16 := match wordsN 16 v with
  | some l => some ⟨l.getD 0 0, l.getD 1 0, l.getD 2 0, l.getD 3 0, l.getD 4 0, l.getD 5 0, l.getD 6 0, l.getD 7 0, l.getD 8 0, l.getD 9 0, l.getD 10 0, l.getD 11 0, l.getD 12 0, l.getD 13 0, l.getD 14 0, l.getD 15 0⟩
  | none => none
theorem nOf_eq {v : AVal} {p : N16} (h : nOf v = some p) : v = p.av := by
  unfold nOf at h
  split at h
  · rename_i l hl
    cases h
    exact wordsN_eq hl
  · cases h
def wOf (v : AVal) : Option W4 := match wordsN 4 v with
  | some l => some ⟨l.getD 0 0, l.getD 1 0, l.getD 2 0, l.getD 3 0⟩
  | none => none
theorem wOf_eq {v : AVal} {p : W4} (h : wOf v = some p) : v = p.av := by
  unfold wOf at h
  split at h
  · rename_i l hl
    cases h
    exact wordsN_eq hl
  · cases h
def sOf (v : AVal) : Option (List UInt8) := match v with
  | .str s => some s
  | _ => none
theorem sOf_eq {v : AVal} {p : List UInt8} (h : sOf v = some p) : v = .str p := by
  unfold sOf at h
  split at h
  · cases h; rfl
  · cases h
end Go.Num

/- Points: multiples and the rest, over whatever sums points have. -/
namespace Go.Num
set_option linter.unusedVariables false
set_option linter.unusedSimpArgs false
open Go Go.Eng
set_option maxRecDepth 100000
structure Fi where
  add : P4 E5 → P4 E5 → P4 E5
  neg : P4 E5 → P4 E5
  same : P4 E5 → P4 E5 → Bool
  zero : P4 E5
  none : P4 E5 → Bool
  bytes : P4 E5 → List UInt8
  dec : List UInt8 → P4 E5
  decR : List UInt8 → Int
  small : P4 E5 → Bool
  mul : P4 E5 → W4 → P4 E5
  base : P4 E5
  addQ : P4 N16 → P4 N16 → P4 N16
  negQ : P4 N16 → P4 N16
  sameQ : P4 N16 → P4 N16 → Bool
  zeroQ : P4 N16
  bytesQ : P4 N16 → List UInt8
  decQ : List UInt8 → P4 N16
  decRQ : List UInt8 → Int
  smallQ : P4 N16 → Bool
  mulQ : P4 N16 → N16 → P4 N16
  baseQ : P4 N16
  onQ : P4 N16 → Bool
  given : Bool
  okQ : P4 N16 → Bool
  sof : List UInt8 → W4
  sofR : List UInt8 → Int
  sby : W4 → List UInt8
  sadd : W4 → W4 → W4
  smul : W4 → W4 → W4
  sneg : W4 → W4
  nof : List UInt8 → N16
def smallG {P : Type} (add : P → P → P) (same : P → P → Bool) (zero p : P) : Bool := same (add (add (add p p) (add p p)) (add (add p p) (add p p))) zero
def mulG {P : Type} (add : P → P → P) (zero empty : P) (none : P → Bool) (p : P) (bit : Nat → Bool) : P := cond (none p) empty (iterG add zero p bit 256)
def mulE4 (p : P4 E5) (n : W4) : P4 E5 := mulG (addφ realFe) (zeroφ realFe) emptyE (noneφ realFe) p (bitK (bytesW n))
def mulN4 (p : P4 N16) (n : N16) : P4 N16 := iterG (addψ realFe) (zeroψ realFe) p (bitN16 n) 256
def realFi : Fi := {
  add := addφ realFe
  neg := negφ realFe
  same := sameφ realFe
  zero := zeroφ realFe
  none := noneφ realFe
  bytes := bytesφ realFe
  dec := decφ realFe
  decR := decRφ realFe
  small := smallG (addφ realFe) (sameφ realFe) (zeroφ realFe)
  mul := mulE4
  base := decφ realFe baseL
  addQ := addψ realFe
  negQ := negψ realFe
  sameQ := sameψ realFe
  zeroQ := zeroψ realFe
  bytesQ := bytesψ realFe
  decQ := decψ realFe
  decRQ := decRψ realFe
  smallQ := smallG (addψ realFe) (sameψ realFe) (zeroψ realFe)
  mulQ := mulN4
  baseQ := decψ realFe baseL
  onQ := onψ realFe
  given := samP (givenφ realFe) (dφ realFe)
  okQ := okQ0 realFe
  sof := oV
  sofR := oE
  sby := bytesW
  sadd := addW
  smul := mulW
  sneg := negW
  nof := ofN }
theorem given_eq : realFi.given = samP (givenφ realFe) (dφ realFe) := by simp only [realFi]
/-- What the document's sums keep. -/
structure OkI (φ : Fi) : Prop where
  add : ∀ {a b}, φ.okQ a = true → φ.okQ b = true → φ.okQ (φ.addQ a b) = true
  zero : φ.okQ φ.zeroQ = true
theorem iterG_ok {P : Type} {add : P → P → P} {zero p : P} {bit : Nat → Bool} {ok : P → Prop} (hz : ok zero) (hp : ok p) (ha : ∀ a b, ok a → ok b → ok (add a b)) : ∀ j, ok (iterG add zero p bit j)
  | 0 => hz
  | j + 1 => by
    have := iterG_ok (bit := bit) hz hp ha j
    unfold iterG
    cases bit (255 - j)
    · exact ha _ _ this this
    · exact ha _ _ (ha _ _ this this) hp
end Go.Num
namespace Go.Num
set_option linter.unusedVariables false
set_option linter.unusedSimpArgs false
open Go Go.Eng
theorem mul_eq (p : P4 E5) (n : W4) : realFi.mul p n = mulG realFi.add realFi.zero emptyE realFi.none p (bitK (realFi.sby n)) := by simp only [realFi, mulE4]
theorem mulQ_eq (p : P4 N16) (n : N16) : realFi.mulQ p n = iterG realFi.addQ realFi.zeroQ p (bitN16 n) 256 := by simp only [realFi, mulN4]
theorem small_eq (p : P4 E5) : realFi.small p = smallG realFi.add realFi.same realFi.zero p := by simp only [realFi]
theorem smallQ_eq (p : P4 N16) : realFi.smallQ p = smallG realFi.addQ realFi.sameQ realFi.zeroQ p := by simp only [realFi]
theorem base_eq : realFi.base = realFi.dec baseL := by simp only [realFi]
theorem baseQ_eq : realFi.baseQ = realFi.decQ baseL := by simp only [realFi]
theorem sby_len (n : W4) : (realFi.sby n).length = 32 := by
  show (bytesW n).length = 32
  unfold bytesW; rw [List.length_map, List.length_range]
end Go.Num

/- Points: the curve's number, the relations, what the sums keep. -/
namespace Go.Num
set_option linter.unusedVariables false
set_option linter.unusedSimpArgs false
open Go Go.Eng
set_option maxRecDepth 100000
def dNat : Nat := 37095705934669439343138083508754565189542113879843219016388785533085940283555
theorem d_bytes : leNat dBytes = dNat := by kernel_rfl
def dF : Fp := toF dNat
def iF : Fp := toF iNat
theorem i_sq : iNat * iNat % Pq = (Pq - 1 % Pq) % Pq := by kernel_rfl
theorem d_half : pwE Pq dNat (2 * mP) = Pq - 1 := by kernel_rfl
theorem d_ne : dNat % Pq ≠ 0 := by decide
theorem four_mP : 2 * (2 * mP) = Pq - 1 := by decide
theorem one_ne_P : ¬ (1 : Nat) = Pq - 1 := by decide
theorem toF_one : toF 1 = 1 := Fin.ext (Nat.mod_eq_of_lt (by decide))
theorem toF_nil : toF 0 = 0 := Fin.ext rfl
theorem pw_half (x : Nat) : pwE Pq x (2 * mP) = x ^ (2 * mP) % Pq := (pwE_val (by decide) (by kernel_rfl)).symm
theorem not_sq (a w n m : Nat) (hm : 2 * n = m) (hf : ∀ a, a % Pq ≠ 0 → a ^ m % Pq = 1) (hw : w * w % Pq = a % Pq) (ha : a % Pq ≠ 0) : a ^ n % Pq = 1 := by
  have h0 : w % Pq ≠ 0 := fun e => ha (by rw [← hw, Nat.mul_mod, e]; rfl)
  rw [← pow_congr hw, ← Nat.pow_two, ← Nat.pow_mul, hm]
  exact hf w h0
theorem crv : Crv dF iF := ⟨by
    show toF iNat * toF iNat = -1
    rw [← toF_mul, ← toF_one, ← toF_neg]
    exact toF_eq.2 i_sq, fun w hw => by
    have h1 : w.val * w.val % Pq = dNat % Pq := by
      have := congrArg Fin.val hw
      rw [Fin.val_mul] at this
      exact this
    have h2 := not_sq dNat w.val (2 * mP) (Pq - 1) four_mP (fun a ha => genP.fermat ha) h1 d_ne
    rw [← pw_half, d_half] at h2
    exact one_ne_P h2.symm⟩
/-! ### relations -/
def R4 {R S : Type} (r : R → S → Prop) (p : P4 R) (q : P4 S) : Prop := r p.x q.x ∧ r p.y q.y ∧ r p.z q.z ∧ r p.t q.t
theorem add_keeps {R S : Type} {o : Ops R} {o' : Ops S} {r : R → S → Prop} (k : Keeps o o' r) {p q : P4 R} {p' q' : P4 S} {d : R} {d' : S} (hd : r d d') (hp : R4 r p p') (hq : R4 r q q') : R4 r (addO o d p q) (addO o' d' p' q') := by
  have a := k.add (k.mul hp.1 hq.2.1) (k.mul hp.2.1 hq.1)
  have b := k.add (k.mul hp.2.1 hq.2.1) (k.mul hp.1 hq.1)
  have c := k.mul (k.mul hd hp.2.2.2) hq.2.2.2
  have e := k.mul hp.2.2.1 hq.2.2.1
  have f := k.sub e c
  have g := k.add e c
  exact ⟨k.mul a f, k.mul g b, k.mul f g, k.mul a b⟩
structure Re (a : E5) (f : Fp) : Prop where
  ok : a.ok
  val : toF a.val = f
theorem re_of {a : E5} {n : Nat} (h : Vm a n) : Re a (toF n) := ⟨h.ok, toF_eq.2 h.val⟩
theorem Re.vm {a : E5} {f : Fp} (h : Re a f) : Vm a a.val := ⟨h.ok, rfl⟩
theorem keeps_EF : Keeps opsE opsF Re where
  add := fun {a b x y} h k => by
    have := re_of (h.vm.add k.vm)
    rw [toF_add, h.val, k.val] at this
    exact this
  sub := fun {a b x y} h k => by
    have := re_of (h.vm.sub k.vm)
    rw [toF_sub, h.val, k.val] at this
    exact this
  mul := fun {a b x y} h k => by
    have := re_of (h.vm.mul k.vm)
    rw [toF_mul, h.val, k.val] at this
    exact this
  small := fun n => re_of (vm_small n)
  zero := re_of vm_zero
theorem re_neg {a : E5} {f : Fp} (h : Re a f) : Re (negE a) (-f) := by
  have := re_of h.vm.neg
  rw [toF_neg, h.val] at this
  exact this
theorem re_same {a b : E5} {f g : Fp} (h : Re a f) (k : Re b g) : sameE a b = decide (f = g) := by
  rw [h.vm.same k.vm, ← h.val, ← k.val]
  exact decide_eq_decide.2 toF_eq.symm
theorem re_zero : Re zeroE 0 := by have := re_of vm_zero; rw [toF_nil] at this; exact this
theorem re_one : Re (smallE 1) 1 := by
  have := re_of (vm_small 1)
  rw [show (1 : UInt32).toNat = 1 from rfl, toF_one] at this
  exact this
theorem re_inv {a : E5} {f : Fp} (h : Re a f) (hf : f ≠ 0) : Re (invE a) (invF f) := by
  have h1 := inv_one h.ok
  have h2 : a.val % Pq ≠ 0 := fun e => hf (by rw [← h.val]; exact toF_zero.2 e)
  rw [decide_eq_true h2] at h1
  have h3 := re_of (vm_inv h.vm)
  have h4 := keeps_EF.mul h h3
  rw [show opsE.mul a (invE a) = mulE a (invE a) from rfl] at h4
  rw [re_same h4 re_one] at h1
  have h5 : f * toF (a.val ^ (Pq - 2)) = 1 := of_decide_eq_true h1
  have h6 : toF (a.val ^ (Pq - 2)) = invF f := F_cancel hf (by rw [h5, invF_mul hf])
  rw [h6] at h3
  exact h3
theorem re_inv_one {a : E5} (h : Re a 1) : Re (invE a) 1 := by
  have e : invF (1 : Fp) = 1 := by have := invF_mul F_one; grind -lia -linarith (splits := 0)
  have := re_inv h F_one
  rw [e] at this
  exact this
/-- A point: the program's, the document's, the curve's. -/
structure PR (p : P4 E5) (q : P4 N16) (f : P4 Fp) : Prop where
  rel : R4 Rel p q
  val : R4 Re p f
  on : On dF f
theorem rel_d : Rel (curveφ realFe) (givenφ realFe) := rel_of (s := dBytes) (by kernel_rfl)
theorem re_d : Re (curveφ realFe) dF := by
  have h : Re (curveφ realFe) (toF (curveφ realFe).val) := ⟨ofEl_ok _, rfl⟩
  have e : toF (curveφ realFe).val = dF := toF_eq.2 (by
    have := ofEl_val (s := dBytes) (by kernel_rfl)
    rw [d_bytes] at this
    exact this)
  rw [e] at h
  exact h
theorem none_of {p : P4 E5} {f : P4 Fp} (h : R4 Re p f) (hz : f.z ≠ 0) : noneφ realFe p = false := by
  show sameE p.z zeroE = false
  rw [re_same h.2.2.1 re_zero]
  exact decide_eq_false hz
theorem PR.some {p : P4 E5} {q : P4 N16} {f : P4 Fp} (h : PR p q f) : noneφ realFe p = false := none_of h.val h.on.z
theorem add_eq (p q : P4 E5) (hp : noneφ realFe p = false) (hq : noneφ realFe q = false) : addφ realFe p q = addO opsE (curveφ realFe) p q := by
  unfold addφ
  rw [hp, hq, cond_false, cond_false]; rfl
theorem PR.add {p p' : P4 E5} {q q' : P4 N16} {f f' : P4 Fp} (h : PR p q f) (k : PR p' q' f') : PR (addφ realFe p p') (addψ realFe q q') (addO opsF dF f f') := by
  rw [add_eq p p' h.some k.some]
  exact ⟨add_keeps keeps_EN rel_d h.rel k.rel, add_keeps keeps_EF re_d h.val k.val, On.add crv h.on k.on⟩
theorem re_mul {a b : E5} {f g : Fp} (h : Re a f) (k : Re b g) : Re (mulE a b) (f * g) := keeps_EF.mul h k
theorem re_add {a b : E5} {f g : Fp} (h : Re a f) (k : Re b g) : Re (addE a b) (f + g) := keeps_EF.add h k
theorem re_sub {a b : E5} {f g : Fp} (h : Re a f) (k : Re b g) : Re (subE a b) (f - g) := keeps_EF.sub h k
theorem zero_phi : zeroφ realFe = ⟨zeroE, smallE 1, smallE 1, zeroE⟩ := by simp only [zeroφ, realFe]
theorem zero_psi : zeroψ realFe = ⟨zeroN, smallN 1, smallN 1, zeroN⟩ := by simp only [zeroψ, realFe]
theorem r4_mk {R S : Type} {r : R → S → Prop} {a b c d : R} {a' b' c' d' : S} (h1 : r a a') (h2 : r b b') (h3 : r c c') (h4 : r d d') : R4 r ⟨a, b, c, d⟩ ⟨a', b', c', d'⟩ := ⟨h1, h2, h3, h4⟩
theorem re_zero4 : R4 Re ⟨zeroE, smallE 1, smallE 1, zeroE⟩ zero4 := by
  have h0 := re_zero
  have h1 := re_one
  generalize zeroE = a at h0 ⊢
  generalize smallE 1 = b at h1 ⊢
  exact r4_mk h0 h1 h1 h0
theorem rel_zero4 : R4 Rel ⟨zeroE, smallE 1, smallE 1, zeroE⟩ ⟨zeroN, smallN 1, smallN 1, zeroN⟩ := r4_mk rel_zero (rel_small 1) (rel_small 1) rel_zero
theorem neg_phi (p : P4 E5) (h : noneφ realFe p = false) : negφ realFe p = ⟨negE p.x, p.y, p.z, negE p.t⟩ := by
  unfold negφ
  rw [h, cond_false]
  simp only [negO, realFe]
theorem neg_psi (q : P4 N16) : negψ realFe q = ⟨negP q.x, q.y, q.z, negP q.t⟩ := by simp only [negψ, negO, realFe]
theorem PR.neg {p : P4 E5} {q : P4 N16} {f : P4 Fp} (h : PR p q f) : PR (negφ realFe p) (negψ realFe q) (negO (fun a => -a) f) := by
  rw [neg_phi p h.some, neg_psi]
  have e : negO (fun a => -a) f = ⟨-f.x, f.y, f.z, -f.t⟩ := by simp only [negO]
  have o := h.on.neg
  rw [e] at o ⊢
  exact ⟨r4_mk (rel_neg h.rel.1) h.rel.2.1 h.rel.2.2.1 (rel_neg h.rel.2.2.2), r4_mk (re_neg h.val.1) h.val.2.1 h.val.2.2.1 (re_neg h.val.2.2.2), o⟩
theorem pr_zero : PR (zeroφ realFe) (zeroψ realFe) zero4 := by
  rw [zero_phi, zero_psi]
  exact ⟨rel_zero4, re_zero4, On.zero dF⟩
theorem PR.ok {p : P4 E5} {q : P4 N16} {f : P4 Fp} (h : PR p q f) : okQ0 realFe q = true := by
  unfold okQ0
  simp only [Bool.and_eq_true]
  exact ⟨okB_iff.2 h.rel.1.okP, okB_iff.2 h.rel.2.1.okP, okB_iff.2 h.rel.2.2.1.okP, okB_iff.2 h.rel.2.2.2.okP⟩
theorem PR.same {p p' : P4 E5} {q q' : P4 N16} {f f' : P4 Fp} (h : PR p q f) (k : PR p' q' f') : sameφ realFe p p' = sameψ realFe q q' := by
  unfold sameφ sameψ
  rw [h.some, k.some, cond_false, cond_false]
  show cond (sameE (mulE p.x p'.z) (mulE p'.x p.z)) (sameE (mulE p.y p'.z) (mulE p'.y p.z)) false = _
  rw [rel_same (rel_mul h.rel.1 k.rel.2.2.1) (rel_mul k.rel.1 h.rel.2.2.1), rel_same (rel_mul h.rel.2.1 k.rel.2.2.1) (rel_mul k.rel.2.1 h.rel.2.2.1)]
  rfl
theorem PR.same_iff {p p' : P4 E5} {q q' : P4 N16} {f f' : P4 Fp} (h : PR p q f) (k : PR p' q' f') : sameφ realFe p p' = true ↔ aff f = aff f' := by
  rw [← same_aff h.on k.on]
  unfold sameφ SameP
  rw [h.some, k.some, cond_false, cond_false]
  show cond (sameE (mulE p.x p'.z) (mulE p'.x p.z)) (sameE (mulE p.y p'.z) (mulE p'.y p.z)) false = true ↔ _
  rw [re_same (re_mul h.val.1 k.val.2.2.1) (re_mul k.val.1 h.val.2.2.1), re_same (re_mul h.val.2.1 k.val.2.2.1) (re_mul k.val.2.1 h.val.2.2.1)]
  generalize f.x * f'.z = a
  generalize f'.x * f.z = b
  generalize f.y * f'.z = c
  generalize f'.y * f.z = d
  by_cases h1 : a = b
  · rw [decide_eq_true h1, cond_true]
    exact Iff.intro (fun h2 => And.intro h1 (of_decide_eq_true h2)) (fun h2 => decide_eq_true h2.2)
  · rw [decide_eq_false h1, cond_false]
    exact Iff.intro (fun h2 => by cases h2) (fun h2 => absurd h2.1 h1)
theorem PR.small {p : P4 E5} {q : P4 N16} {f : P4 Fp} (h : PR p q f) : realFi.small p = realFi.smallQ q := by
  rw [small_eq, smallQ_eq]
  exact PR.same (((h.add h).add (h.add h)).add ((h.add h).add (h.add h))) pr_zero
end Go.Num

/- Points: bytes, what is read, multiples. -/
namespace Go.Num
set_option linter.unusedVariables false
set_option linter.unusedSimpArgs false
open Go Go.Eng
set_option maxRecDepth 100000
theorem byL_phi (a : E5) : byLφ realFe a = bytesE a := by simp only [byLφ, realFe, bytesE]
theorem byL_psi0 (x : N16) : ((List.range 32).map fun i => (shr_u64 (x.list.getD (i / 2) 0) (i % 2 * 8)).toUInt8) = bytesN x := by kernel_rfl
theorem rel_cond {b : Bool} {x y : E5} {x' y' : N16} (h : Rel x x') (k : Rel y y') : Rel (cond b x y) (cond b x' y') := by
  cases b
  · exact k
  · exact h
theorem ok_bool (c h z d : Bool) : cond c (cond h (cond d (!z) true) false) false = cond c (cond h (cond z (!d) true) false) false := by cases c <;> cases h <;> cases z <;> cases d <;> rfl
theorem not_t {b : Bool} (h : (!b) = true) : b = false := by cases b <;> first | rfl | cases h
theorem three_bool0 : ∀ c h d z : Bool, cond c (cond h (cond d (!z) true) false) false = true → c = true ∧ h = true ∧ (d = true → z = false) := by decide
theorem three_bool {c h d z : Bool} (k : cond c (cond h (cond d (!z) true) false) false = true) : c = true ∧ h = true ∧ (d = true → z = false) := three_bool0 c h d z k
theorem r_bool {c d : Bool} (h : (cond c (cond d (0 : Int) 40) 2) = 0) : c = true ∧ d = true := by cases c <;> cases d <;> first | exact ⟨rfl, rfl⟩ | exact absurd h (by decide)
theorem byL_psi (x : N16) : byLψ realFe x = bytesN x := by
  rw [← byL_psi0]
  simp only [byLψ, realFe]
theorem bytesN_len2 (x : N16) : (bytesN x).length = 32 := by rw [← byL_psi0, List.length_map, List.length_range]
theorem par (c : UInt64) : shl_u8 ((c &&& 1).toUInt8) 7 = cond ((c &&& 1) == 1) 128 0 := by
  have h := and_nat c 1 1 rfl
  rcases Nat.mod_two_eq_zero_or_one c.toNat with e | e
  · have : c &&& 1 = 0 := UInt64.toNat_inj.1 (by rw [h]; exact e)
    rw [this]; rfl
  · have : c &&& 1 = 1 := UInt64.toNat_inj.1 (by rw [h]; exact e)
    rw [this]; rfl
theorem set_self (l : List UInt8) (h : l.length = 32) : l.set 31 (l.getD 31 0 ||| 0) = l := by
  rw [List.getD_eq_getElem?_getD, List.getElem?_eq_getElem (by omega), Option.getD_some, UInt8.or_zero, List.set_getElem_self]
theorem bytes_gen (l : List UInt8) (hl : l.length = 32) (c : UInt64) : l.set 31 (l.getD 31 0 ||| shl_u8 ((c &&& 1).toUInt8) 7) = cond ((c &&& 1) == 1) (top128 l) l := by
  rw [par]
  cases (c &&& 1) == 1
  · rw [cond_false, cond_false, set_self l hl]
  · rfl
theorem bytes_phi (p : P4 E5) (h : noneφ realFe p = false) : bytesφ realFe p = cond (oddE (mulE p.x (invE p.z))) (top128 (bytesE (mulE p.y (invE p.z)))) (bytesE (mulE p.y (invE p.z))) := by
  unfold bytesφ
  rw [h, cond_false, byL_phi]
  simp only [realFe]
theorem bytes_psi (q : P4 N16) : bytesψ realFe q = cond (oddP (mulP q.x (invP q.z))) (top128 (bytesN (mulP q.y (invP q.z)))) (bytesN (mulP q.y (invP q.z))) := by
  unfold bytesψ
  rw [byL_psi, bytes_gen _ (bytesN_len2 _)]
  simp only [realFe, oddP]
theorem PR.bytes {p : P4 E5} {q : P4 N16} {f : P4 Fp} (h : PR p q f) : bytesφ realFe p = bytesψ realFe q := by
  have hi := rel_inv h.rel.2.2.1
  rw [bytes_phi p h.some, bytes_psi, rel_odd (rel_mul h.rel.1 hi), (rel_mul h.rel.2.1 hi).bytes]
/-! ### the curve's number -/
theorem dval {a b c : Nat} {x : N16} {e : E5} (h : Rel e x) (v : Vm e ((Pq - a % Pq) * b ^ (Pq - 2))) (k : (Pq - a % Pq) * pwE Pq b (Pq - 2) % Pq = c) : x.val = c := by
  rw [h.val, v.val, ← k, pw_inv, Nat.mul_mod_mod]
theorem d_comp : (Pq - 121665 % Pq) * pwE Pq 121666 (Pq - 2) % Pq = dNat % Pq := by kernel_rfl
theorem d_phi : dφ realFe = mulP (negP (smallN 121665)) (invP (smallN 121666)) := by simp only [dφ, realFe]
theorem given_phi : givenφ realFe = ofP dBytes := by simp only [givenφ, realFe]
theorem d_given : dφ realFe = givenφ realFe := by
  rw [d_phi, given_phi]
  have r := rel_mul (rel_neg (rel_small 121665)) (rel_inv (rel_small 121666))
  have v := Vm.mul (Vm.neg (vm_small 121665)) (vm_inv (vm_small 121666))
  rw [show (121665 : UInt32).toNat = 121665 from rfl, show (121666 : UInt32).toNat = 121666 from rfl] at v
  have e := dval r v d_comp
  have k := rel_of (s := dBytes) (by kernel_rfl)
  refine N16.ext_val r.okP k.okP ?_
  rw [e, k.val, ofEl_val (by kernel_rfl), d_bytes]
theorem samP_self (a : N16) : samP a a = true := by rw [samP_eq]; exact decide_eq_true rfl
theorem given_true : realFi.given = true := by
  rw [given_eq, ← d_given]
  exact samP_self _
/-! ### reading -/
theorem rel_y {s : List UInt8} (h : isLen s 32 = true) : Rel (yφ realFe s) (yψ realFe s) := rel_of (topL_len h)
theorem v_phi (s : List UInt8) : vφ realFe s = addE (mulE (curveφ realFe) (mulE (yφ realFe s) (yφ realFe s))) (smallE 1) := by simp only [vφ, realFe]
theorem v_psi (s : List UInt8) : vψ realFe s = addP (mulP (givenφ realFe) (mulP (yψ realFe s) (yψ realFe s))) (smallN 1) := by
  rw [← d_given]; simp only [vψ, realFe]
theorem u_phi (s : List UInt8) : uφ realFe s = mulE (subE (mulE (yφ realFe s) (yφ realFe s)) (smallE 1)) (invE (vφ realFe s)) := by simp only [uφ, realFe]
theorem u_psi (s : List UInt8) : uψ realFe s = mulP (subP (mulP (yψ realFe s) (yψ realFe s)) (smallN 1)) (invP (vψ realFe s)) := by simp only [uψ, realFe]
theorem rel_v {s : List UInt8} (h : isLen s 32 = true) : Rel (vφ realFe s) (vψ realFe s) := by
  rw [v_phi, v_psi]
  exact rel_add (rel_mul rel_d (rel_mul (rel_y h) (rel_y h))) (rel_small 1)
theorem rel_u {s : List UInt8} (h : isLen s 32 = true) : Rel (uφ realFe s) (uψ realFe s) := by
  rw [u_phi, u_psi]
  exact rel_mul (rel_sub (rel_mul (rel_y h) (rel_y h)) (rel_small 1)) (rel_inv (rel_v h))
theorem x_phi (s : List UInt8) : xφ realFe s = cond (decOdd s) (negE (rootE (uφ realFe s))) (rootE (uφ realFe s)) := by simp only [xφ, realFe]
theorem x_psi (s : List UInt8) : xψ realFe s = cond (decOdd s) (negP (rootP (uψ realFe s))) (rootP (uψ realFe s)) := by simp only [xψ, realFe]
theorem rel_x {s : List UInt8} (h : isLen s 32 = true) : Rel (xφ realFe s) (xψ realFe s) := by
  rw [x_phi, x_psi]
  exact rel_cond (rel_neg (rel_root (rel_u h))) (rel_root (rel_u h))
theorem ok_phi (s : List UInt8) : okφ realFe s = cond (canonE (topL s)) (cond (hasE (uφ realFe s)) (cond (decOdd s) (!sameE (rootE (uφ realFe s)) zeroE) true) false) false := by simp only [okφ, realFe]
theorem ok_psi (s : List UInt8) : okψ realFe s = cond (canonP (topL s)) (cond (hasP (uψ realFe s)) (cond (samP (rootP (uψ realFe s)) zeroN) (!decOdd s) true) false) false := by simp only [okψ, realFe]
theorem ok_gen {a b c c' h h' z z' d : Bool} (ha : a = cond c (cond h (cond d (!z) true) false) false) (hb : b = cond c' (cond h' (cond z' (!d) true) false) false) (e1 : c = c') (e2 : h = h') (e3 : z = z') : a = b := by
  subst e1 e2 e3
  rw [ha, hb]
  exact ok_bool c h z d
theorem zero_same {s : List UInt8} (h : isLen s 32 = true) : sameE (rootE (uφ realFe s)) zeroE = samP (rootP (uψ realFe s)) zeroN := rel_same (rel_root (rel_u h)) rel_zero
theorem has_same {s : List UInt8} (h : isLen s 32 = true) : hasE (uφ realFe s) = hasP (uψ realFe s) := rel_has (rel_u h)
theorem ok_same {s : List UInt8} (h : isLen s 32 = true) : okφ realFe s = okψ realFe s :=
  ok_gen (ok_phi s) (ok_psi s) (canonE_eq (topL s)) (has_same h) (zero_same h)
theorem r_gen {l a b : Bool} (h : l = true → a = b) : cond l (cond a (0 : Int) 40) 2 = cond l (cond b 0 40) 2 := by
  cases l
  · rfl
  · rw [h rfl]
theorem decR_same (s : List UInt8) : decRφ realFe s = decRψ realFe s := by
  unfold decRφ decRψ
  exact r_gen fun h => ok_same h
theorem decR_ok {s : List UInt8} (h : decRφ realFe s = 0) : isLen s 32 = true ∧ okφ realFe s = true := by
  unfold decRφ at h
  exact r_bool h
theorem e_bool {α : Type} {c d : Bool} (h : ¬ (cond c (cond d (0 : Int) 40) 2) = 0) (x e : α) : cond c (cond d x e) e = e := by cases c <;> cases d <;> first | rfl | exact absurd rfl h
theorem dec_none {s : List UInt8} (h : decRφ realFe s ≠ 0) : decφ realFe s = emptyE := by
  unfold decφ
  unfold decRφ at h
  exact e_bool h _ _
theorem dec_phi {s : List UInt8} (h : decRφ realFe s = 0) : decφ realFe s = ⟨xφ realFe s, yφ realFe s, smallE 1, mulE (xφ realFe s) (yφ realFe s)⟩ := by
  obtain ⟨h1, h2⟩ := decR_ok h
  unfold decφ
  rw [h1, h2, cond_true, cond_true]
  simp only [decPφ, realFe]
theorem dec_psi {s : List UInt8} (h : decRφ realFe s = 0) : decψ realFe s = ⟨xψ realFe s, yψ realFe s, smallN 1, mulP (xψ realFe s) (yψ realFe s)⟩ := by
  obtain ⟨h1, h2⟩ := decR_ok h
  unfold decψ
  rw [h1, ← ok_same h1, h2, cond_true, cond_true]
  simp only [ofXYψ, realFe]
theorem re_val {a : E5} (h : a.ok) : Re a (toF a.val) := ⟨h, rfl⟩
theorem ok_parts {s : List UInt8} (h : decRφ realFe s = 0) : canonE (topL s) = true ∧ hasE (uφ realFe s) = true ∧ (decOdd s = true → sameE (rootE (uφ realFe s)) zeroE = false) := by
  have h2 := (decR_ok h).2
  rw [ok_phi] at h2
  exact three_bool h2
theorem lit5 (y d : Fp) (h : d * (y * y) + 1 = 0) (i : Fp) (hi : i * i = -1) : d * (y * y) = i * i := by grind -lia -linarith (splits := 0)
theorem lit6 (d y o z : Fp) (hz : z = 0) (hy : y = z) (h : d * (y * y) + o = z) : o = z := by grind -lia -linarith (splits := 0)
theorem lit7 (d x y v w : Fp) (hv : v = d * (y * y) + 1) (hw : v * w = 1) (hx : x * x = (y * y - 1) * w) : y * y - x * x = 1 + d * (x * y) * (x * y) := by grind -lia -linarith (splits := 0)
theorem lit8 (r : Fp) : -r * -r = r * r := by grind -lia -linarith (splits := 0)
theorem pr_up {x y z t : E5} {x' y' z' t' : N16} {X Y Z : Fp} (rx : Rel x x') (ry : Rel y y') (rz : Rel z z') (rt : Rel t t') (ex : Re x X) (ey : Re y Y) (ez : Re z Z) (et : Re t (X * Y)) (hz : Z = 1) (ho : OnA dF (X, Y)) : PR ⟨x, y, z, t⟩ ⟨x', y', z', t'⟩ (up (X, Y)) := by
  subst hz
  exact ⟨⟨rx, ry, rz, rt⟩, ⟨ex, ey, ez, et⟩, on_up ho⟩
theorem re_flip {b : Bool} {r : E5} {R : Fp} (er : Re r R) : ∃ X, Re (cond b (negE r) r) X ∧ X * X = R * R := by
  cases b
  · exact ⟨R, er, rfl⟩
  · exact ⟨-R, re_neg er, lit8 R⟩
theorem on_parts {d X Y V W R U : Fp} (hV : V = d * (Y * Y) + 1) (hW : V * W = 1) (hU : U = (Y * Y - 1) * W) (hR : R * R = U) (hX : X * X = R * R) : OnA d (X, Y) := by
  show Y * Y - X * X = 1 + d * (X * Y) * (X * Y)
  exact lit7 d X Y V W hV hW (by rw [hX, hR, hU])
theorem v_ne {d Y : Fp} (c : Crv d iF) : d * (Y * Y) + 1 ≠ 0 := fun e => F_one (lit6 _ _ _ _ rfl (ns_zero c (lit5 _ _ e iF c.ii)) e)
theorem pr_dec {s : List UInt8} (h : decRφ realFe s = 0) : ∃ a : Fp × Fp, PR (decφ realFe s) (decψ realFe s) (up a) := by
  have h1 := (decR_ok h).1
  have hp := ok_parts h
  have rx := rel_x h1
  have ry := rel_y h1
  have ey := re_val ry.ok
  have hsq := root_sq (rel_u h1).ok hp.2.1
  have er := re_val (root_nat (rel_u h1).ok).1
  rw [dec_phi h, dec_psi h]
  obtain ⟨X, ex, hX⟩ := re_flip (b := decOdd s) er
  rw [← x_phi] at ex
  generalize toF (yφ realFe s).val = Y at ey
  generalize toF (rootE (uφ realFe s)).val = R at er hX
  have ev := re_add (re_mul re_d (re_mul ey ey)) re_one
  rw [← v_phi] at ev
  have hv := v_ne crv (Y := Y)
  have eu := re_mul (re_sub (re_mul ey ey) re_one) (re_inv ev hv)
  rw [← u_phi] at eu
  rw [re_same (re_mul er er) eu] at hsq
  exact ⟨(X, Y), pr_up rx ry (rel_small 1) (rel_mul rx ry) ex ey re_one (re_mul ex ey) rfl (on_parts rfl (invF_mul hv) rfl (of_decide_eq_true hsq) hX)⟩
end Go.Num

/- Points: the bytes of what was read; the curve; multiples. -/
namespace Go.Num
set_option linter.unusedVariables false
set_option linter.unusedSimpArgs false
open Go Go.Eng
set_option maxRecDepth 100000
theorem re_eq {a b : E5} {f : Fp} (h : Re a f) (k : Re b f) : a.val % Pq = b.val % Pq := toF_eq.1 (h.val.trans k.val.symm)
theorem re_odd {a b : E5} {f : Fp} (h : Re a f) (k : Re b f) : oddE a = oddE b := by rw [oddE_eq, oddE_eq, re_eq h k]
theorem re_bytes {a b : E5} {f : Fp} (h : Re a f) (k : Re b f) : bytesE a = bytesE b := bytesE_eq (re_eq h k)
theorem mul_one_re {a o : E5} {f : Fp} (h : Re a f) (k : Re o 1) : Re (mulE a (invE o)) f := by
  have := re_mul h (re_inv_one k)
  have e : f * 1 = f := by grind -lia -linarith (splits := 0)
  rw [e] at this
  exact this
theorem neg_odd {P y : Nat} (hP : P % 2 = 1) (hlt : y < P) (h0 : y ≠ 0) (hy : ¬ y % 2 = 1) : (P - y) % P % 2 = 1 := by
  rw [Nat.mod_eq_of_lt (by omega : P - y < P)]
  omega
theorem odd_neg {r : E5} (h : r.ok) (hr : oddE r = false) (h0 : sameE r zeroE = false) : oddE (negE r) = true := by
  rw [oddE_eq] at hr ⊢
  rw [sameE_eq, zeroE_val] at h0
  have h1 := of_decide_eq_false hr
  have h2 := of_decide_eq_false h0
  refine decide_eq_true ?_
  rw [(neg_nat h).2]
  have h3 := Nat.mod_lt r.val Pq_pos
  generalize r.val % Pq = y at h1 h2 h3 ⊢
  refine neg_odd P_odd h3 (fun e => h2 (by rw [e]; rfl)) h1
theorem odd_flip {d : Bool} {r : E5} (h : r.ok) (hr : oddE r = false) (h0 : d = true → sameE r zeroE = false) : oddE (cond d (negE r) r) = d := by
  cases d
  · exact hr
  · exact odd_neg h hr (h0 rfl)
theorem top_odd (b : UInt8) : (cond (shr_u8 b 7 == 1) ((b &&& 127) ||| 128) (b &&& 127)) = b := by
  have := all8 (f := fun b => (cond (shr_u8 b 7 == 1) ((b &&& 127) ||| 128) (b &&& 127)) == b) (by kernel_rfl) b
  exact eq_of_beq this
theorem set_get (s : List UInt8) (h : s.length = 32) (x : UInt8) : (s.set 31 x).getD 31 0 = x := by
  rw [List.getD_eq_getElem?_getD, List.getElem?_set]
  simp [h]
theorem set_back (s : List UInt8) (h : s.length = 32) : s.set 31 (s.getD 31 0) = s := by
  rw [List.getD_eq_getElem?_getD, List.getElem?_eq_getElem (by omega), Option.getD_some, List.set_getElem_self]
theorem top_back (s : List UInt8) (h : s.length = 32) : cond (decOdd s) (top128 (topL s)) (topL s) = s := by
  unfold top128 topL decOdd
  rw [set_get s h, List.set_set]
  have e := top_odd (s.getD 31 0)
  cases hb : (shr_u8 (s.getD 31 0) 7 == 1) <;> rw [hb] at e
  · rw [cond_false] at e ⊢
    rw [e, set_back s h]
  · rw [cond_true] at e ⊢
    rw [e, set_back s h]
theorem canon_bytes2 {s : List UInt8} (h : canonE s = true) : bytesE (ofEl s) = s := by
  unfold canonE at h
  exact eq_of_beq (Bool.and_eq_true_iff.1 h).2
theorem y_phi (s : List UInt8) : yφ realFe s = ofEl (topL s) := by simp only [yφ, realFe]
theorem bytes_parts {x y o : E5} {X Y : Fp} (hx : Re x X) (hy : Re y Y) (ho : Re o 1) {t : E5} {f : P4 Fp} {s : List UInt8} {d : Bool} (hn : noneφ realFe ⟨x, y, o, t⟩ = false) (hd : oddE x = d) (hb : bytesE y = topL s) (hs : cond d (top128 (topL s)) (topL s) = s) : bytesφ realFe ⟨x, y, o, t⟩ = s := by
  rw [bytes_phi _ hn, re_odd (mul_one_re hx ho) hx, re_bytes (mul_one_re hy ho) hy, hd, hb, hs]
theorem dec_bytes {s : List UInt8} (h : decRφ realFe s = 0) : bytesφ realFe (decφ realFe s) = s := by
  have h1 := (decR_ok h).1
  have hp := ok_parts h
  obtain ⟨a, pr⟩ := pr_dec h
  have hn := pr.some
  rw [dec_phi h] at hn ⊢
  have rx := re_val (rel_x h1).ok
  have ry := re_val (rel_y h1).ok
  have r0 := (root_nat (rel_u h1).ok).1
  have ho := odd_flip r0 (root_even (rel_u h1).ok) hp.2.2
  rw [← x_phi] at ho
  have hb := canon_bytes2 hp.1
  rw [← y_phi] at hb
  exact bytes_parts (f := zero4) rx ry re_one hn ho hb (top_back s (isLen_eq.1 h1))
/-! ### the curve -/
theorem on_eq {d x y z t : Fp} (hc : y * y - x * x = z * z + d * t * t) (hk : x * y = z * t) : (y * y - x * x) * (z * z) = (z * z) * (z * z) + (d * (x * x)) * (y * y) := by
  grind -lia -linarith (splits := 0)
theorem on_psi (q : P4 N16) : onψ realFe q = samP (mulP (subP (mulP q.y q.y) (mulP q.x q.x)) (mulP q.z q.z)) (addP (mulP (mulP q.z q.z) (mulP q.z q.z)) (mulP (mulP (givenφ realFe) (mulP q.x q.x)) (mulP q.y q.y))) := by simp only [onψ, realFe]
theorem PR.onQ {p : P4 E5} {q : P4 N16} {f : P4 Fp} (h : PR p q f) : onψ realFe q = true := by
  have xx := rel_mul h.rel.1 h.rel.1
  have yy := rel_mul h.rel.2.1 h.rel.2.1
  have zz := rel_mul h.rel.2.2.1 h.rel.2.2.1
  have exx := re_mul h.val.1 h.val.1
  have eyy := re_mul h.val.2.1 h.val.2.1
  have ezz := re_mul h.val.2.2.1 h.val.2.2.1
  have e := re_same (re_mul (re_sub eyy exx) ezz) (re_add (re_mul ezz ezz) (re_mul (re_mul re_d exx) eyy))
  rw [rel_same (rel_mul (rel_sub yy xx) zz) (rel_add (rel_mul zz zz) (rel_mul (rel_mul rel_d xx) yy))] at e
  rw [on_psi, e]
  exact decide_eq_true (on_eq h.on.c h.on.k)
/-! ### multiples -/
def bv (bit : Nat → Bool) : Nat → Nat
  | 0 => 0
  | j + 1 => 2 * bv bit j + cond (bit (255 - j)) 1 0
theorem bv_eq (bit : Nat → Bool) (V : Nat) (h : ∀ i, i < 256 → bit i = decide (V / 2 ^ i % 2 = 1)) (hV : V < 2 ^ 256) : ∀ j, j ≤ 256 → bv bit j = V / 2 ^ (256 - j)
  | 0, _ => by
    unfold bv
    rw [Nat.sub_zero, Nat.div_eq_of_lt hV]
  | j + 1, hj => by
    have ih := bv_eq bit V h hV j (by omega)
    unfold bv
    rw [ih, h (255 - j) (by omega)]
    have e1 : 256 - j = (255 - j) + 1 := by omega
    have e2 : 256 - (j + 1) = 255 - j := by omega
    rw [e1, e2, Nat.pow_succ, ← Nat.div_div_eq_div_mul]
    generalize V / 2 ^ (255 - j) = W
    rcases Nat.mod_two_eq_zero_or_one W with h0 | h0
    · rw [h0, decide_eq_false (by decide : ¬ (0 : Nat) = 1), cond_false]; omega
    · rw [h0, decide_eq_true (rfl : (1 : Nat) = 1), cond_true]; omega
theorem PR.iter {p : P4 E5} {q : P4 N16} {f : P4 Fp} (h : PR p q f) {b c : Nat → Bool} (hb : ∀ i, i < 256 → b i = c i) : ∀ j, j ≤ 256 → ∃ g, PR (iterG (addφ realFe) (zeroφ realFe) p b j) (iterG (addψ realFe) (zeroψ realFe) q c j) g ∧ aff g = mulA dF (aff f) (bv b j)
  | 0, _ => ⟨zero4, pr_zero, aff_zero⟩
  | j + 1, hj => by
    obtain ⟨g, hg, ag⟩ := PR.iter h hb j (by omega)
    have hm := on_aff h.on
    have h2 := hg.add hg
    have a2 : aff (addO opsF dF g g) = mulA dF (aff f) (bv b j + bv b j) := by rw [aff_add crv hg.on hg.on, ag, ← mulA_add crv hm]
    unfold iterG bv
    rw [← hb (255 - j) (by omega)]
    cases b (255 - j)
    · rw [cond_false, cond_false, cond_false, Nat.add_zero, Nat.two_mul]
      exact ⟨_, h2, a2⟩
    · rw [cond_true, cond_true, cond_true, Nat.two_mul]
      refine ⟨_, h2.add h, ?_⟩
      rw [aff_add crv h2.on h.on, a2]; rfl
theorem mod_div (W r : Nat) (hr : r < 8) : W % 256 / 2 ^ r % 2 = W / 2 ^ r % 2 := by
  have : r = 0 ∨ r = 1 ∨ r = 2 ∨ r = 3 ∨ r = 4 ∨ r = 5 ∨ r = 6 ∨ r = 7 := by omega
  rcases this with h | h | h | h | h | h | h | h <;> subst h <;> omega
theorem mod_div16 (W r : Nat) (hr : r < 16) : W % 65536 / 2 ^ r % 2 = W / 2 ^ r % 2 := by
  have : r = 0 ∨ r = 1 ∨ r = 2 ∨ r = 3 ∨ r = 4 ∨ r = 5 ∨ r = 6 ∨ r = 7 ∨ r = 8 ∨ r = 9 ∨ r = 10 ∨ r = 11 ∨ r = 12 ∨ r = 13 ∨ r = 14 ∨ r = 15 := by omega
  rcases this with h | h | h | h | h | h | h | h | h | h | h | h | h | h | h | h <;> subst h <;> omega
theorem bitK_val (l : List UInt8) (i : Nat) : bitK l i = decide (leNat l / 2 ^ i % 2 = 1) := by
  unfold bitK bitB
  have h := and8_nat (shr_u8 (l.getD (i / 8) 0) (i % 8)) 1 1 rfl
  rw [shr_u8_nat _ _ (Nat.mod_lt _ (by omega)), byte_at] at h
  have e1 : leNat l / 256 ^ (i / 8) % 256 / 2 ^ (i % 8) % 2 = leNat l / 2 ^ i % 2 := by
    rw [mod_div _ _ (Nat.mod_lt _ (by omega)), show (256 : Nat) = 2 ^ 8 from rfl, ← Nat.pow_mul, Nat.div_div_eq_div_mul, ← Nat.pow_add, Nat.div_add_mod]
  rw [Nat.pow_one, e1] at h
  rw [← h]
  generalize shr_u8 (l.getD (i / 8) 0) (i % 8) &&& 1 = x
  rw [Bool.eq_iff_iff, beq_iff_eq, decide_eq_true_iff]
  exact ⟨fun e => by rw [e]; rfl, fun e => UInt8.toNat_inj.1 e⟩
theorem part_at : ∀ (l : List UInt64) (k : Nat), ok16 l → (l.getD k 0).toNat = val16 l / 65536 ^ k % 65536
  | [], k, _ => by
    show (([] : List UInt64).getD k 0).toNat = 0 / 65536 ^ k % 65536
    rw [Nat.zero_div]; rfl
  | x :: l, 0, h => by
    have := h.1
    show x.toNat = (x.toNat + 65536 * val16 l) / 65536 ^ 0 % 65536
    rw [Nat.pow_zero]; omega
  | x :: l, k + 1, h => by
    have hx := h.1
    show (l.getD k 0).toNat = (x.toNat + 65536 * val16 l) / 65536 ^ (k + 1) % 65536
    rw [part_at l k h.2, Nat.pow_succ, Nat.mul_comm (65536 ^ k), ← Nat.div_div_eq_div_mul]
    have : (x.toNat + 65536 * val16 l) / 65536 = val16 l := by omega
    rw [this]
theorem bitN16_val (n : N16) (hn : n.ok) (i : Nat) : bitN16 n i = decide (n.val / 2 ^ i % 2 = 1) := by
  unfold bitN16 partN
  have h := and_nat (shr_u64 (n.list.getD (i / 16) 0) (i % 16)) 1 1 rfl
  rw [shr_u64_nat _ _ (by have := Nat.mod_lt i (show 16 > 0 by omega); omega), part_at _ _ hn] at h
  have e1 : val16 n.list / 65536 ^ (i / 16) % 65536 / 2 ^ (i % 16) % 2 = n.val / 2 ^ i % 2 := by
    rw [mod_div16 _ _ (Nat.mod_lt _ (by omega)), show (65536 : Nat) = 2 ^ 16 from rfl, ← Nat.pow_mul, Nat.div_div_eq_div_mul, ← Nat.pow_add, Nat.div_add_mod]; rfl
  rw [Nat.pow_one, e1] at h
  rw [← h]
  generalize shr_u64 (n.list.getD (i / 16) 0) (i % 16) &&& 1 = x
  rw [Bool.eq_iff_iff, beq_iff_eq, decide_eq_true_iff]
  exact ⟨fun e => by rw [e]; rfl, fun e => UInt64.toNat_inj.1 e⟩
theorem bits_same {a : W4} {n : N16} (hn : n.ok) (e : a.val = n.val) (i : Nat) : bitK (bytesW a) i = bitN16 n i := by
  rw [bitK_val, bitN16_val n hn, bytesW_val, e]
theorem mul_phi (p : P4 E5) (n : W4) (h : noneφ realFe p = false) : mulE4 p n = iterG (addφ realFe) (zeroφ realFe) p (bitK (bytesW n)) 256 := by
  unfold mulE4 mulG
  rw [h, cond_false]
theorem bv_bytes (a : W4) : bv (bitK (bytesW a)) 256 = a.val := by
  have h := bv_eq (bitK (bytesW a)) a.val (fun i _ => by rw [bitK_val, bytesW_val]) (Nat.lt_of_lt_of_le a.val_lt (by decide)) 256 (by omega)
  rw [h, Nat.sub_self, Nat.pow_zero, Nat.div_one]
theorem PR.mul {p : P4 E5} {q : P4 N16} {f : P4 Fp} (h : PR p q f) {a : W4} {n : N16} (hn : n.ok) (e : a.val = n.val) : ∃ g, PR (mulE4 p a) (mulN4 q n) g ∧ aff g = mulA dF (aff f) a.val := by
  obtain ⟨g, hg, ag⟩ := PR.iter h (b := bitK (bytesW a)) (c := bitN16 n) (fun i _ => bits_same hn e i) 256 (by omega)
  rw [bv_bytes] at ag
  rw [mul_phi p a h.some]
  exact ⟨g, hg, ag⟩
end Go.Num

/- Points: the base point, its order; no point; what `alive` asks. -/
namespace Go.Num
set_option linter.unusedVariables false
set_option linter.unusedSimpArgs false
open Go Go.Eng
set_option maxRecDepth 100000
def xB : Nat := 15112221349535400772501151409588531511454012693041857206046113283949847762202
def yB : Nat := 46316835694926478169428394003475163141307993866256225615783033603165251855960
def uB : Nat := 26187595835145689230469591415084376402084551887632582719101735842039498021991
theorem y_base : leNat (topL baseL) = yB := by kernel_rfl
theorem y_lt : decide (yB < Pq) = true := by decide
theorem len_base : isLen baseL 32 = true := by kernel_rfl
theorem odd_base : decOdd baseL = false := by kernel_rfl
theorem canon_base : canonE (topL baseL) = true := by
  rw [canonE_eq, canonP_eq, topL_len len_base, y_base, y_lt]; rfl
theorem uval {a b c n : Nat} {x : E5} (v : Vm x (a * b ^ (Pq - 2))) (hn : a * pwE Pq b (Pq - 2) % Pq = c) : x.val % Pq = c := by
  rw [v.val, ← hn, pw_inv, Nat.mul_mod_mod]
theorem u_comp : (yB * yB + (Pq - 1 % Pq)) * pwE Pq (dNat * (yB * yB) + 1) (Pq - 2) % Pq = uB := by kernel_rfl
theorem vm_d : Vm (curveφ realFe) dNat := ⟨ofEl_ok _, by
  have := ofEl_val (s := dBytes) (by kernel_rfl)
  rw [d_bytes] at this
  exact this⟩
theorem vm_yB : Vm (yφ realFe baseL) yB := ⟨(rel_y len_base).ok, by
  rw [y_phi, ofEl_val (topL_len len_base), y_base]⟩
theorem u_base : (uφ realFe baseL).val % Pq = uB := by
  have v1 := vm_small 1
  rw [show (1 : UInt32).toNat = 1 from rfl] at v1
  have vv := (vm_d.mul (vm_yB.mul vm_yB)).add v1
  rw [← v_phi] at vv
  have vu := ((vm_yB.mul vm_yB).sub v1).mul (vm_inv vv)
  rw [← u_phi] at vu
  exact uval (n := 0) vu u_comp
theorem nhas_base : nHas uB = true := by kernel_rfl
theorem nroot_base : nRoot uB = xB := by kernel_rfl
theorem has_base : hasE (uφ realFe baseL) = true := by rw [has_nat (rel_u len_base).ok, u_base, nhas_base]
theorem dec_base : decRφ realFe baseL = 0 := by
  have h : okφ realFe baseL = true := by rw [ok_phi, canon_base, has_base, odd_base]; rfl
  unfold decRφ
  rw [len_base, h]; rfl
theorem x_base : (xφ realFe baseL).val % Pq = xB := by
  rw [x_phi, odd_base, cond_false, (root_nat (rel_u len_base).ok).2, u_base, nroot_base]
theorem xB_mod : xB % Pq = xB := by kernel_rfl
def aB : Fp × Fp := (toF xB, toF yB)
theorem pr_base : PR (decφ realFe baseL) (decψ realFe baseL) (up aB) := by
  obtain ⟨⟨X, Y⟩, h⟩ := pr_dec dec_base
  have h1 := h.val.1.val
  have h2 := h.val.2.1.val
  rw [dec_phi dec_base] at h1 h2
  have e1 : toF (xφ realFe baseL).val = X := h1
  have e2 : toF (yφ realFe baseL).val = Y := h2
  have e3 : toF (xφ realFe baseL).val = toF xB := toF_eq.2 (x_base.trans xB_mod.symm)
  have e4 : toF (yφ realFe baseL).val = toF yB := toF_eq.2 vm_yB.val
  have e5 : (X, Y) = aB := by unfold aB; rw [← e1, ← e2, e3, e4]
  rw [← e5]
  exact h
/-! ### sums of whole numbers -/
structure Rm (n : Nat) (f : Fp) : Prop where
  lt : n < Pq
  val : toF n = f
theorem rm_mod {n : Nat} {f : Fp} (h : toF n = f) : Rm (n % Pq) f := ⟨Nat.mod_lt _ Pq_pos, by rw [← h]; exact toF_eq.2 (Nat.mod_mod _ _)⟩
theorem small_lt (n : UInt32) : n.toNat < Pq := Nat.lt_trans n.toNat_lt (by decide)
theorem keeps_MF : Keeps opsM opsF Rm where
  add := fun {a b x y} h k => rm_mod (by rw [toF_add, h.val, k.val]; rfl)
  sub := fun {a b x y} h k => rm_mod (by
    have e : Pq - b = Pq - b % Pq := by rw [Nat.mod_eq_of_lt k.lt]
    rw [e, toF_sub, h.val, k.val]; rfl)
  mul := fun {a b x y} h k => rm_mod (by rw [toF_mul, h.val, k.val]; rfl)
  small := fun n => ⟨small_lt n, rfl⟩
  zero := ⟨Pq_pos, toF_nil⟩
theorem iter_keeps {R S : Type} {o : Ops R} {o' : Ops S} {r : R → S → Prop} (k : Keeps o o' r) {p z : P4 R} {p' z' : P4 S} {d : R} {d' : S} (hd : r d d') (hp : R4 r p p') (hz : R4 r z z') (b : Nat → Bool) : ∀ j, R4 r (iterG (addO o d) z p b j) (iterG (addO o' d') z' p' b j)
  | 0 => hz
  | j + 1 => by
    have ih := iter_keeps k hd hp hz b j
    have h2 := add_keeps k hd ih ih
    unfold iterG
    cases b (255 - j)
    · exact h2
    · exact add_keeps k hd h2 hp
theorem iter_on {f : P4 Fp} (h : On dF f) (b : Nat → Bool) : ∀ j, On dF (iterG (addO opsF dF) zero4 f b j) ∧ aff (iterG (addO opsF dF) zero4 f b j) = mulA dF (aff f) (bv b j)
  | 0 => ⟨On.zero dF, aff_zero⟩
  | j + 1 => by
    obtain ⟨hg, ag⟩ := iter_on h b j
    have hm := on_aff h
    have h2 := hg.add crv hg
    have a2 : aff (addO opsF dF (iterG (addO opsF dF) zero4 f b j) (iterG (addO opsF dF) zero4 f b j)) = mulA dF (aff f) (bv b j + bv b j) := by rw [aff_add crv hg hg, ag, ← mulA_add crv hm]
    unfold iterG bv
    cases b (255 - j)
    · rw [cond_false, cond_false, Nat.add_zero, Nat.two_mul]
      exact ⟨h2, a2⟩
    · rw [cond_true, cond_true, Nat.two_mul]
      refine ⟨h2.add crv h, ?_⟩
      rw [aff_add crv h2 h, a2]; rfl
def zeroM : P4 Nat := ⟨0, 1, 1, 0⟩
def baseM : P4 Nat := ⟨xB, yB, 1, xB * yB % Pq⟩
theorem rm_zero : R4 Rm zeroM zero4 := r4_mk ⟨Pq_pos, toF_nil⟩ ⟨by decide, toF_one⟩ ⟨by decide, toF_one⟩ ⟨Pq_pos, toF_nil⟩
theorem rm_base : R4 Rm baseM (up aB) := r4_mk ⟨by decide, rfl⟩ ⟨by decide, rfl⟩ ⟨by decide, toF_one⟩ (rm_mod (toF_mul _ _))
theorem rm_d : Rm dNat dF := ⟨by decide, rfl⟩
def mulM (n : Nat) : P4 Nat := iterG (addO opsM dNat) zeroM baseM (fun i => Nat.testBit n i) 256
theorem order_M : ((mulM Lq).x == 0 && (mulM Lq).y == (mulM Lq).z) = true := by kernel_rfl
theorem eight_M : ((mulM 8).x == 0) = false := by kernel_rfl
end Go.Num

/- Points: the facts that the laws ask. -/
namespace Go.Num
set_option linter.unusedVariables false
set_option linter.unusedSimpArgs false
open Go Go.Eng
set_option maxRecDepth 100000
theorem bv_test (n : Nat) (h : n < 2 ^ 256) : bv (fun i => Nat.testBit n i) 256 = n := by
  rw [bv_eq (fun i => Nat.testBit n i) n (fun i _ => Nat.testBit_eq_decide_div_mod_eq) h 256 (by omega), Nat.sub_self, Nat.pow_zero, Nat.div_one]
theorem zero_iff {f : P4 Fp} (h : On dF f) : aff f = zeroA ↔ f.x = 0 ∧ f.y = f.z := by
  rw [← aff_zero, ← same_aff h (On.zero dF)]
  have h1 : f.x * (zero4).z = f.x := by show f.x * 1 = f.x; grind -lia -linarith (splits := 0)
  have h2 : (zero4).x * f.z = 0 := by show 0 * f.z = 0; grind -lia -linarith (splits := 0)
  have h3 : f.y * (zero4).z = f.y := by show f.y * 1 = f.y; grind -lia -linarith (splits := 0)
  have h4 : (zero4).y * f.z = f.z := by show 1 * f.z = f.z; grind -lia -linarith (splits := 0)
  unfold SameP
  rw [h1, h2, h3, h4]
theorem mulM_aff (n : Nat) (h : n < 2 ^ 256) : ∃ f, R4 Rm (mulM n) f ∧ On dF f ∧ aff f = mulA dF aB n := by
  have hk := iter_keeps keeps_MF rm_d rm_base rm_zero (fun i => Nat.testBit n i) 256
  have ho := iter_on pr_base.on (fun i => Nat.testBit n i) 256
  rw [bv_test n h, aff_up] at ho
  exact ⟨_, hk, ho.1, ho.2⟩
theorem order_lt : Lq < 2 ^ 256 := by decide
theorem eight_lt : 8 < 2 ^ 256 := by decide
theorem order_base : mulA dF aB Lq = zeroA := by
  obtain ⟨f, hr, ho, ha⟩ := mulM_aff Lq order_lt
  rw [← ha, zero_iff ho]
  have h := order_M
  generalize mulM Lq = m at h hr
  simp only [Bool.and_eq_true, beq_iff_eq] at h
  have h1 := hr.1.val
  have h2 := hr.2.1.val
  have h3 := hr.2.2.1.val
  rw [h.1, toF_nil] at h1
  rw [h.2] at h2
  exact ⟨h1.symm, h2.symm.trans h3⟩
theorem eight_base : ¬ mulA dF aB 8 = zeroA := by
  obtain ⟨f, hr, ho, ha⟩ := mulM_aff 8 eight_lt
  rw [← ha, zero_iff ho]
  intro hz
  have h := eight_M
  generalize mulM 8 = m at h hr
  have h1 := hr.1.val
  rw [hz.1, toF_zero, Nat.mod_eq_of_lt hr.1.lt] at h1
  rw [h1] at h
  cases h
theorem order_mod (n : Nat) : mulA dF aB (n % Lq) = mulA dF aB n := mulA_mod crv (by have := on_aff pr_base.on; rw [aff_up] at this; exact this) order_base n
/-! ### as the laws have them -/
theorem fi_add : realFi.add = addφ realFe := by simp only [realFi]
theorem fi_neg : realFi.neg = negφ realFe := by simp only [realFi]
theorem fi_same : realFi.same = sameφ realFe := by simp only [realFi]
theorem fi_zero : realFi.zero = zeroφ realFe := by simp only [realFi]
theorem fi_bytes : realFi.bytes = bytesφ realFe := by simp only [realFi]
theorem fi_dec : realFi.dec = decφ realFe := by simp only [realFi]
theorem fi_decR : realFi.decR = decRφ realFe := by simp only [realFi]
theorem fi_mul : realFi.mul = mulE4 := by simp only [realFi]
theorem fi_addQ : realFi.addQ = addψ realFe := by simp only [realFi]
theorem fi_negQ : realFi.negQ = negψ realFe := by simp only [realFi]
theorem fi_sameQ : realFi.sameQ = sameψ realFe := by simp only [realFi]
theorem fi_zeroQ : realFi.zeroQ = zeroψ realFe := by simp only [realFi]
theorem fi_bytesQ : realFi.bytesQ = bytesψ realFe := by simp only [realFi]
theorem fi_decQ : realFi.decQ = decψ realFe := by simp only [realFi]
theorem fi_decRQ : realFi.decRQ = decRψ realFe := by simp only [realFi]
theorem fi_mulQ : realFi.mulQ = mulN4 := by simp only [realFi]
theorem fi_onQ : realFi.onQ = onψ realFe := by simp only [realFi]
theorem fi_okQ : realFi.okQ = okQ0 realFe := by simp only [realFi]
/-- Points as the laws have them. -/
abbrev PI := PR
theorem pi_base : PI realFi.base realFi.baseQ (up aB) := by
  rw [base_eq, baseQ_eq, fi_dec, fi_decQ]; exact pr_base
theorem pi_zero : PI realFi.zero realFi.zeroQ zero4 := by rw [fi_zero, fi_zeroQ]; exact pr_zero
theorem pi_add {p p' : P4 E5} {q q' : P4 N16} {f f' : P4 Fp} (h : PI p q f) (k : PI p' q' f') : PI (realFi.add p p') (realFi.addQ q q') (addO opsF dF f f') := by rw [fi_add, fi_addQ]; exact h.add k
theorem pi_neg {p : P4 E5} {q : P4 N16} {f : P4 Fp} (h : PI p q f) : PI (realFi.neg p) (realFi.negQ q) (negO (fun a => -a) f) := by rw [fi_neg, fi_negQ]; exact h.neg
theorem pi_ok {p : P4 E5} {q : P4 N16} {f : P4 Fp} (h : PI p q f) : realFi.okQ q = true := by rw [fi_okQ]; exact h.ok
theorem pi_bytes {p : P4 E5} {q : P4 N16} {f : P4 Fp} (h : PI p q f) : realFi.bytes p = realFi.bytesQ q := by rw [fi_bytes, fi_bytesQ]; exact h.bytes
theorem pi_same {p p' : P4 E5} {q q' : P4 N16} {f f' : P4 Fp} (h : PI p q f) (k : PI p' q' f') : realFi.same p p' = realFi.sameQ q q' := by rw [fi_same, fi_sameQ]; exact h.same k
theorem pi_iff {p p' : P4 E5} {q q' : P4 N16} {f f' : P4 Fp} (h : PI p q f) (k : PI p' q' f') : realFi.same p p' = true ↔ aff f = aff f' := by rw [fi_same]; exact h.same_iff k
theorem pi_onQ {p : P4 E5} {q : P4 N16} {f : P4 Fp} (h : PI p q f) : realFi.onQ q = true := by rw [fi_onQ]; exact h.onQ
theorem pi_dec {s : List UInt8} (h : realFi.decR s = 0) : ∃ a : Fp × Fp, PI (realFi.dec s) (realFi.decQ s) (up a) := by
  rw [fi_decR] at h; rw [fi_dec, fi_decQ]; exact pr_dec h
theorem pi_mul {p : P4 E5} {q : P4 N16} {f : P4 Fp} (h : PI p q f) {a : W4} {n : N16} (hn : n.ok) (e : a.val = n.val) : ∃ g, PI (realFi.mul p a) (realFi.mulQ q n) g ∧ aff g = mulA dF (aff f) a.val := by rw [fi_mul, fi_mulQ]; exact h.mul hn e
theorem pi_mulW {p : P4 E5} {q : P4 N16} {f : P4 Fp} (h : PI p q f) (a : W4) : ∃ q' g, PI (realFi.mul p a) q' g ∧ aff g = mulA dF (aff f) a.val := by
  obtain ⟨o, e⟩ := partsN_val (bytesW a) (bytesW_len a)
  obtain ⟨g, hg, ag⟩ := pi_mul h (a := a) o (by rw [e, bytesW_val])
  exact ⟨_, g, hg, ag⟩
theorem pi_aff {p p' : P4 E5} {q q' : P4 N16} {f f' : P4 Fp} (h : PI p q f) (k : PI p' q' f') : aff (addO opsF dF f f') = addA dF (aff f) (aff f') := aff_add crv h.on k.on
theorem fi_bytesdec {s : List UInt8} (h : realFi.decR s = 0) : realFi.bytes (realFi.dec s) = s := by
  rw [fi_decR] at h; rw [fi_bytes, fi_dec]; exact dec_bytes h
theorem fi_decnone {s : List UInt8} (h : realFi.decR s ≠ 0) : realFi.dec s = emptyE := by
  rw [fi_decR] at h; rw [fi_dec]; exact dec_none h
theorem fi_rsame (s : List UInt8) : realFi.decR s = realFi.decRQ s := by rw [fi_decR, fi_decRQ]; exact decR_same s
/-! ### no point -/
theorem none_empty : noneφ realFe emptyE = true := by
  have h : noneφ realFe emptyE = sameE zeroE zeroE := by simp only [noneφ, realFe, emptyE]
  rw [h, sameE_eq]; exact decide_eq_true rfl
theorem e_bytes : realFi.bytes emptyE = [] := by
  rw [fi_bytes]; unfold bytesφ; rw [none_empty, cond_true]
theorem e_addl (p : P4 E5) : realFi.add emptyE p = emptyE := by
  rw [fi_add]; unfold addφ; rw [none_empty, cond_true]
theorem e_addr {p : P4 E5} (h : noneφ realFe p = false) : realFi.add p emptyE = emptyE := by
  rw [fi_add]; unfold addφ; rw [none_empty, h, cond_true, cond_false]
theorem e_neg : realFi.neg emptyE = emptyE := by
  rw [fi_neg]; unfold negφ; rw [none_empty, cond_true]
theorem e_mul (n : W4) : realFi.mul emptyE n = emptyE := by
  rw [fi_mul]; unfold mulE4 mulG; rw [none_empty, cond_true]
theorem e_samel (p : P4 E5) : realFi.same emptyE p = false := by
  rw [fi_same]; unfold sameφ; rw [none_empty, cond_true]
theorem e_samer {p : P4 E5} (h : noneφ realFe p = false) : realFi.same p emptyE = false := by
  rw [fi_same]; unfold sameφ; rw [none_empty, h, cond_true, cond_false]
theorem e_small : realFi.small emptyE = false := by
  rw [small_eq]; unfold smallG; simp only [e_addl, e_samel]
/-! ### what is fixed -/
theorem b_decR : realFi.decR baseL = 0 := by rw [fi_decR]; exact dec_base
theorem b_bytes : realFi.bytes realFi.base = baseL := by rw [base_eq]; exact fi_bytesdec b_decR
theorem self_same {p : P4 E5} {q : P4 N16} {f : P4 Fp} (h : PI p q f) : realFi.same p p = true := (pi_iff h h).2 rfl
theorem b_neg : realFi.same (realFi.add realFi.base (realFi.neg realFi.base)) realFi.zero = true := by
  have h := pi_base
  refine (pi_iff (pi_add h (pi_neg h)) pi_zero).2 ?_
  rw [pi_aff h (pi_neg h), aff_neg, aff_zero, addA_neg crv (on_aff h.on)]
theorem z_small : realFi.small realFi.zero = true := by
  have h := pi_zero
  rw [small_eq]
  unfold smallG
  have h2 := pi_add h h
  have h4 := pi_add h2 h2
  have h8 := pi_add h4 h4
  refine (pi_iff h8 h).2 ?_
  rw [pi_aff h4 h4, pi_aff h2 h2, pi_aff h h, aff_zero, addA_zero, addA_zero, addA_zero]
theorem b_small : realFi.small realFi.base = false := by
  have h := pi_base
  rw [small_eq]
  unfold smallG
  have h2 := pi_add h h
  have h4 := pi_add h2 h2
  have h8 := pi_add h4 h4
  have e := pi_iff h8 pi_zero
  rw [pi_aff h4 h4, pi_aff h2 h2, pi_aff h h, aff_zero, aff_up] at e
  have hm : OnA dF aB := by have := on_aff h.on; rw [aff_up] at this; exact this
  have e2 : addA dF aB aB = mulA dF aB 2 := by
    show _ = addA dF (mulA dF aB 1) aB
    rw [mulA_one]
  rw [e2, ← mulA_add crv hm, ← mulA_add crv hm] at e
  rw [Bool.eq_false_iff]
  exact fun h => eight_base (e.1 h)
theorem z_bytes : realFi.bytes realFi.zero = 1 :: List.replicate 31 0 := by
  rw [fi_bytes, fi_zero, bytes_phi _ pr_zero.some, zero_phi]
  have e1 : oddE (mulE zeroE (invE (smallE 1))) = false := by
    rw [re_odd (mul_one_re re_zero re_one) re_zero]; rfl
  have e2 : bytesE (mulE (smallE 1) (invE (smallE 1))) = bytesE (smallE 1) := re_bytes (mul_one_re re_one re_one) re_one
  show cond (oddE (mulE zeroE (invE (smallE 1)))) _ (bytesE (mulE (smallE 1) (invE (smallE 1)))) = _
  rw [e1, cond_false, e2]
  kernel_rfl
end Go.Num

/- The order is a prime. -/
namespace Go.Num
set_option linter.unusedVariables false
set_option linter.unusedSimpArgs false
set_option maxRecDepth 100000
theorem gen1257559732178653 : Gen 1257559732178653 2 := gen_cert 1257559732178653 2 [2, 2, 3, 7, 23, 531581, 1224481] (fun q hq => by
  simp only [List.mem_cons, List.mem_nil_iff, or_false] at hq
  rcases hq with rfl | rfl | rfl | rfl | rfl | rfl | rfl
  · exact (irr_small 2 2000 rfl (by kernel_rfl))
  · exact (irr_small 2 2000 rfl (by kernel_rfl))
  · exact (irr_small 3 2000 rfl (by kernel_rfl))
  · exact (irr_small 7 2000 rfl (by kernel_rfl))
  · exact (irr_small 23 2000 rfl (by kernel_rfl))
  · exact (irr_small 531581 2000 rfl (by kernel_rfl))
  · exact (irr_small 1224481 2000 rfl (by kernel_rfl))
  ) (by kernel_rfl)
theorem irr1257559732178653 : Irr 1257559732178653 := gen1257559732178653.irr
theorem gen4434155615661930479 : Gen 4434155615661930479 17 := gen_cert 4434155615661930479 17 [2, 41, 43, 1257559732178653] (fun q hq => by
  simp only [List.mem_cons, List.mem_nil_iff, or_false] at hq
  rcases hq with rfl | rfl | rfl | rfl
  · exact (irr_small 2 2000 rfl (by kernel_rfl))
  · exact (irr_small 41 2000 rfl (by kernel_rfl))
  · exact (irr_small 43 2000 rfl (by kernel_rfl))
  · exact (irr1257559732178653)
  ) (by kernel_rfl)
theorem irr4434155615661930479 : Irr 4434155615661930479 := gen4434155615661930479.irr
theorem gen172054593956031949258510691 : Gen 172054593956031949258510691 2 := gen_cert 172054593956031949258510691 2 [2, 5, 1361, 2851, 4434155615661930479] (fun q hq => by
  simp only [List.mem_cons, List.mem_nil_iff, or_false] at hq
  rcases hq with rfl | rfl | rfl | rfl | rfl
  · exact (irr_small 2 2000 rfl (by kernel_rfl))
  · exact (irr_small 5 2000 rfl (by kernel_rfl))
  · exact (irr_small 1361 2000 rfl (by kernel_rfl))
  · exact (irr_small 2851 2000 rfl (by kernel_rfl))
  · exact (irr4434155615661930479)
  ) (by kernel_rfl)
theorem irr172054593956031949258510691 : Irr 172054593956031949258510691 := gen172054593956031949258510691.irr
theorem gen292386187 : Gen 292386187 2 := gen_cert 292386187 2 [2, 3, 3, 3, 3, 307, 5879] (fun q hq => by
  simp only [List.mem_cons, List.mem_nil_iff, or_false] at hq
  rcases hq with rfl | rfl | rfl | rfl | rfl | rfl | rfl
  · exact (irr_small 2 2000 rfl (by kernel_rfl))
  · exact (irr_small 3 2000 rfl (by kernel_rfl))
  · exact (irr_small 3 2000 rfl (by kernel_rfl))
  · exact (irr_small 3 2000 rfl (by kernel_rfl))
  · exact (irr_small 3 2000 rfl (by kernel_rfl))
  · exact (irr_small 307 2000 rfl (by kernel_rfl))
  · exact (irr_small 5879 2000 rfl (by kernel_rfl))
  ) (by kernel_rfl)
theorem irr292386187 : Irr 292386187 := gen292386187.irr
theorem gen213441916511 : Gen 213441916511 13 := gen_cert 213441916511 13 [2, 5, 73, 292386187] (fun q hq => by
  simp only [List.mem_cons, List.mem_nil_iff, or_false] at hq
  rcases hq with rfl | rfl | rfl | rfl
  · exact (irr_small 2 2000 rfl (by kernel_rfl))
  · exact (irr_small 5 2000 rfl (by kernel_rfl))
  · exact (irr_small 73 2000 rfl (by kernel_rfl))
  · exact (irr292386187)
  ) (by kernel_rfl)
theorem irr213441916511 : Irr 213441916511 := gen213441916511.irr
theorem gen19757330305831588566944191468367130476339 : Gen 19757330305831588566944191468367130476339 2 := gen_cert 19757330305831588566944191468367130476339 2 [2, 269, 213441916511, 172054593956031949258510691] (fun q hq => by
  simp only [List.mem_cons, List.mem_nil_iff, or_false] at hq
  rcases hq with rfl | rfl | rfl | rfl
  · exact (irr_small 2 2000 rfl (by kernel_rfl))
  · exact (irr_small 269 2000 rfl (by kernel_rfl))
  · exact (irr213441916511)
  · exact (irr172054593956031949258510691)
  ) (by kernel_rfl)
theorem irr19757330305831588566944191468367130476339 : Irr 19757330305831588566944191468367130476339 := gen19757330305831588566944191468367130476339.irr
theorem gen276602624281642239937218680557139826668747 : Gen 276602624281642239937218680557139826668747 2 := gen_cert 276602624281642239937218680557139826668747 2 [2, 7, 19757330305831588566944191468367130476339] (fun q hq => by
  simp only [List.mem_cons, List.mem_nil_iff, or_false] at hq
  rcases hq with rfl | rfl | rfl
  · exact (irr_small 2 2000 rfl (by kernel_rfl))
  · exact (irr_small 7 2000 rfl (by kernel_rfl))
  · exact (irr19757330305831588566944191468367130476339)
  ) (by kernel_rfl)
theorem irr276602624281642239937218680557139826668747 : Irr 276602624281642239937218680557139826668747 := gen276602624281642239937218680557139826668747.irr
theorem gen3044861653679985063343 : Gen 3044861653679985063343 5 := gen_cert 3044861653679985063343 5 [2, 3, 11, 30703, 82163, 132667, 137849] (fun q hq => by
  simp only [List.mem_cons, List.mem_nil_iff, or_false] at hq
  rcases hq with rfl | rfl | rfl | rfl | rfl | rfl | rfl
  · exact (irr_small 2 2000 rfl (by kernel_rfl))
  · exact (irr_small 3 2000 rfl (by kernel_rfl))
  · exact (irr_small 11 2000 rfl (by kernel_rfl))
  · exact (irr_small 30703 2000 rfl (by kernel_rfl))
  · exact (irr_small 82163 2000 rfl (by kernel_rfl))
  · exact (irr_small 132667 2000 rfl (by kernel_rfl))
  · exact (irr_small 137849 2000 rfl (by kernel_rfl))
  ) (by kernel_rfl)
theorem irr3044861653679985063343 : Irr 3044861653679985063343 := gen3044861653679985063343.irr
theorem gen14741173 : Gen 14741173 2 := gen_cert 14741173 2 [2, 2, 3, 3, 409477] (fun q hq => by
  simp only [List.mem_cons, List.mem_nil_iff, or_false] at hq
  rcases hq with rfl | rfl | rfl | rfl | rfl
  · exact (irr_small 2 2000 rfl (by kernel_rfl))
  · exact (irr_small 2 2000 rfl (by kernel_rfl))
  · exact (irr_small 3 2000 rfl (by kernel_rfl))
  · exact (irr_small 3 2000 rfl (by kernel_rfl))
  · exact (irr_small 409477 2000 rfl (by kernel_rfl))
  ) (by kernel_rfl)
theorem irr14741173 : Irr 14741173 := gen14741173.irr
theorem gen58964693 : Gen 58964693 2 := gen_cert 58964693 2 [2, 2, 14741173] (fun q hq => by
  simp only [List.mem_cons, List.mem_nil_iff, or_false] at hq
  rcases hq with rfl | rfl | rfl
  · exact (irr_small 2 2000 rfl (by kernel_rfl))
  · exact (irr_small 2 2000 rfl (by kernel_rfl))
  · exact (irr14741173)
  ) (by kernel_rfl)
theorem irr58964693 : Irr 58964693 := gen58964693.irr
theorem gen198211423230930754013084525763697 : Gen 198211423230930754013084525763697 5 := gen_cert 198211423230930754013084525763697 5 [2, 2, 2, 2, 3, 23, 58964693, 3044861653679985063343] (fun q hq => by
  simp only [List.mem_cons, List.mem_nil_iff, or_false] at hq
  rcases hq with rfl | rfl | rfl | rfl | rfl | rfl | rfl | rfl
  · exact (irr_small 2 2000 rfl (by kernel_rfl))
  · exact (irr_small 2 2000 rfl (by kernel_rfl))
  · exact (irr_small 2 2000 rfl (by kernel_rfl))
  · exact (irr_small 2 2000 rfl (by kernel_rfl))
  · exact (irr_small 3 2000 rfl (by kernel_rfl))
  · exact (irr_small 23 2000 rfl (by kernel_rfl))
  · exact (irr58964693)
  · exact (irr3044861653679985063343)
  ) (by kernel_rfl)
theorem irr198211423230930754013084525763697 : Irr 198211423230930754013084525763697 := gen198211423230930754013084525763697.irr
theorem gen7237005577332262213973186563042994240857116359379907606001950938285454250989 : Gen 7237005577332262213973186563042994240857116359379907606001950938285454250989 2 := gen_cert 7237005577332262213973186563042994240857116359379907606001950938285454250989 2 [2, 2, 3, 11, 198211423230930754013084525763697, 276602624281642239937218680557139826668747] (fun q hq => by
  simp only [List.mem_cons, List.mem_nil_iff, or_false] at hq
  rcases hq with rfl | rfl | rfl | rfl | rfl | rfl
  · exact (irr_small 2 2000 rfl (by kernel_rfl))
  · exact (irr_small 2 2000 rfl (by kernel_rfl))
  · exact (irr_small 3 2000 rfl (by kernel_rfl))
  · exact (irr_small 11 2000 rfl (by kernel_rfl))
  · exact (irr198211423230930754013084525763697)
  · exact (irr276602624281642239937218680557139826668747)
  ) (by kernel_rfl)
theorem irr7237005577332262213973186563042994240857116359379907606001950938285454250989 : Irr 7237005577332262213973186563042994240857116359379907606001950938285454250989 := gen7237005577332262213973186563042994240857116359379907606001950938285454250989.irr
end Go.Num

/- The ladder's answers: first coordinates of multiples of the base point, which are never none. -/
namespace Go.Num
set_option linter.unusedVariables false
set_option linter.unusedSimpArgs false
open Go Go.Eng
set_option maxRecDepth 100000
theorem kA_eq : kA = toF 121665 := rfl
theorem kd_nat : (dNat * (121665 + 1) + 121665) % Pq = 0 := by decide
theorem kd_F : dF * (kA + 1) = -kA := by
  have h : toF (dNat * (121665 + 1) + 121665) = 0 := toF_zero.2 kd_nat
  rw [toF_add, toF_mul, toF_add, toF_one, ← kA_eq] at h
  have e : toF dNat = dF := rfl
  rw [e] at h
  generalize kA = k at *
  generalize dF = d at *
  exact neg_of h
theorem k1_ne : kA + 1 ≠ 0 := by
  intro h
  rw [kA_eq, ← toF_one, ← toF_add] at h
  have := toF_zero.1 h
  revert this
  decide
theorem small1 : opsF.small 1 = 1 := toF_one
theorem onB : OnA dF aB := by have := on_aff pr_base.on; rw [aff_up] at this; exact this
/-! ### as whole numbers -/
theorem toF_invF (z n : Nat) (hn : n + 2 = Pq) (h0 : 0 < n) : toF (z ^ n % Pq) = invF (toF z) := by
  rw [show toF (z ^ n % Pq) = toF (z ^ n) from toF_eq.2 (Nat.mod_mod _ _)]
  by_cases hz : z % Pq = 0
  · rw [toF_zero.2 hz, inv_zero]
    refine toF_zero.2 ?_
    rw [Nat.pow_mod, hz, Nat.zero_pow h0, Nat.zero_mod]
  · have hz' : toF z ≠ 0 := fun e => hz (toF_zero.1 e)
    refine F_cancel hz' ?_
    rw [invF_mul hz', ← toF_mul, ← toF_one]
    refine toF_eq.2 ?_
    have := genP.inv P3 hz
    rw [show Pq - 2 = n by omega] at this
    rw [this]
    exact (Nat.mod_eq_of_lt (by rw [← hn]; omega)).symm
theorem quot_F {p : P2 Nat} {q : P2 Fp} (hx : Rm p.x q.x) (hz : Rm p.z q.z) : toF (quotM p) = q.x * invF q.z := by
  unfold quotM
  rw [pw_inv, show toF (p.x * (p.z ^ (Pq - 2) % Pq) % Pq) = toF (p.x * (p.z ^ (Pq - 2) % Pq)) from toF_eq.2 (Nat.mod_mod _ _), toF_mul, toF_invF p.z (Pq - 2) (by decide) (by decide), hx.val, hz.val]
theorem nb_div (k : List UInt8) (hk : leNat k < 2 ^ 255) : ∀ j, j ≤ 255 → nb k j = leNat k / 2 ^ (255 - j)
  | 0, _ => by rw [Nat.sub_zero, Nat.div_eq_of_lt hk]; rfl
  | j + 1, h => by
    have ih := nb_div k hk j (by omega)
    unfold nb
    rw [ih, bitK_val]
    have e1 : 255 - j = (254 - j) + 1 := by omega
    have e2 : 255 - (j + 1) = 254 - j := by omega
    rw [e1, e2, Nat.pow_succ, ← Nat.div_div_eq_div_mul]
    generalize leNat k / 2 ^ (254 - j) = v
    by_cases hv : v % 2 = 1
    · rw [decide_eq_true hv, cond_true]; omega
    · rw [decide_eq_false hv, cond_false]; omega
theorem nb_all (k : List UInt8) (hk : leNat k < 2 ^ 255) : nb k 255 = leNat k := by
  rw [nb_div k hk 255 (Nat.le_refl _), Nat.sub_self, Nat.pow_zero, Nat.div_one]
/-- The ladder of a point's first coordinate is that of the multiple. -/
theorem lad_F {D : Fp × Fp} (hD : OnA dF D) (n3 : D.2 ≠ 1) (n4 : D.2 ≠ -1) {u : Nat} (hu : toF u = uF D.2) (hlt : u < Pq) (k : List UInt8) (hk : leNat (clampL k) < 2 ^ 255) :
    toF (quotM (ladM k u)) = uF (mulA dF D (leNat (clampL k))).2 := by
  have m3 : 1 - D.2 ≠ 0 := fun e => n3 (one_sub e)
  have hu2 : toF u * (1 - D.2) = 1 + D.2 := by rw [hu]; exact div_back m3
  have r := (lad_keeps keeps_MF (clampL k) (⟨hlt, rfl⟩ : Rm u (toF u)) 255).1
  have q := (lad_pt crv kd_F k1_ne hD n3 n4 hu2 (clampL k) small1 255).1
  rw [nb_all _ hk] at q
  rw [← rp_val q]
  exact quot_F r.1 r.2
/-! ### secrets -/
theorem clamp_val {k : List UInt8} (h : isLen k 32 = true) : leNat (clampL k) % 8 = 0 ∧ 2 ^ 254 ≤ leNat (clampL k) ∧ leNat (clampL k) < 2 ^ 255 := by
  rw [isLen_eq] at h
  obtain ⟨a, m, b, rfl, hm⟩ : ∃ a m b, k = a :: (m ++ [b]) ∧ m.length = 30 := by
    match k, h with
    | a :: l, h =>
      have h1 : l.length = 31 := by simpa using h
      refine ⟨a, l.take 30, l.getD 30 0, ?_, by rw [List.length_take]; omega⟩
      have h2 : l.drop 30 = [l.getD 30 0] := by
        rw [List.drop_eq_getElem_cons (by omega), List.drop_of_length_le (by omega)]
        rw [List.getD_eq_getElem?_getD, List.getElem?_eq_getElem (by omega)]; rfl
      rw [← h2, List.take_append_drop]
  have e : clampL (a :: (m ++ [b])) = (a &&& 248) :: (m ++ [(b &&& 127) ||| 64]) := by
    unfold clampL
    have g1 : (a :: (m ++ [b])).getD 31 0 = b := by
      rw [List.getD_eq_getElem?_getD, List.getElem?_cons_succ, List.getElem?_append_right (by omega), hm]; rfl
    rw [g1]
    show ((a &&& 248) :: (m ++ [b])).set 31 _ = _
    rw [List.set_cons_succ, List.set_append_right _ _ (by omega), hm]; rfl
  rw [e]
  have hb := leNat_bound m
  rw [hm] at hb
  have s1 : leNat ((a &&& 248) :: (m ++ [(b &&& 127) ||| 64])) = (a &&& 248).toNat + 256 * (leNat m + 256 ^ 30 * ((b &&& 127) ||| 64).toNat) := by
    show (a &&& 248).toNat + 256 * leNat (m ++ [(b &&& 127) ||| 64]) = _
    rw [leNat_app2, hm]
    rfl
  have k1 := all8 (f := fun x => (x &&& 248).toNat % 8 == 0) (by kernel_rfl) a
  have k2 := all8 (f := fun x => Nat.ble 64 ((x &&& 127) ||| 64).toNat && Nat.ble ((x &&& 127) ||| 64).toNat 127) (by kernel_rfl) b
  simp only [beq_iff_eq] at k1
  simp only [Bool.and_eq_true, Nat.ble_eq] at k2
  have k3 := (a &&& 248).toNat_lt
  rw [s1]
  generalize (a &&& 248).toNat = x at *
  generalize ((b &&& 127) ||| 64).toNat = y at *
  generalize leNat m = z at *
  simp only [Nat.reducePow] at *
  omega
theorem genL : Gen Lq 2 := gen7237005577332262213973186563042994240857116359379907606001950938285454250989
theorem L3 : 3 ≤ Lq := by decide
theorem L_mul {a b : Nat} (h : a * b % Lq = 0) : a % Lq = 0 ∨ b % Lq = 0 := by
  by_cases ha : a % Lq = 0
  · exact .inl ha
  · exact .inr (by
      have := genL.cancel L3 ha (s := b) (t := 0) (by rw [h, Nat.mul_zero, Nat.zero_mod])
      rw [this, Nat.zero_mod])
theorem L_8 : ¬ 8 % Lq = 0 := by decide
theorem L_2 : ¬ 2 % Lq = 0 := by decide
theorem L_big : 2 ^ 252 < Lq := by decide
theorem clamp_L {k : List UInt8} (h : isLen k 32 = true) : ¬ leNat (clampL k) % Lq = 0 := by
  obtain ⟨h1, h2, h3⟩ := clamp_val h
  generalize leNat (clampL k) = n at *
  intro e
  have e2 : n = 8 * (n / 8) := by omega
  rw [e2] at e
  have e3 := (L_mul e).resolve_left L_8
  have lb := L_big
  have lt : n / 8 < Lq := by
    simp only [Nat.reducePow] at h3 lb
    omega
  rw [Nat.mod_eq_of_lt lt] at e3
  simp only [Nat.reducePow] at h2
  omega
theorem B_ne : aB ≠ zeroA := by
  intro e
  have h := congrArg (fun p : Fp × Fp => p.1.val) e
  revert h
  decide
theorem mul_ne {n : Nat} (h : ¬ n % Lq = 0) : mulA dF aB n ≠ zeroA := by
  intro e
  have h1 := genL.inv L3 h
  have h2 : mulA dF aB (n * n ^ (Lq - 2)) = zeroA := by rw [mulA_mul crv onB, e, mulA_zero]
  rw [← order_mod, h1, mulA_one] at h2
  exact B_ne h2
theorem x_zero {d i : Fp} (h : Crv d i) {a : Fp × Fp} (ha : OnA d a) (hy : a.2 = 1 ∨ a.2 = -1) : a.1 = 0 := by
  have e := k_alg d a.1 a.2 ha
  have hk := k_ne h ha
  have hz : a.1 * a.1 * (1 + d * (a.2 * a.2)) = 0 := by
    rw [e]
    exact sq_one_gen hy
  exact F_sq_zero ((F_mul_zero hz).resolve_right hk)
theorem twice_zero {d i : Fp} (h : Crv d i) {a : Fp × Fp} (ha : OnA d a) (hy : a.2 = 1 ∨ a.2 = -1) : addA d a a = zeroA := by
  have hx := x_zero h ha hy
  have e : negA a = a := by
    unfold negA
    exact Prod.ext (by show -a.1 = a.1; exact neg_zero' hx) rfl
  have := addA_neg h ha
  rw [e] at this
  exact this
theorem mul_y {n : Nat} (h : ¬ n % Lq = 0) : (mulA dF aB n).2 ≠ 1 ∧ (mulA dF aB n).2 ≠ -1 := by
  have key : ¬ ((mulA dF aB n).2 = 1 ∨ (mulA dF aB n).2 = -1) := fun hy => by
    have h1 := twice_zero crv (OnA.mul crv onB n) hy
    rw [← mulA_add crv onB] at h1
    refine mul_ne (n := n + n) (fun e => ?_) h1
    rw [show n + n = 2 * n by omega] at e
    exact (L_mul e).elim L_2 h
  exact ⟨fun e => key (.inl e), fun e => key (.inr e)⟩
theorem uF_ne {y : Fp} (h1 : y ≠ 1) (h2 : y ≠ -1) : uF y ≠ 0 := by
  unfold uF
  have m3 : 1 - y ≠ 0 := fun e => h1 (one_sub e)
  refine F_mul_ne (fun e => h2 (one_add e)) (fun e => ?_)
  have := invF_mul m3
  rw [e, mul_zero'] at this
  exact F_one this.symm
/-! ### keys -/
/-- The key is that of a multiple of the base point. -/
structure KeyOf (u : List UInt8) (n : Nat) : Prop where
  len : isLen u 32 = true
  lt : leNat u < Pq
  val : toF (leNat u) = uF (mulA dF aB n).2
  ne : ¬ n % Lq = 0
theorem u_nine : toF 9 = uF aB.2 := by
  have h : toF (9 * (1 + (Pq - yB % Pq))) = toF (1 + yB) := toF_eq.2 (by decide)
  rw [toF_mul, toF_sub, toF_add, toF_one] at h
  have e : toF yB = aB.2 := rfl
  rw [e] at h
  have n := (mul_y (n := 1) (by decide)).1
  rw [mulA_one] at n
  have m3 : 1 - aB.2 ≠ 0 := fun e => n (one_sub e)
  unfold uF
  exact (F_eq_div m3 h).symm
theorem key_nine : KeyOf nine32 1 := ⟨rfl, by rw [nine_val]; decide, by rw [nine_val, mulA_one]; exact u_nine, by decide⟩
theorem quot_lt (p : P2 Nat) : quotM p < Pq := Nat.mod_lt _ Pq_pos
theorem KeyOf.lad {u : List UInt8} {n : Nat} (h : KeyOf u n) {k : List UInt8} (hk : isLen k 32 = true) : KeyOf (ladE k u) (n * leNat (clampL k)) := by
  have hp : Pq < p255 := by decide
  have e := ladE_nat k h.len
  rw [Nat.mod_eq_of_lt (show leNat u < p255 from Nat.lt_trans h.lt hp), Nat.mod_eq_of_lt h.lt] at e
  obtain ⟨y1, y2⟩ := mul_y h.ne
  have q := lad_F (OnA.mul crv onB n) y1 y2 h.val h.lt k (clamp_val hk).2.2
  rw [← mulA_mul crv onB] at q
  exact ⟨isLen_lad _ _, by rw [e]; exact quot_lt _, by rw [e]; exact q, fun e => (L_mul e).elim h.ne (clamp_L hk)⟩
theorem KeyOf.nz {u : List UInt8} {n : Nat} (h : KeyOf u n) : (u == zero32) = false := by
  obtain ⟨y1, y2⟩ := mul_y h.ne
  rw [beq_eq_false_iff_ne]
  intro e
  have v := h.val
  rw [e, zero_val32, toF_nil] at v
  exact uF_ne y1 y2 v.symm
theorem KeyOf.same {u v : List UInt8} {n m : Nat} (h : KeyOf u n) (k : KeyOf v m) (e : n = m) : u = v := by
  subst e
  refine leNat_inj ((isLen_eq.1 h.len).trans (isLen_eq.1 k.len).symm) ?_
  have := toF_eq.1 (h.val.trans k.val.symm)
  rwa [Nat.mod_eq_of_lt h.lt, Nat.mod_eq_of_lt k.lt] at this
end Go.Num

/- Two and three make the same. -/
namespace Go.Proofs.Ythpknhpbnpaghaa
set_option linter.unusedVariables false
set_option linter.unusedSimpArgs false
open Go Go.Eng Go.Num
set_option maxRecDepth 100000
set_option maxHeartbeats 1000000
set_option linter.unusedSimpArgs false
set_option linter.unusedVariables false
theorem w4a (φ : Fk) (a b : List UInt8) : ansO (run1O Try.prog (psnka φ) (nka φ) [24, 27, 31, 35] [true, true] [] (mask 4) 200 4 [.str a, .str b] [] Try.prog.globals.size) = some (.bool true, [((a.length : Int) != 32), φ.puR a != 0]) := by kernel_rfl
theorem w4b (φ : Fk) (a b : List UInt8) : ansO (run1O Try.prog (psnka φ) (nka φ) [24, 27, 31, 35] [false, true, false, true] [] (mask 4) 200 4 [.str a, .str b] [] Try.prog.globals.size) = some (.bool true, [((b.length : Int) != 32), !((a.length : Int) != 32), φ.puR b != 0, !(φ.puR a != 0)]) := by kernel_rfl
theorem w4c (φ : Fk) (a b : List UInt8) : ansO (run1O Try.prog (psnka φ) (nka φ) [24, 27, 53, 56, 61] [false, false, true, true, true] [] (mask 4) 200 4 [.str a, .str b] [] Try.prog.globals.size) = some (.bool true, [φ.shV a (φ.puV b) == φ.shV b (φ.puV a), φ.shR b (φ.puV a) == 0, φ.shR a (φ.puV b) == 0, !(φ.puR b != 0), !(φ.puR a != 0)]) := by kernel_rfl
theorem pu_key {a : List UInt8} (h : isLen a 32 = true) : puV ladE a = ladE a nine32 ∧ puR a = 0 ∧ KeyOf (ladE a nine32) (1 * leNat (clampL a)) := by
  unfold puV puR
  rw [h]
  exact ⟨rfl, rfl, key_nine.lad h⟩
theorem pu_not {a : List UInt8} (h : isLen a 32 = false) : puR a = 2 := by
  unfold puR
  rw [h]; rfl
theorem sh_key {a u : List UInt8} {n : Nat} (h : isLen a 32 = true) (k : KeyOf u n) : shV ladE a u = ladE a u ∧ shR ladE a u = 0 ∧ KeyOf (ladE a u) (n * leNat (clampL a)) := by
  have q := k.lad h
  have e := shV_lad h k.len q.nz
  exact ⟨e.1, e.2, q⟩
theorem run4 (a b : List UInt8) : (run1 Try.prog (nka realFk) (mask 4) 200 4 [.str a, .str b] [] Try.prog.globals.size).map (·.1) = some (.bool true) := by
  cases ha : isLen a 32
  · exact ansO_run (nka_ps _) (w4a realFk a b) (by simp [allT, ne32 ha, realFk, pu_not ha])
  obtain ⟨a1, a2, a3⟩ := pu_key ha
  cases hb : isLen b 32
  · exact ansO_run (nka_ps _) (w4b realFk a b) (by simp [allT, to32 ha, ne32 hb, realFk, a2, pu_not hb])
  obtain ⟨b1, b2, b3⟩ := pu_key hb
  obtain ⟨c1, c2, c3⟩ := sh_key ha b3
  obtain ⟨d1, d2, d3⟩ := sh_key hb a3
  have e := c3.same d3 (by rw [Nat.one_mul, Nat.one_mul, Nat.mul_comm])
  refine ansO_run (nka_ps _) (w4c realFk a b) ?_
  simp only [realFk, a1, a2, b1, b2, c1, c2, d1, d2, e]
  simp [allT]
theorem law4 (a b : List UInt8) : CallOk Try.prog 4 [.str a, .str b] (.pure (.bool true)) := callOk_val nka_ok hmix (run4 a b) rfl rfl
theorem w5a (φ : Fk) (a b c : List UInt8) : ansO (run1O Try.prog (psnka φ) (nka φ) [23, 27, 32] [true] [] (mask 5) 200 5 [.str a, .str b, .str c] [] Try.prog.globals.size) = some (.bool true, [φ.puR a != 0]) := by kernel_rfl
theorem w5b (φ : Fk) (a b c : List UInt8) : ansO (run1O Try.prog (psnka φ) (nka φ) [23, 27, 32] [false, true] [] (mask 5) 200 5 [.str a, .str b, .str c] [] Try.prog.globals.size) = some (.bool true, [((b.length : Int) != 32), !(φ.puR a != 0)]) := by kernel_rfl
theorem w5c (φ : Fk) (a b c : List UInt8) : ansO (run1O Try.prog (psnka φ) (nka φ) [23, 27, 32] [false, false, true] [] (mask 5) 200 5 [.str a, .str b, .str c] [] Try.prog.globals.size) = some (.bool true, [((c.length : Int) != 32), !((b.length : Int) != 32), !(φ.puR a != 0)]) := by kernel_rfl
theorem w5d (φ : Fk) (a b c : List UInt8) : ansO (run1O Try.prog (psnka φ) (nka φ) [23, 27, 32, 48, 51, 66, 69, 74] [false, false, false, false, false, true, true, true] [] (mask 5) 200 5 [.str a, .str b, .str c] [] Try.prog.globals.size) = some (.bool true, [φ.shV c (φ.shV b (φ.puV a)) == φ.shV b (φ.shV c (φ.puV a)), φ.shR b (φ.shV c (φ.puV a)) == 0, φ.shR c (φ.shV b (φ.puV a)) == 0, !(φ.shR c (φ.puV a) != 0), !(φ.shR b (φ.puV a) != 0), !((c.length : Int) != 32), !((b.length : Int) != 32), !(φ.puR a != 0)]) := by kernel_rfl
theorem run5 (a b c : List UInt8) : (run1 Try.prog (nka realFk) (mask 5) 200 5 [.str a, .str b, .str c] [] Try.prog.globals.size).map (·.1) = some (.bool true) := by
  cases ha : isLen a 32
  · exact ansO_run (nka_ps _) (w5a realFk a b c) (by simp [allT, realFk, pu_not ha])
  obtain ⟨a1, a2, a3⟩ := pu_key ha
  cases hb : isLen b 32
  · exact ansO_run (nka_ps _) (w5b realFk a b c) (by simp [allT, ne32 hb, realFk, a2])
  cases hc : isLen c 32
  · exact ansO_run (nka_ps _) (w5c realFk a b c) (by simp [allT, to32 hb, ne32 hc, realFk, a2])
  obtain ⟨c1, c2, c3⟩ := sh_key hb a3
  obtain ⟨d1, d2, d3⟩ := sh_key hc a3
  obtain ⟨e1, e2, e3⟩ := sh_key hc c3
  obtain ⟨f1, f2, f3⟩ := sh_key hb d3
  have e := e3.same f3 (Nat.mul_right_comm _ _ _)
  refine ansO_run (nka_ps _) (w5d realFk a b c) ?_
  simp only [realFk, a1, a2, c1, c2, d1, d2, e1, e2, f1, f2, e, to32 hb, to32 hc]
  simp [allT]
theorem law5 (a b c : List UInt8) : CallOk Try.prog 5 [.str a, .str b, .str c] (.pure (.bool true)) := callOk_val nka_ok hmix (run5 a b c) rfl rfl
end Go.Proofs.Ythpknhpbnpaghaa
